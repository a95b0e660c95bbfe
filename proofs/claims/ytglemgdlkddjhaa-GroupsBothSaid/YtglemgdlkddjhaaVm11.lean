/-
The value machine, part 11: places, parts, lengths.
-/
import Derived.Test.YtglemgdlkddjhaaVm10
namespace Go.Proofs.Ytglemgdlkddjhaa.Vm
open Go

theorem flat_part {sz : Nat} : ∀ {xs : List (List V)} {i : Nat} {x : List V}, (∀ x ∈ xs, x.length = sz) → xs[i]? = some x → (xs.flatten.drop (i * sz)).take sz = x
  | [], i, x, _, e => by simp at e
  | y :: ys, 0, x, h, e => by
    simp at e; subst e
    have := h y (List.mem_cons_self ..)
    simp only [Nat.zero_mul, List.drop_zero, List.flatten_cons]
    rw [List.take_append_of_le_length (by omega), List.take_of_length_le (by omega)]
  | y :: ys, i + 1, x, h, e => by
    have := h y (List.mem_cons_self ..)
    have ih := flat_part (fun x hx => h x (List.mem_cons_of_mem _ hx)) (show ys[i]? = some x by simpa using e)
    simp only [List.flatten_cons]
    rw [show (i + 1) * sz = y.length + i * sz by rw [this, Nat.add_mul]; omega, ← List.drop_drop, List.drop_left]
    exact ih

theorem flat_cut {sz : Nat} : ∀ {xs : List (List V)} (l h : Nat), (∀ x ∈ xs, x.length = sz) → (((xs.take h).drop l).flatten) = (xs.flatten.take (h * sz)).drop (l * sz) := by
  have htake : ∀ (xs : List (List V)) (h : Nat), (∀ x ∈ xs, x.length = sz) → (xs.take h).flatten = xs.flatten.take (h * sz) := by
    intro xs
    induction xs with
    | nil => intro h _; simp
    | cons y ys ih =>
      intro h hz
      have hy := hz y (List.mem_cons_self ..)
      match h with
      | 0 => simp
      | h + 1 =>
        simp only [List.take_succ_cons, List.flatten_cons]
        rw [ih h (fun x hx => hz x (List.mem_cons_of_mem _ hx)), show (h + 1) * sz = y.length + h * sz by rw [hy, Nat.add_mul]; omega, List.take_length_add_append]
  have hdrop : ∀ (xs : List (List V)) (l : Nat), (∀ x ∈ xs, x.length = sz) → (xs.drop l).flatten = xs.flatten.drop (l * sz) := by
    intro xs
    induction xs with
    | nil => intro l _; simp
    | cons y ys ih =>
      intro l hz
      have hy := hz y (List.mem_cons_self ..)
      match l with
      | 0 => simp
      | l + 1 =>
        simp only [List.drop_succ_cons, List.flatten_cons]
        rw [ih l (fun x hx => hz x (List.mem_cons_of_mem _ hx)), show (l + 1) * sz = y.length + l * sz by rw [hy, Nat.add_mul]; omega, ← List.drop_drop, List.drop_left]
  intro xs l h hz
  rw [hdrop _ _ (fun x hx => hz x (List.mem_of_mem_take hx)), htake _ _ hz]

section
variable {P : Program} {w : World} {G : Gh} {own : Nat → Option Place} {H : Heap}

theorem indexAddr_sl_post (hok : Ok w G own H) {t e : TypeId} {sz : Nat} (hu : P.underlying t = some (.slice e)) (hs : (P.info? e).map (·.size) = some sz)
    {o : Bool} {xs : List (List V)} {k : IntKind} {i : Int} {c ci : Value} {bl : List Nat} (hr : RepL w G [.sl o sz xs, .int k i] [c, ci] bl) (h0 : 0 ≤ i) {x : List V} (hx : xs[i.toNat]? = some x) :
    DoneV ((Instr.indexAt t c ci).run P w) (Post w G own (.cptr x) H) := by
  obtain ⟨c', cs', b1, b2, hcs, _, hr2, _, hcase⟩ := hr.sl_inv
  cases hcs
  obtain ⟨cs', hcs, _⟩ := hr2.int_inv
  cases hcs
  have hlt : i.toNat < xs.length := by
    rcases Nat.lt_or_ge i.toNat xs.length with h | h
    · exact h
    · rw [List.getElem?_eq_none h] at hx; cases hx
  rcases hcase with ⟨_, rfl⟩ | ⟨a, cap, acs, rfl, hcap, hia, hri, hz⟩
  · simp at hlt
  · refine ⟨.pointer (some (a.add (i.toNat * sz))), w, ?_, post_plain hok (.cptr (acs := (acs.drop (i.toNat * sz)).take sz) _ ((hia.drop _).take _) ?_ .nil)⟩
    · simp only [Instr.indexAt, asIntOf, Sem.run_bind, Sem.run_pure, Result.andThen_ok, run_underlying hu, Sem.run_ite]
      rw [if_pos ⟨h0, by omega⟩]
      simp [run_sizeOf hs]
    · have := (hri.drop (i.toNat * sz)).take sz
      rwa [flat_part hz hx] at this

theorem indexAddr_hsl_post (hok : Ok w G own H) {t e : TypeId} {sz : Nat} (hu : P.underlying t = some (.slice e)) (hs : (P.info? e).map (·.size) = some sz)
    {id ver off len : Nat} {k : IntKind} {i : Int} {c ci : Value} {bl : List Nat} (hr : RepL w G [.hsl id ver off len sz, .int k i] [c, ci] bl) (h0 : 0 ≤ i) (hlt : i < len) :
    DoneV ((Instr.indexAt t c ci).run P w) (Post w G own (.ptr id ver (off + i.toNat * sz)) H) := by
  obtain ⟨b, ver', n, bb, cap, cs', hcs, hl, hv, hc, hb, hr2⟩ := hr.hsl_inv
  cases hcs
  obtain ⟨cs', hcs, _⟩ := hr2.int_inv
  cases hcs
  refine ⟨.pointer (some ⟨bb, off + i.toNat * sz, none⟩), w, ?_, post_same hok (.ptr id ver _ b ver' n bb hl hv (fun e => (hb e).1) .nil)⟩
  simp only [Instr.indexAt, asIntOf, Sem.run_bind, Sem.run_pure, Result.andThen_ok, run_underlying hu, Sem.run_ite]
  rw [if_pos ⟨h0, hlt⟩]
  simp [run_sizeOf hs, add_none]

theorem ba_getElem? (s : ByteArray) (i : Nat) : s[i]? = s.data.toList[i]? := by
  rw [Array.getElem?_toList]
  by_cases h : i < s.size
  · rw [getElem?_pos s i h, getElem?_pos s.data i h]; rfl
  · rw [getElem?_neg s i h, getElem?_neg s.data i h]

theorem indexStr_post (hok : Ok w G own H) {t : TypeId} (hu : P.underlying t = some .string) {s : List UInt8} {k : IntKind} {i : Int} {c ci : Value} {bl : List Nat} (hr : RepL w G [.str s, .int k i] [c, ci] bl) (h0 : 0 ≤ i) {x : UInt8} (hx : s[i.toNat]? = some x) :
    DoneV ((Instr.index t c ci).run P w) (Post w G own (.int .u8 x.toNat) H) := by
  obtain ⟨b, cs', rfl, hcs, hr2⟩ := hr.str_inv
  cases hcs
  obtain ⟨cs', hcs, _⟩ := hr2.int_inv
  cases hcs
  refine ⟨.int .u8 x.toNat, w, ?_, post_plain hok (.int _ _ .nil)⟩
  have : b[i.toNat]? = some x := by rw [ba_getElem?]; exact hx
  simp [Instr.index, asIntOf, run_underlying hu, h0, this]

theorem fieldAddr_run {t : TypeId} {fields : Array Field} {f : Field} {i n : Nat} (hu : P.underlying t = some (.struct fields)) (hf : fields[i]? = some f) (hs : (P.info? f.type).map (·.size) = some n) (hn : n ≠ 0) (a : Addr) :
    (Instr.fieldAt t (.pointer (some a)) i).run P w = .ok (.pointer (some (a.add f.offset))) w := by
  simp [Instr.fieldAt, run_underlying hu, hf, Instr.sureAddr, fieldPlace, run_sizeOf hs, hn]

theorem fieldAddr_ptr_post (hok : Ok w G own H) {t : TypeId} {fields : Array Field} {f : Field} {i n : Nat} (hu : P.underlying t = some (.struct fields)) (hf : fields[i]? = some f) (hs : (P.info? f.type).map (·.size) = some n) (hn : n ≠ 0)
    {id ver off : Nat} {c : Value} {bl : List Nat} (hr : RepL w G [.ptr id ver off] [c] bl) : DoneV ((Instr.fieldAt t c i).run P w) (Post w G own (.ptr id ver (off + f.offset)) H) := by
  obtain ⟨b, ver', n', bb, _, hcs, hl, hv, hb, _⟩ := hr.ptr_inv
  cases hcs
  refine ⟨_, w, fieldAddr_run hu hf hs hn _, ?_⟩
  rw [add_none]
  exact post_same hok (.ptr id ver _ b ver' n' bb hl hv hb .nil)

theorem fieldAddr_cptr_post (hok : Ok w G own H) {t : TypeId} {fields : Array Field} {f : Field} {i n : Nat} (hu : P.underlying t = some (.struct fields)) (hf : fields[i]? = some f) (hs : (P.info? f.type).map (·.size) = some n) (hn : n ≠ 0)
    {ws : List V} {c : Value} {bl : List Nat} (hr : RepL w G [.cptr ws] [c] bl) : DoneV ((Instr.fieldAt t c i).run P w) (Post w G own (.cptr (ws.drop f.offset)) H) := by
  obtain ⟨a, acs, _, hcs, ha, hri, _⟩ := hr.cptr_inv
  cases hcs
  exact ⟨_, w, fieldAddr_run hu hf hs hn _, post_plain hok (.cptr _ (ha.drop _) (hri.drop _) .nil)⟩

theorem nilCheck_post (hok : Ok w G own H) {v : V} {c : Value} {bl : List Nat} (hr : RepL w G [v] [c] bl) (hn : bl.Nodup) (ha : ∀ b ∈ bl, own b = some .arg)
    (hv : (match v with | .ptr .. | .cptr _ | .fn .. => true | _ => false) = true) (ρ : Operand → Value) (x : Operand) (hx : ρ x = c) (o : Oper) (ho : o.op = .nilCheck x) :
    Done ((execOp ρ o).run P w) (Post w G own v H) := by
  have hpost := post_arg hok hr hn ha
  refine .inl ⟨c, w, ?_, hpost⟩
  unfold execOp
  simp only [ho, hx]
  cases hr with
  | imm _ c h1 _ => cases h1 <;> first | rfl | cases hv
  | ptr => rfl
  | fn => rfl
  | _ => exact absurd hv (by simp)

theorem field_post (hok : Ok w G own H) {t : TypeId} {fields : Array Field} {f : Field} {i n : Nat} {d : TypeDesc} (hu : P.underlying t = some (.struct fields)) (hf : fields[i]? = some f)
    (hs : (P.info? f.type).map (·.size) = some n) (hd : P.underlying f.type = some d) (hg : aggOf P f.type = false → n = 1)
    {cs l : List V} {v : V} {c : Value} {bl : List Nat} (hr : RepL w G [.agg cs] [c] bl) (hn : bl.Nodup) (ha : ∀ b ∈ bl, own b = some .arg) (hcut : cut cs f.offset n = some l) (hm : mk (aggOf P f.type) l = some v) :
    DoneV ((Instr.field t c i).run P w) (Post w G own v H) := by
  cases hr with
  | imm _ c h1 _ => cases h1
  | agg hr h =>
    rename_i acs b1 bl'
    obtain ⟨_, rfl⟩ := h.nil_inv
    have hlen := hr.length
    have hcl : acs.toArray.toList = acs := rfl
    obtain ⟨b1, b2, b3, hbl, _, r2, _, hl2, hcell⟩ := obj_part (c := acs.toArray) (cs := cs) (by rw [hcl, hlen, List.take_length]; exact hr) (by rw [hlen]; exact Nat.le_refl _) hcut
    rw [hcl] at r2 hl2 hcell
    obtain ⟨k1, k2, k3, _⟩ := cut_some hcut
    refine ⟨mkC (aggOf P f.type) ((acs.drop f.offset).take n), w, ?_, post_arg hok (mk_rep r2 hm) ?_ ?_⟩
    · simp only [Instr.field, Sem.run_bind, run_underlying hu, Result.andThen_ok, hf, asAgg, Sem.run_pure, part, run_isAgg hd]
      cases hagg : aggOf P f.type with
      | true =>
        simp [run_sizeOf hs, mkC]
      | false =>
        have h1 := hg hagg
        subst h1
        match hq : (acs.drop f.offset).take 1, hl2 with
        | [x], _ =>
          have := hcell 0 x (by rw [hq]; rfl)
          simp at this
          simp [this, mkC]
    · rw [List.append_nil] at hn
      rw [hbl] at hn
      exact (List.nodup_append.1 (List.nodup_append.1 hn).2.1).1
    · intro b hb
      refine ha b ?_
      rw [hbl]
      exact List.mem_append_left _ (List.mem_append_right _ (List.mem_append_left _ hb))

theorem extract_post (hok : Ok w G own H) {vs : List V} {v : V} {i : Nat} {c : Value} {bl : List Nat} (hr : RepL w G [.tup vs] [c] bl) (hn : bl.Nodup) (ha : ∀ b ∈ bl, own b = some .arg) (hv : vs[i]? = some v) :
    DoneV ((Instr.extract c i).run P w) (Post w G own v H) := by
  cases hr with
  | imm _ c h1 _ => cases h1
  | tup hr h =>
    obtain ⟨_, rfl⟩ := h.nil_inv
    rw [List.append_nil] at hn ha
    obtain ⟨c, b, e1, e2, e3, e4⟩ := hr.at i v hv
    refine ⟨c, w, ?_, post_arg hok e2 (e4 hn) fun x hx => ha x (e3 x hx)⟩
    simp [Instr.extract, e1]

theorem mkfn_post (hok : Ok w G own H) {f : Nat} {vs : List V} {cs : List Value} (hr : RepL w G vs cs []) : DoneV ((Instr.makeFunc (.func f) #[] cs.toArray).run P w) (Post w G own (.fn f vs) H) :=
  ⟨.func (.func f) #[] cs.toArray, w, rfl, post_same hok (.fn f hr .nil)⟩

theorem len_post (hok : Ok w G own H) {t ty : TypeId} {d : TypeDesc} (hu : P.underlying t = some d) {v : V} {n : Nat} {c : Value} {bl : List Nat} (hr : RepL w G [v] [c] bl)
    (hv : (d = .string ∧ ∃ s, v = .str s ∧ n = s.length) ∨ ((∃ e, d = .slice e) ∧ ((∃ o z xs, v = .sl o z xs ∧ n = xs.length) ∨ (∃ id ver off z, v = .hsl id ver off n z) ∨ ∃ z, v = .nilh z ∧ n = 0))) :
    DoneV ((Builtin.len_ #[t] ty #[c]).run P w) (Post w G own (.int .i64 n) H) := by
  have fin : ∀ r, r = Result.ok (goInt n) w → DoneV r (Post w G own (.int .i64 n) H) := fun r h => by rw [h]; exact .ok (post_plain hok (.int _ _ .nil))
  apply fin
  rcases hv with ⟨rfl, s, rfl, rfl⟩ | ⟨⟨e, rfl⟩, ⟨o, z, xs, rfl, rfl⟩ | ⟨id, ver, off, z, rfl⟩ | ⟨z, rfl, rfl⟩⟩
  · obtain ⟨b, cs', rfl, hcs, _⟩ := hr.str_inv
    cases hcs
    have : b.data.toList.length = b.size := by rw [Array.length_toList]; rfl
    simp [Builtin.len_, run_underlying hu, goInt]
  · obtain ⟨c', cs', b1, b2, hcs, _, _, _, hcase⟩ := hr.sl_inv
    cases hcs
    rcases hcase with ⟨rfl, rfl⟩ | ⟨a, cap, acs, rfl, _⟩ <;> simp [Builtin.len_, run_underlying hu, goInt]
  · obtain ⟨b, ver', n', bb, cap, cs', hcs, _⟩ := hr.hsl_inv
    cases hcs
    simp [Builtin.len_, run_underlying hu, goInt]
  · cases hr with
    | imm _ c h1 _ => cases h1
    | nilh z _ => simp [Builtin.len_, run_underlying hu, goInt]

theorem min_post (hok : Ok w G own H) {ts : Array TypeId} {ty : TypeId} (k : IntKind) (a b : Int) : DoneV ((Builtin.min_ ts ty #[.int k a, .int k b]).run P w) (Post w G own (.int k (if b < a then b else a)) H) := by
  simp [Builtin.min_, Builtin.min2]; exact .ok (post_plain hok (.int _ _ .nil))
theorem max_post (hok : Ok w G own H) {ts : Array TypeId} {ty : TypeId} (k : IntKind) (a b : Int) : DoneV ((Builtin.max_ ts ty #[.int k a, .int k b]).run P w) (Post w G own (.int k (if b > a then b else a)) H) := by
  simp [Builtin.max_, Builtin.max2]; exact .ok (post_plain hok (.int _ _ .nil))

theorem nilOf_inv {b : Bool} {x y : V} {c n : Value} {bl b2 : List Nat} (hr : RepL w G [x] [c] bl) (hy : RepL w G [y] [n] b2) (hb : nilOf x y = some b) :
    (n = .pointer none ∧ (∃ a, c = .pointer a) ∧ isNilC c = b) ∨ (n = .map none ∧ (∃ a, c = .map a) ∧ isNilC c = b) ∨ (n = .slice none 0 0 ∧ (∃ a l k, c = .slice a l k) ∧ isNilC c = b) ∨
      (n = .nilFunc ∧ (c = .nilFunc ∨ ∃ f x y, c = .func f x y) ∧ isNilC c = b) := by
  have hp : y = .nilp → n = .pointer none := by
    rintro rfl; cases hy with
    | imm _ _ h _ => cases h; rfl
  have hm : y = .nilmap → n = .map none := by
    rintro rfl; cases hy with
    | imm _ _ h _ => cases h; rfl
  have hf : y = .nilfn → n = .nilFunc := by
    rintro rfl; cases hy with
    | imm _ _ h _ => cases h; rfl
  have hh : ∀ z, y = .nilh z → n = .slice none 0 0 := by
    rintro z rfl; cases hy with
    | imm _ _ h _ => cases h
    | nilh => rfl
  have c1 : x = .nilp → c = .pointer none := by
    rintro rfl; cases hr with
    | imm _ _ h _ => cases h; rfl
  have c2 : x = .nilmap → c = .map none := by
    rintro rfl; cases hr with
    | imm _ _ h _ => cases h; rfl
  have c3 : x = .nilfn → c = .nilFunc := by
    rintro rfl; cases hr with
    | imm _ _ h _ => cases h; rfl
  have c4 : ∀ z, x = .nilh z → c = .slice none 0 0 := by
    rintro z rfl; cases hr with
    | imm _ _ h _ => cases h
    | nilh => rfl
  have c5 : ∀ id ver off, x = .ptr id ver off → ∃ a, c = .pointer (some a) := by
    rintro id ver off rfl; cases hr with
    | imm _ _ h _ => cases h
    | ptr => exact ⟨_, rfl⟩
  have c6 : ∀ ws, x = .cptr ws → ∃ a, c = .pointer (some a) := by
    rintro ws rfl; cases hr with
    | imm _ _ h _ => cases h; exact ⟨_, rfl⟩
  have c7 : ∀ id, x = .map id → ∃ a, c = .map (some a) := by
    rintro id rfl; cases hr with
    | imm _ _ h _ => cases h
    | map => exact ⟨_, rfl⟩
  have c8 : ∀ f ws, x = .fn f ws → ∃ a b d, c = .func a b d := by
    rintro f ws rfl; cases hr with
    | imm _ _ h _ => cases h
    | fn => exact ⟨_, _, _, rfl⟩
  have c9 : ∀ id ver off len sz, x = .hsl id ver off len sz → ∃ a l k, c = .slice (some a) l k := by
    rintro id ver off len sz rfl; cases hr with
    | imm _ _ h _ => cases h
    | hsl => exact ⟨_, _, _, rfl⟩
  have c10 : ∀ o z h t, x = .sl o z (h :: t) → ∃ a l k, c = .slice (some a) l k := by
    rintro o z h t rfl; obtain ⟨c', cs', b1, b2, hcs, _, _, _, hcase⟩ := hr.sl_inv
    cases hcs
    rcases hcase with ⟨_, h⟩ | ⟨a, cap, acs, h, _⟩
    · cases h
    · exact ⟨_, _, _, h⟩
  clear hr hy
  unfold nilOf at hb
  split at hb
  · cases hb; obtain rfl := hp rfl; obtain rfl := c1 rfl; exact .inl ⟨rfl, ⟨_, rfl⟩, rfl⟩
  · cases hb; obtain rfl := hm rfl; obtain rfl := c2 rfl; exact .inr (.inl ⟨rfl, ⟨_, rfl⟩, rfl⟩)
  · cases hb; obtain rfl := hf rfl; obtain rfl := c3 rfl; exact .inr (.inr (.inr ⟨rfl, .inl rfl, rfl⟩))
  · cases hb; obtain rfl := hh _ rfl; obtain rfl := c4 _ rfl; exact .inr (.inr (.inl ⟨rfl, ⟨_, _, _, rfl⟩, rfl⟩))
  · cases hb; obtain rfl := hp rfl; obtain ⟨a, rfl⟩ := c5 _ _ _ rfl; exact .inl ⟨rfl, ⟨_, rfl⟩, rfl⟩
  · cases hb; obtain rfl := hp rfl; obtain ⟨a, rfl⟩ := c6 _ rfl; exact .inl ⟨rfl, ⟨_, rfl⟩, rfl⟩
  · cases hb; obtain rfl := hm rfl; obtain ⟨a, rfl⟩ := c7 _ rfl; exact .inr (.inl ⟨rfl, ⟨_, rfl⟩, rfl⟩)
  · cases hb; obtain rfl := hf rfl; obtain ⟨a, b, d, rfl⟩ := c8 _ _ rfl; exact .inr (.inr (.inr ⟨rfl, .inr ⟨_, _, _, rfl⟩, rfl⟩))
  · cases hb; obtain rfl := hh _ rfl; obtain ⟨a, b, d, rfl⟩ := c9 _ _ _ _ _ rfl; exact .inr (.inr (.inl ⟨rfl, ⟨_, _, _, rfl⟩, rfl⟩))
  · cases hb; obtain rfl := hh _ rfl; obtain ⟨a, b, d, rfl⟩ := c10 _ _ _ _ rfl; exact .inr (.inr (.inl ⟨rfl, ⟨_, _, _, rfl⟩, rfl⟩))
  · cases hb

theorem isNil_post (hok : Ok w G own H) {t : TypeId} {ne b : Bool} {x y : V} {c n : Value} {bl : List Nat} (hr : RepL w G [x] [c] bl) (hf : nilFits P t n = true) (hy : (∃ b2, RepL w G [y] [n] b2)) (hb : nilOf x y = some b) (ox oy : Operand) :
    DoneV ((do eqGuard (if ne then .neq else .eql) t ox oy c n; binOp (if ne then .neq else .eql) t c n : Sem Value).run P w) (Post w G own (.bool (b != ne)) H) := by
  have key : ∀ (hs : (∃ e, P.underlying t = some (.pointer e) ∧ n = .pointer none ∧ ∃ a, c = .pointer a) ∨ (∃ k e, P.underlying t = some (.map k e) ∧ n = .map none ∧ ∃ a, c = .map a) ∨
      (∃ e, P.underlying t = some (.slice e) ∧ n = .slice none 0 0 ∧ ∃ a l k, c = .slice a l k) ∨ (∃ a b v, P.underlying t = some (.func a b v) ∧ n = .nilFunc ∧ (c = .nilFunc ∨ ∃ f x y, c = .func f x y)))
      (hv : isNilC c = b),
      DoneV ((do eqGuard (if ne then .neq else .eql) t ox oy c n; binOp (if ne then .neq else .eql) t c n : Sem Value).run P w) (Post w G own (.bool (b != ne)) H) := by
    intro hs hv
    have he := nil_eq (P := P) (w := w) c n hs
    rw [hv] at he
    have hg : ∀ op, (eqGuard op t ox oy c n).run P w = .ok () w := by
      intro op
      unfold eqGuard
      rcases hs with ⟨e, _, rfl, a, rfl⟩ | ⟨k, e, _, rfl, a, rfl⟩ | ⟨e, _, rfl, a, l, k, rfl⟩ | ⟨a, b, v, _, rfl, rfl | ⟨f, x, y, rfl⟩⟩ <;> split <;> rfl
    rw [Sem.run_bind, hg, Result.andThen_ok]
    have hbin : ∀ op, op = .eql ∨ op = .neq → binOp op t c n = if op = .eql then (do pure (.bool (← Op.equal t c n))) else (do pure (.bool (!(← Op.equal t c n)))) := by
      intro op ho
      rcases hs with ⟨e, _, rfl, a, rfl⟩ | ⟨k, e, _, rfl, a, rfl⟩ | ⟨e, _, rfl, a, l, k, rfl⟩ | ⟨a, b, v, _, rfl, rfl | ⟨f, x, y, rfl⟩⟩ <;> rcases ho with rfl | rfl <;> rfl
    cases ne <;> rw [hbin _ (by simp)] <;> simp [he] <;> exact .ok (post_plain hok (.bool _ .nil))
  obtain ⟨b2, hy⟩ := hy
  rcases nilOf_inv hr hy hb with ⟨rfl, ⟨a, rfl⟩, hv⟩ | ⟨rfl, ⟨a, rfl⟩, hv⟩ | ⟨rfl, ⟨a, l, k, rfl⟩, hv⟩ | ⟨rfl, hc, hv⟩
  · unfold nilFits at hf
    cases hu : P.underlying t with
    | none => simp [hu] at hf
    | some d => cases d <;> simp [hu] at hf; exact key (.inl ⟨_, hu, rfl, a, rfl⟩) hv
  · unfold nilFits at hf
    cases hu : P.underlying t with
    | none => simp [hu] at hf
    | some d => cases d <;> simp [hu] at hf; exact key (.inr (.inl ⟨_, _, hu, rfl, a, rfl⟩)) hv
  · unfold nilFits at hf
    cases hu : P.underlying t with
    | none => simp [hu] at hf
    | some d => cases d <;> simp [hu] at hf; exact key (.inr (.inr (.inl ⟨_, hu, rfl, a, l, k, rfl⟩))) hv
  · unfold nilFits at hf
    cases hu : P.underlying t with
    | none => simp [hu] at hf
    | some d => cases d <;> simp [hu] at hf; exact key (.inr (.inr (.inr ⟨_, _, _, hu, rfl, hc⟩))) hv
end
end Go.Proofs.Ytglemgdlkddjhaa.Vm
