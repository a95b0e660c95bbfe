/-
The value machine, part 15: which operation of the model is which of the machine; each answers as the machine says.
-/
import Derived.Test.YtglemgdlkddjhaaVm14
namespace Go.Proofs.Ytglemgdlkddjhaa.Vm
open Go

/-- A constant. -/
def constOk : V → Value → Bool
  | .int k n, .int k' n' => k == k' && n == n'
  | .bool b, .bool b' => b == b'
  | .str s, .string b => s == b.data.toList
  | .nilp, .pointer none => true
  | .nilmap, .map none => true
  | .nilfn, .nilFunc => true
  | .sl _ _ [], .slice none 0 0 => true
  | .nilh _, .slice none 0 0 => true
  | _, _ => false
def constsOk : List V → List Value → Bool
  | [], [] => true
  | v :: vs, c :: cs => constOk v c && constsOk vs cs
  | _, _ => false
def valOk : V → Value → Bool
  | .agg vs, .agg cs => constsOk vs cs.toList
  | v, c => constOk v c

theorem constOk_rep {w : World} {G : Gh} {v : V} {c : Value} (h : constOk v c = true) : RepL w G [v] [c] [] := by
  unfold constOk at h
  split at h
  · simp only [Bool.and_eq_true, beq_iff_eq] at h
    obtain ⟨rfl, rfl⟩ := h
    exact .imm _ _ (.int _ _ .nil) .nil
  · simp only [beq_iff_eq] at h; subst h; exact .imm _ _ (.bool _ .nil) .nil
  · simp only [beq_iff_eq] at h; subst h; exact .imm _ _ (.str _ .nil) .nil
  · exact .imm _ _ (.nilp .nil) .nil
  · exact .imm _ _ (.nilmap .nil) .nil
  · exact .imm _ _ (.nilfn .nil) .nil
  · rename_i o sz
    cases o
    · exact .imm _ _ (.slnil sz .nil) .nil
    · exact .slnone sz .nil
  · exact .nilh _ .nil
  · cases h

theorem constsOk_rep {w : World} {G : Gh} : ∀ {vs : List V} {cs : List Value}, constsOk vs cs = true → RepL w G vs cs []
  | [], [], _ => .nil
  | v :: vs, c :: cs, h => by
    simp only [constsOk, Bool.and_eq_true] at h
    simpa using RepL.cons (constOk_rep h.1) (constsOk_rep h.2)
  | [], _ :: _, h => by cases h
  | _ :: _, [], h => by cases h

theorem valOk_rep {w : World} {G : Gh} {v : V} {c : Value} (h : valOk v c = true) : RepL w G [v] [c] [] := by
  unfold valOk at h
  split at h
  · rename_i vs cs
    have := RepL.agg (constsOk_rep (w := w) (G := G) h) (RepL.nil (w := w) (G := G))
    simpa using this
  · exact constOk_rep h

/-- What is plain among constants stands in memory that never changes. -/
def plainOk (vs : List V) (cs : List Value) : Bool := constsOk vs cs && vs.all plain0 && (vs.all fun v => match v with | .sl o _ _ => !o | _ => true)
theorem plainOk_rep {imm : Nat → Nat → Option Value} : ∀ {vs : List V} {cs : List Value}, plainOk vs cs = true → RepI imm vs cs
  | [], [], _ => .nil
  | v :: vs, c :: cs, h => by
    simp only [plainOk, constsOk, List.all_cons, Bool.and_eq_true] at h
    obtain ⟨⟨⟨h1, h2⟩, h3, h4⟩, h5, h6⟩ := h
    refine RepI.cons ?_ (plainOk_rep (by simp only [plainOk, Bool.and_eq_true]; exact ⟨⟨h2, h4⟩, h6⟩))
    have := (constOk_rep (w := default) (G := ⟨imm, []⟩) h1).inl1 h3
    have hs : strip0 v = v := by
      cases v <;> first | rfl | (cases h3; done) | skip
      rename_i o _ _
      cases o
      · rfl
      · cases h5
    rwa [hs] at this
  | [], _ :: _, h => by simp [plainOk, constsOk] at h
  | _ :: _, [], h => by simp [plainOk, constsOk] at h

def isSlice (P : Program) (t : TypeId) : Option TypeId := match P.underlying t with
  | some (.slice e) => some e
  | _ => none
theorem isSlice_eq {P : Program} {t e : TypeId} (h : isSlice P t = some e) : P.underlying t = some (.slice e) := by
  unfold isSlice at h
  split at h
  · rename_i e' hu; cases h; exact hu
  · cases h

/-- A type of elements: its size, its bytes, the zero of it. -/
def elemOk (P : Program) (e : TypeId) (sz bytes : Nat) : Bool := match P.info? e with
  | some i => i.size == sz && i.bytes == bytes && (match i.zero with | some z => z.cells.size == sz | none => false)
  | none => false
theorem elemOk_eq {P : Program} {e : TypeId} {sz bytes : Nat} (h : elemOk P e sz bytes = true) : ∃ i z, P.info? e = some i ∧ i.zero = some z ∧ i.size = sz ∧ i.bytes = bytes ∧ z.cells.size = i.size := by
  unfold elemOk at h
  split at h
  · rename_i i hi
    simp only [Bool.and_eq_true, beq_iff_eq] at h
    obtain ⟨⟨h1, h2⟩, h3⟩ := h
    split at h3
    · rename_i z hz
      exact ⟨i, z, hi, hz, h1, h2, by simpa [h1] using h3⟩
    · cases h3
  · cases h

def zeroOk (P : Program) (t : TypeId) (zs : List V) : Bool := match P.info? t with
  | some i => (match i.zero with | some z => plainOk zs z.cells.toList | none => false)
  | none => false
theorem zeroOk_eq {P : Program} {t : TypeId} {zs : List V} (h : zeroOk P t zs = true) : ∃ i z, P.info? t = some i ∧ i.zero = some z ∧ ∀ imm, RepI imm zs z.cells.toList := by
  unfold zeroOk at h
  split at h
  · rename_i i hi
    split at h
    · rename_i z hz; exact ⟨i, z, hi, hz, fun imm => plainOk_rep h⟩
    · cases h
  · cases h
/-- Zeros that may bear lists which are objects. -/
def zeroOk' (P : Program) (t : TypeId) (zs : List V) : Bool := match P.info? t with
  | some i => (match i.zero with | some z => constsOk zs z.cells.toList | none => false)
  | none => false
theorem zeroOk'_eq {P : Program} {t : TypeId} {zs : List V} (h : zeroOk' P t zs = true) : ∃ i z, P.info? t = some i ∧ i.zero = some z ∧ ∀ w G, RepL w G zs z.cells.toList [] := by
  unfold zeroOk' at h
  split at h
  · rename_i i hi
    split at h
    · rename_i z hz; exact ⟨i, z, hi, hz, fun w G => constsOk_rep h⟩
    · cases h
  · cases h

def loadOk (P : Program) (t : TypeId) (n : Nat) (agg : Bool) : Bool := (P.underlying t).isSome && sizeIs P t n && (aggOf P t == agg) && (agg || n == 1)
theorem loadOk_eq {P : Program} {t : TypeId} {n : Nat} {agg : Bool} (h : loadOk P t n agg = true) : ∃ d, P.underlying t = some d ∧ (P.info? t).map (·.size) = some n ∧ aggOf P t = agg ∧ (aggOf P t = false → n = 1) := by
  simp only [loadOk, Bool.and_eq_true, beq_iff_eq, Bool.or_eq_true] at h
  obtain ⟨⟨⟨h1, h2⟩, h3⟩, h4⟩ := h
  obtain ⟨d, hd⟩ := Option.isSome_iff_exists.1 h1
  exact ⟨d, hd, sizeIs_eq h2, h3, fun e => by rw [h3] at e; rcases h4 with h4 | h4 <;> simp_all⟩

def fieldOk (P : Program) (t : TypeId) (f : Nat) : Option Field := match P.underlying t with
  | some (.struct fs) => fs[f]?
  | _ => none
theorem fieldOk_eq {P : Program} {t : TypeId} {f : Nat} {fd : Field} (h : fieldOk P t f = some fd) : ∃ fs, P.underlying t = some (.struct fs) ∧ fs[f]? = some fd := by
  unfold fieldOk at h
  split at h
  · rename_i fs hu; exact ⟨fs, hu, h⟩
  · cases h

def binOf (ne : Bool) : BinOp := if ne then .neq else .eql

def placesOk (P : Program) (t : TypeId) (zs : List V) (ps : List (Nat × Nat)) (is : List Nat) : Bool := match P.underlying t with
  | some (.struct fields) => zeroOk' P t zs && (match fields.toList.mapM (fun f => (P.info? f.type).map fun i => (f.offset, i.size)) with
    | some places => is.map (places[·]?) == ps.map some
    | none => false)
  | some (.array _ e) => zeroOk' P t zs && (match P.info? e with
    | some ie => is.map (fun i => (i * ie.size, ie.size)) == ps
    | none => false)
  | _ => false

def chkAppend (P : Program) (o : Oper) (sz bytes : Nat) (str : Bool) : Bool := match o.op with
  | .call c => (match c.callee, c.args.toList, c.argTypes.toList with
    | .builtin .append, [_, _], [t, tx] => (match isSlice P t with
      | some e => elemOk P e sz bytes && (match P.underlying tx with | some (.slice _) => !str | some .string => str | _ => false)
      | none => false)
    | _, _, _ => false)
  | _ => false
def chkLen (P : Program) (o : Oper) (str : Bool) : Bool := match o.op with
  | .call c => (match c.callee, c.args.toList, c.argTypes.toList with
    | .builtin .len, [_], [t] => (match P.underlying t with | some (.slice _) => !str | some .string => str | _ => false)
    | _, _, _ => false)
  | _ => false

def chkAct (P : Program) (o : Oper) : Act → Bool
  | .mv => (match o.op with | .move _ => true | .assign _ => true | _ => false)
  | .thaw => (match o.op with | .move _ => true | .assign _ => true | _ => false)
  | .pick => (match o.op with | .pick .. => true | _ => false)
  | .bin op => (match o.op with | .binOp op' _ _ _ _ => op == op' | _ => false)
  | .eqc ne agg ks => (match o.op with | .binOp op t _ _ _ => op == binOf ne && flatT P 20 t == some ks && aggOf P t == agg && !P.eqGuardType P.depth t && (agg || ks == [.b]) | _ => false)
  | .isNil ne => (match o.op with | .binOp op t _ (.const c) _ => op == binOf ne && nilFits P t c | _ => false)
  | .not => (match o.op with | .unOp .not _ _ => true | _ => false)
  | .neg => (match o.op with | .unOp .neg _ _ => true | _ => false)
  | .conv k => (match o.op with | .convert s d _ => (P.underlying s).isSome && (match P.underlying d with | some (.int k') => k == k' | _ => false) | _ => false)
  | .same => (match o.op with | .convert s d _ => (P.underlying s).isSome && (match P.underlying d with | some .string => true | _ => false) | _ => false)
  | .alloc zs => (match o.op with | .alloc t => zeroOk' P t zs | _ => false)
  | .box => (match o.op with | .box .. => true | _ => false)
  | .build zs ps => (match o.op with | .build t parts => placesOk P t zs ps (parts.toList.map (·.1)) | _ => false)
  | .buildSl sz => (match o.op with
    | .buildSlice t n parts => (match isSlice P t with
      | some e => elemOk P e sz (P.bytesOf e) && decide (0 < sz) && n == parts.size && parts.toList.map (·.1) == List.range n && decide (n * sz ≤ 16777216)
      | none => false)
    | _ => false)
  | .buildFr sz => (match o.op with
    | .buildSlice t n parts => (match isSlice P t with
      | some e => elemOk P e sz (P.bytesOf e) && decide (0 < sz) && n == parts.size && parts.toList.map (·.1) == List.range n && decide (n * sz ≤ 16777216)
      | none => false)
    | _ => false)
  | .load n agg => (match o.op with | .load t _ => loadOk P t n agg | _ => false)
  | .loadT n agg => (match o.op with | .load t _ => loadOk P t n agg | _ => false)
  | .store n => (match o.op with | .store t _ _ => sizeIs P t n | _ => false)
  | .nilCheck => (match o.op with | .nilCheck _ => true | _ => false)
  | .fieldAddr off => (match o.op with
    | .fieldAddr t _ f => (match fieldOk P t f with
      | some fd => fd.offset == off && (match P.info? fd.type with | some i => i.size != 0 | none => false)
      | none => false)
    | _ => false)
  | .field off n agg => (match o.op with
    | .field t _ f => (match fieldOk P t f with
      | some fd => fd.offset == off && loadOk P fd.type n agg
      | none => false)
    | _ => false)
  | .indexAddr sz => (match o.op with | .indexAddr t _ _ => (match isSlice P t with | some e => sizeIs P e sz | none => false) | _ => false)
  | .indexStr => (match o.op with | .index t _ _ => (match P.underlying t with | some .string => true | _ => false) | _ => false)
  | .slice lo hi sz => (match o.op with
    | .slice t _ l h m => l.isSome == lo && h.isSome == hi && m.isNone && (match isSlice P t with | some e => sizeIs P e sz | none => false)
    | _ => false)
  | .sliceStr lo hi => (match o.op with
    | .slice t _ l h m => l.isSome == lo && h.isSome == hi && m.isNone && (match P.underlying t with | some .string => true | _ => false)
    | _ => false)
  | .makeSl sz bytes zs => (match o.op with | .makeSlice t _ _ => (match isSlice P t with | some e => elemOk P e sz bytes && zeroOk P e zs && decide (0 < sz) | none => false) | _ => false)
  | .makeH sz bytes zs => (match o.op with | .makeSlice t _ _ => (match isSlice P t with | some e => elemOk P e sz bytes && zeroOk' P e zs && decide (0 < sz) | none => false) | _ => false)
  | .append sz bytes => chkAppend P o sz bytes false
  | .appendS bytes => chkAppend P o 1 bytes true
  | .appendR sz bytes => chkAppend P o sz bytes false
  | .appendH sz bytes => chkAppend P o sz bytes false
  | .len => chkLen P o false
  | .lenStr => chkLen P o true
  | .min => (match o.op with
    | .call c => (match c.callee, c.args.toList with
      | .builtin .min, [_, _] => true
      | _, _ => false)
    | _ => false)
  | .max => (match o.op with
    | .call c => (match c.callee, c.args.toList with
      | .builtin .max, [_, _] => true
      | _, _ => false)
    | _ => false)
  | .extract i => (match o.op with | .extract _ i' => i == i' | _ => false)
  | .mkfn f => (match o.op with | .makeFunc (.func f') first _ => f == f' && first.isEmpty | _ => false)
  | _ => false

section
variable {P : Program} {w : World} {G : Gh} {own : Nat → Option Place} {H : Heap}

theorem DoneV.done {x : Sem Value} {R : Value → World → Prop} (h : DoneV (x.run P w) R) : Done ((do pure (.value (← x)) : Sem Next).run P w) R := by
  obtain ⟨c, w', e, hr⟩ := h
  exact .inl ⟨c, w', by simp [e], hr⟩


theorem args1 {vs : List V} {c : Value} {bl : List Nat} (h : RepL w G vs [c] bl) : ∃ v, vs = [v] := by
  have := h.length
  match vs, this with
  | [v], _ => exact ⟨v, rfl⟩

theorem Done.pure {c : Value} {R : Value → World → Prop} (h : R c w) : Done ((Pure.pure (Next.value c) : Sem Next).run P w) R := .inl ⟨c, w, rfl, h⟩

variable {o : Oper} {ρ : Operand → Value} {vs : List V} {v : V} {H' : Heap} {bl : List Nat}

theorem snd_mv (hok : Ok w G own H) (hc : chkAct P o .mv = true) (hr : RepL w G vs (o.op.operands.toList.map ρ) bl) (hn : bl.Nodup) (ha : ∀ b ∈ bl, own b = some .arg) (hs : sMv vs H = some (v, H')) : Done ((execOp ρ o).run P w) (Post w G own v H') := by
  unfold sMv at hs; split at hs
  · cases hs
    simp only [chkAct] at hc; split at hc
    · rename_i x ho
      rw [ho] at hr
      unfold execOp; simp only [ho]
      exact .pure (post_arg hok hr hn ha)
    · rename_i x ho
      rw [ho] at hr
      unfold execOp; simp only [ho]
      exact .pure (post_arg hok hr hn ha)
    · cases hc
  · cases hs

theorem snd_thaw (hok : Ok w G own H) (hc : chkAct P o .thaw = true) (hr : RepL w G vs (o.op.operands.toList.map ρ) bl) (hn : bl.Nodup) (ha : ∀ b ∈ bl, own b = some .arg) (hs : sThaw vs H = some (v, H')) : Done ((execOp ρ o).run P w) (Post w G own v H') := by
  unfold sThaw at hs; split at hs
  · cases hs
    simp only [chkAct] at hc; split at hc
    · rename_i x ho
      rw [ho] at hr
      unfold execOp; simp only [ho]
      exact .pure (thaw_post hok hr ha)
    · rename_i x ho
      rw [ho] at hr
      unfold execOp; simp only [ho]
      exact .pure (thaw_post hok hr ha)
    · cases hc
  · cases hs
    simp only [chkAct] at hc; split at hc
    · rename_i x ho
      rw [ho] at hr
      unfold execOp; simp only [ho]
      exact .pure (post_arg hok hr hn ha)
    · rename_i x ho
      rw [ho] at hr
      unfold execOp; simp only [ho]
      exact .pure (post_arg hok hr hn ha)
    · cases hc
  · cases hs

theorem snd_pick (hok : Ok w G own H) (hc : chkAct P o .pick = true) (hr : RepL w G vs (o.op.operands.toList.map ρ) bl) (hn : bl.Nodup) (ha : ∀ b ∈ bl, own b = some .arg) (hs : sPick vs H = some (v, H')) : Done ((execOp ρ o).run P w) (Post w G own v H') := by
  unfold sPick at hs; split at hs
  · rename_i c x y
    cases hs
    simp only [chkAct] at hc; split at hc
    · rename_i xc xa xb ho
      rw [ho] at hr
      simp only [Op.operands, List.map_cons, List.map_nil] at hr
      obtain ⟨cs', hcs, hr⟩ := hr.bool_inv
      obtain ⟨hc0, rfl⟩ := List.cons.inj hcs
      obtain ⟨ca, cs2, b1, b2, hcs2, rfl, h1, h2⟩ := hr.cons_inv
      obtain ⟨rfl, rfl⟩ := List.cons.inj hcs2
      obtain ⟨n1, n2, _⟩ := List.nodup_append.1 hn
      unfold execOp; simp only [ho, hc0, asBool, Sem.run_bind, Sem.run_pure, Result.andThen_ok]
      refine .inl ⟨_, w, rfl, ?_⟩
      cases c with
      | true => exact post_arg hok h1 n1 fun b hb => ha b (List.mem_append_left _ hb)
      | false => exact post_arg hok h2 n2 fun b hb => ha b (List.mem_append_right _ hb)
    · cases hc
  · cases hs

theorem snd_bin (hok : Ok w G own H) {op : BinOp} (hc : chkAct P o (.bin op) = true) (hr : RepL w G vs (o.op.operands.toList.map ρ) bl) (hs : sBin op vs H = some (v, H')) : Done ((execOp ρ o).run P w) (Post w G own v H') := by
  simp only [chkAct] at hc; split at hc
  · rename_i op' t x y yt ho
    have : op = op' := by simpa using hc
    subst this
    rw [ho] at hr
    simp only [Op.operands, List.map_cons, List.map_nil] at hr
    unfold execOp; simp only [ho]
    unfold sBin at hs; split at hs
    · split at hs
      · rename_i hjk
        subst hjk
        obtain ⟨r, hb, he⟩ := Option.map_eq_some_iff.1 hs
        cases he
        obtain ⟨cs', hcs, hr⟩ := hr.int_inv
        obtain ⟨h1, rfl⟩ := List.cons.inj hcs
        obtain ⟨cs', hcs, hr⟩ := hr.int_inv
        obtain ⟨h2, rfl⟩ := List.cons.inj hcs
        simp only [h1, h2]
        exact DoneV.done (binInt_post hok hb t x y)
      · cases hs
    · obtain ⟨b1, cs', rfl, hcs, hr⟩ := hr.str_inv
      obtain ⟨h1, rfl⟩ := List.cons.inj hcs
      obtain ⟨b2, cs', rfl, hcs, hr⟩ := hr.str_inv
      obtain ⟨h2, rfl⟩ := List.cons.inj hcs
      cases hb : binStr op b1.data.toList b2.data.toList with
      | none => rw [hb] at hs; cases hs
      | some r =>
        rw [hb] at hs; cases hs
        simp only [h1, h2]
        exact DoneV.done (binStr_post hok hb t x y)
    · cases hs
  · cases hc

theorem binOf_eq {op : BinOp} {ne : Bool} (h : (op == binOf ne) = true) : op = if ne then .neq else .eql := by
  have : op = binOf ne := by simpa using h
  rw [this]; rfl

theorem snd_eqc (hok : Ok w G own H) {ne agg : Bool} {ks : List K3} (hc : chkAct P o (.eqc ne agg ks) = true) (hr : RepL w G vs (o.op.operands.toList.map ρ) bl) (hs : sEqc ne agg ks vs H = some (v, H')) : Done ((execOp ρ o).run P w) (Post w G own v H') := by
  simp only [chkAct] at hc; split at hc
  · rename_i op t x y yt ho
    simp only [Bool.and_eq_true, Bool.or_eq_true, Bool.not_eq_true', beq_iff_eq] at hc
    obtain ⟨⟨⟨⟨h1, h2⟩, h3⟩, h4⟩, h5⟩ := hc
    have h1 : op = if ne then .neq else .eql := h1
    rw [ho] at hr
    simp only [Op.operands, List.map_cons, List.map_nil] at hr
    unfold execOp; simp only [ho]
    unfold sEqc at hs; split at hs
    · obtain ⟨b, hb, he⟩ := Option.map_eq_some_iff.1 hs
      cases he
      rw [h1]
      refine DoneV.done (eqc_post hok h2 h3 h4 (fun h => ?_) hr hb x y)
      rcases h5 with h5 | h5
      · rw [h] at h5; cases h5
      · exact h5
    · cases hs
  · cases hc

theorem snd_isNil (hok : Ok w G own H) (hcn : ∀ c, ρ (.const c) = c) {ne : Bool} (hc : chkAct P o (.isNil ne) = true) (hr : RepL w G vs (o.op.operands.toList.map ρ) bl) (hs : sIsNil ne vs H = some (v, H')) : Done ((execOp ρ o).run P w) (Post w G own v H') := by
  simp only [chkAct] at hc; split at hc
  · rename_i op t x c yt ho
    simp only [Bool.and_eq_true, beq_iff_eq] at hc
    obtain ⟨h1, h2⟩ := hc
    have h1 : op = if ne then .neq else .eql := h1
    rw [ho] at hr
    simp only [Op.operands, List.map_cons, List.map_nil, hcn] at hr
    unfold execOp; simp only [ho, hcn]
    unfold sIsNil at hs; split at hs
    · obtain ⟨b, hb, he⟩ := Option.map_eq_some_iff.1 hs
      cases he
      rw [h1]
      obtain ⟨c1, cs', b1, b2, hcs, _, r1, r2⟩ := hr.cons_inv
      obtain ⟨hc1, rfl⟩ := List.cons.inj hcs
      rw [← hc1] at r1
      exact DoneV.done (isNil_post hok r1 h2 ⟨_, r2⟩ hb x _)
    · cases hs
  · cases hc

theorem snd_not (hok : Ok w G own H) (hc : chkAct P o .not = true) (hr : RepL w G vs (o.op.operands.toList.map ρ) bl) (hs : sNot vs H = some (v, H')) : Done ((execOp ρ o).run P w) (Post w G own v H') := by
  simp only [chkAct] at hc; split at hc
  · rename_i t x ho
    rw [ho] at hr
    simp only [Op.operands, List.map_cons, List.map_nil] at hr
    unfold execOp; simp only [ho]
    unfold sNot at hs; split at hs
    · cases hs
      obtain ⟨cs', hcs, hr⟩ := hr.bool_inv
      obtain ⟨h1, rfl⟩ := List.cons.inj hcs
      rw [h1]
      exact DoneV.done (not_post hok _)
    · cases hs
  · cases hc

theorem snd_neg (hok : Ok w G own H) (hc : chkAct P o .neg = true) (hr : RepL w G vs (o.op.operands.toList.map ρ) bl) (hs : sNeg vs H = some (v, H')) : Done ((execOp ρ o).run P w) (Post w G own v H') := by
  simp only [chkAct] at hc; split at hc
  · rename_i t x ho
    rw [ho] at hr
    simp only [Op.operands, List.map_cons, List.map_nil] at hr
    unfold execOp; simp only [ho]
    unfold sNeg at hs; split at hs
    · cases hs
      obtain ⟨cs', hcs, hr⟩ := hr.int_inv
      obtain ⟨h1, rfl⟩ := List.cons.inj hcs
      rw [h1]
      exact DoneV.done (neg_post hok _ _)
    · cases hs
  · cases hc

theorem snd_conv (hok : Ok w G own H) {k : IntKind} (hc : chkAct P o (.conv k) = true) (hr : RepL w G vs (o.op.operands.toList.map ρ) bl) (hs : sConv k vs H = some (v, H')) : Done ((execOp ρ o).run P w) (Post w G own v H') := by
  simp only [chkAct] at hc; split at hc
  · rename_i s d x ho
    simp only [Bool.and_eq_true] at hc
    obtain ⟨h1, h2⟩ := hc
    obtain ⟨ds, h1⟩ := Option.isSome_iff_exists.1 h1
    split at h2
    · rename_i k' hd
      have : k = k' := by simpa using h2
      subst this
      rw [ho] at hr
      simp only [Op.operands, List.map_cons, List.map_nil] at hr
      unfold execOp; simp only [ho]
      unfold sConv at hs; split at hs
      · cases hs
        obtain ⟨cs', hcs, hr⟩ := hr.int_inv
        obtain ⟨h3, rfl⟩ := List.cons.inj hcs
        rw [h3]
        exact DoneV.done (conv_post hok h1 hd _ _)
      · cases hs
    · cases h2
  · cases hc

theorem snd_same (hok : Ok w G own H) (hc : chkAct P o .same = true) (hr : RepL w G vs (o.op.operands.toList.map ρ) bl) (hs : sSame vs H = some (v, H')) : Done ((execOp ρ o).run P w) (Post w G own v H') := by
  simp only [chkAct] at hc; split at hc
  · rename_i s d x ho
    simp only [Bool.and_eq_true] at hc
    obtain ⟨h1, h2⟩ := hc
    obtain ⟨ds, h1⟩ := Option.isSome_iff_exists.1 h1
    split at h2
    · rename_i hd
      rw [ho] at hr
      simp only [Op.operands, List.map_cons, List.map_nil] at hr
      unfold execOp; simp only [ho]
      unfold sSame at hs; split at hs
      · cases hs
        obtain ⟨b, cs', rfl, hcs, hr⟩ := hr.str_inv
        obtain ⟨h3, rfl⟩ := List.cons.inj hcs
        rw [h3]
        exact DoneV.done (same_post hok h1 hd _)
      · cases hs
    · cases h2
  · cases hc

theorem alloc_post' (hok : Ok w G own H) {t : TypeId} {zs : List V} {z : Value} {i : TypeInfo} (hi : P.info? t = some i) (hz : i.zero = some z) (hr : RepL w G zs z.cells.toList []) (o : Value) :
    DoneV ((Instr.alloc t true o).run P w) (Post w G own (.ptr H.length 0 0) (H ++ [.cells 0 zs])) := by
  refine ⟨.pointer (some ⟨w.heap.size, 0, none⟩), { w with heap := w.heap.push (.cells z.cells t) }, ?_, post_obj hok (cs := z.cells.toList) (t := t) (by simp) rfl rfl rfl hr List.nodup_nil (fun _ h => by cases h)⟩
  simp [Instr.alloc, zeroValue, typeInfo, hi, hz, newVar, newRow]

theorem snd_alloc (hok : Ok w G own H) {zs : List V} (hc : chkAct P o (.alloc zs) = true) (hs : sAlloc zs vs H = some (v, H')) : Done ((execOp ρ o).run P w) (Post w G own v H') := by
  simp only [chkAct] at hc; split at hc
  · rename_i t ho
    obtain ⟨i, z, h1, h2, h3⟩ := zeroOk'_eq hc
    unfold execOp; simp only [ho]
    unfold sAlloc at hs; split at hs
    · cases hs
      exact DoneV.done (alloc_post' hok h1 h2 (h3 w G) _)
    · cases hs
  · cases hc

theorem snd_box (hok : Ok w G own H) (hc : chkAct P o .box = true) (hr : RepL w G vs (o.op.operands.toList.map ρ) bl) (hn : bl.Nodup) (ha : ∀ b ∈ bl, own b = some .arg) (hs : sBox vs H = some (v, H')) : Done ((execOp ρ o).run P w) (Post w G own v H') := by
  simp only [chkAct] at hc; split at hc
  · rename_i t x ho
    rw [ho] at hr
    simp only [Op.operands, List.map_cons, List.map_nil] at hr
    unfold execOp; simp only [ho]
    unfold sBox at hs; split at hs
    · split at hs
      · rename_i hsol
        cases hs
        exact DoneV.done (box_post hok hr hn ha hsol)
      · cases hs
    · cases hs
  · cases hc

theorem zip_parts {ρ : Operand → Value} (parts : Array (Nat × Operand)) : (parts.map fun (i, x) => (i, ρ x)) = ((parts.toList.map (·.1)).zip (parts.toList.map fun p => ρ p.2)).toArray := by
  apply Array.ext'
  simp only [Array.toList_map]
  induction parts.toList with
  | nil => rfl
  | cons p ps ih => simp only [List.map_cons, List.zip_cons_cons, ih]

theorem build_post' (hok : Ok w G own H) {t : TypeId} {fields : Array Field} {it : TypeInfo} {z : Value} {places ps : List (Nat × Nat)} {is : List Nat} {vs zs zs' : List V} {cs : List Value} {bl : List Nat}
    (hu : P.underlying t = some (.struct fields)) (hi : P.info? t = some it) (hz : it.zero = some z) (hp : fields.toList.mapM (fun f => (P.info? f.type).map fun i => (f.offset, i.size)) = some places)
    (hps : is.map (places[·]?) = ps.map some) (hzr : RepL w G zs z.cells.toList []) (hr : RepL w G vs cs bl) (hn : bl.Nodup) (ha : ∀ b ∈ bl, own b = some .arg) (hf : fillV zs ps vs = some zs') :
    DoneV ((Instr.build t (is.zip cs).toArray).run P w) (Post w G own (.agg zs') H) := by
  obtain ⟨r, bl', e1, e2, e3, e4⟩ := fill_rep (fun i => places.toArray[i]?) ps is vs zs zs' cs z.cells [] bl (by simpa using hps) hzr hr (by simpa using hn) hf
  refine ⟨.agg r, w, run_build w t _ r ?_, ?_⟩
  · simp only [Program.built, hi, hu, hz, hp]
    exact e1
  · refine post_arg hok (bl := bl') ?_ e3 (fun b hb => ha b (by simpa using e4 b hb))
    simpa using RepL.agg e2 (RepL.nil (w := w) (G := G))

theorem build_arr_post' (hok : Ok w G own H) {t e : TypeId} {len : Nat} {ie it : TypeInfo} {z : Value} {ps : List (Nat × Nat)} {is : List Nat} {vs zs zs' : List V} {cs : List Value} {bl : List Nat}
    (hu : P.underlying t = some (.array len e)) (hi : P.info? t = some it) (hie : P.info? e = some ie) (hz : it.zero = some z)
    (hps : is.map (fun i => (i * ie.size, ie.size)) = ps) (hzr : RepL w G zs z.cells.toList []) (hr : RepL w G vs cs bl) (hn : bl.Nodup) (ha : ∀ b ∈ bl, own b = some .arg) (hf : fillV zs ps vs = some zs') :
    DoneV ((Instr.build t (is.zip cs).toArray).run P w) (Post w G own (.agg zs') H) := by
  obtain ⟨r, bl', e1, e2, e3, e4⟩ := fill_rep (fun i => some (i * ie.size, ie.size)) ps is vs zs zs' cs z.cells [] bl (by rw [← hps]; simp) hzr hr (by simpa using hn) hf
  refine ⟨.agg r, w, run_build w t _ r ?_, ?_⟩
  · simp only [Program.built, hi, hu, hz, hie]
    exact e1
  · refine post_arg hok (bl := bl') ?_ e3 (fun b hb => ha b (by simpa using e4 b hb))
    simpa using RepL.agg e2 (RepL.nil (w := w) (G := G))

theorem snd_build (hok : Ok w G own H) {zs : List V} {ps : List (Nat × Nat)} (hc : chkAct P o (.build zs ps) = true) (hr : RepL w G vs (o.op.operands.toList.map ρ) bl) (hn : bl.Nodup) (ha : ∀ b ∈ bl, own b = some .arg) (hs : sBuild zs ps vs H = some (v, H')) : Done ((execOp ρ o).run P w) (Post w G own v H') := by
  simp only [chkAct] at hc; split at hc
  · rename_i t parts ho
    rw [ho] at hr
    simp only [Op.operands] at hr
    obtain ⟨zs', hf, he⟩ := Option.map_eq_some_iff.1 hs
    cases he
    unfold execOp; simp only [ho]
    rw [zip_parts]
    have hr : RepL w G vs (parts.toList.map fun p => ρ p.2) bl := by simpa [List.map_map, Function.comp_def] using hr
    unfold placesOk at hc; split at hc
    · rename_i fields hu
      simp only [Bool.and_eq_true] at hc
      obtain ⟨h1, h2⟩ := hc
      obtain ⟨i, z, k1, k2, k3⟩ := zeroOk'_eq h1
      split at h2
      · rename_i places hp
        have h2 := beq_iff_eq.1 h2
        exact DoneV.done (build_post' hok hu k1 k2 hp h2 (k3 w G) hr hn ha hf)
      · cases h2
    · rename_i len e hu
      simp only [Bool.and_eq_true] at hc
      obtain ⟨h1, h2⟩ := hc
      obtain ⟨i, z, k1, k2, k3⟩ := zeroOk'_eq h1
      split at h2
      · rename_i ie hp
        have h2 := beq_iff_eq.1 h2
        exact DoneV.done (build_arr_post' hok hu k1 hp k2 h2 (k3 w G) hr hn ha hf)
      · cases h2
    · cases hc
  · cases hc

theorem snd_buildSl (hok : Ok w G own H) {sz : Nat} (hc : chkAct P o (.buildSl sz) = true) (hr : RepL w G vs (o.op.operands.toList.map ρ) bl) (hs : sBuildSl sz vs H = some (v, H')) : Done ((execOp ρ o).run P w) (Post w G own v H') := by
  simp only [chkAct] at hc; split at hc
  · rename_i t n parts ho
    split at hc
    · rename_i e he
      have hu := isSlice_eq he
      simp only [Bool.and_eq_true, beq_iff_eq, decide_eq_true_eq] at hc
      obtain ⟨⟨⟨⟨h1, h2⟩, h3⟩, h4⟩, h5⟩ := hc
      obtain ⟨i, z, k1, k2, k3, _, _⟩ := elemOk_eq h1
      subst k3
      rw [ho] at hr
      simp only [Op.operands] at hr
      have hr : RepL w G vs (parts.toList.map fun p => ρ p.2) bl := by simpa [List.map_map, Function.comp_def] using hr
      obtain ⟨xs, hf, hx⟩ := Option.map_eq_some_iff.1 hs
      cases hx
      unfold execOp; simp only [ho]
      rw [zip_parts, h4]
      have hlen : (parts.toList.map fun p => ρ p.2).length = n := by rw [List.length_map, h3]; exact Array.length_toList
      have hzip : (List.range n).zip (parts.toList.map fun p => ρ p.2) = ((parts.toList.map fun p => ρ p.2).zipIdx 0).map fun x => (x.2, x.1) := by
        generalize parts.toList.map (fun p => ρ p.2) = l at hlen
        subst hlen
        apply List.ext_getElem?
        intro k
        by_cases hk : k < l.length
        · simp [hk]
        · rw [List.getElem?_eq_none (by simp; omega), List.getElem?_eq_none (by simp; omega)]
      rw [hzip]
      have := buildSl_post hok hu k1 k2 h2 hr hf (by rw [hlen]; exact h5)
      rw [hlen] at this
      exact DoneV.done this
    · cases hc
  · cases hc
theorem snd_buildFr (hok : Ok w G own H) {sz : Nat} (hc : chkAct P o (.buildFr sz) = true) (hr : RepL w G vs (o.op.operands.toList.map ρ) bl) (hs : sBuildFr sz vs H = some (v, H')) : Done ((execOp ρ o).run P w) (Post w G own v H') := by
  simp only [chkAct] at hc; split at hc
  · rename_i t n parts ho
    split at hc
    · rename_i e he
      have hu := isSlice_eq he
      simp only [Bool.and_eq_true, beq_iff_eq, decide_eq_true_eq] at hc
      obtain ⟨⟨⟨⟨h1, h2⟩, h3⟩, h4⟩, h5⟩ := hc
      obtain ⟨i, z, k1, k2, k3, _, _⟩ := elemOk_eq h1
      subst k3
      rw [ho] at hr
      simp only [Op.operands] at hr
      have hr : RepL w G vs (parts.toList.map fun p => ρ p.2) bl := by simpa [List.map_map, Function.comp_def] using hr
      obtain ⟨xs, hf, hx⟩ := Option.bind_eq_some_iff.1 hs
      split at hx
      case isFalse => cases hx
      rename_i hpos
      cases hx
      unfold execOp; simp only [ho]
      rw [zip_parts, h4]
      have hlen : (parts.toList.map fun p => ρ p.2).length = n := by rw [List.length_map, h3]; exact Array.length_toList
      have hzip : (List.range n).zip (parts.toList.map fun p => ρ p.2) = ((parts.toList.map fun p => ρ p.2).zipIdx 0).map fun x => (x.2, x.1) := by
        generalize parts.toList.map (fun p => ρ p.2) = l at hlen
        subst hlen
        apply List.ext_getElem?
        intro k
        by_cases hk : k < l.length
        · simp [hk]
        · rw [List.getElem?_eq_none (by simp; omega), List.getElem?_eq_none (by simp; omega)]
      rw [hzip]
      have := buildFr_post hok hu k1 k2 h2 hr hf (by rw [hlen]; exact h5) hpos
      rw [hlen] at this
      exact DoneV.done this
    · cases hc
  · cases hc
end
end Go.Proofs.Ytglemgdlkddjhaa.Vm
