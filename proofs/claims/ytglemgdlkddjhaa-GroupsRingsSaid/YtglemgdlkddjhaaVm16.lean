/-
The value machine, part 16: the same, of what reads and writes memory; all of it together.
-/
import Derived.Test.YtglemgdlkddjhaaVm15
namespace Go.Proofs.Ytglemgdlkddjhaa.Vm
open Go

section
variable {P : Program} {w : World} {G : Gh} {own : Nat → Option Place} {H : Heap} {o : Oper} {ρ : Operand → Value} {vs : List V} {v : V} {H' : Heap} {bl : List Nat}

theorem snd_load (hok : Ok w G own H) {n : Nat} {agg : Bool} (hc : chkAct P o (.load n agg) = true) (hr : RepL w G vs (o.op.operands.toList.map ρ) bl) (hs : sLoad n agg vs H = some (v, H')) : Done ((execOp ρ o).run P w) (Post w G own v H') := by
  simp only [chkAct] at hc; split at hc
  · rename_i t x ho
    obtain ⟨d, h1, h2, h3, h4⟩ := loadOk_eq hc
    rw [ho] at hr
    simp only [Op.operands, List.map_cons, List.map_nil] at hr
    unfold execOp; simp only [ho]
    subst h3
    unfold sLoad at hs; split at hs
    · obtain ⟨cs, hg, hs⟩ := Option.bind_eq_some_iff.1 hs
      obtain ⟨l, hcut, hs⟩ := Option.bind_eq_some_iff.1 hs
      obtain ⟨v', hm, he⟩ := Option.map_eq_some_iff.1 hs
      cases he
      exact DoneV.done (load_ptr_post hok h1 h2 h4 hr hg hcut hm)
    · obtain ⟨l, hcut, hs⟩ := Option.bind_eq_some_iff.1 hs
      obtain ⟨v', hm, he⟩ := Option.map_eq_some_iff.1 hs
      cases he
      exact DoneV.done (load_cptr_post hok h1 h2 h4 hr hcut hm)
    · cases hs
  · cases hc

theorem snd_loadT (hok : Ok w G own H) {n : Nat} {agg : Bool} (hc : chkAct P o (.loadT n agg) = true) (hr : RepL w G vs (o.op.operands.toList.map ρ) bl) (hs : sLoadT n agg vs H = some (v, H')) : Done ((execOp ρ o).run P w) (Post w G own v H') := by
  simp only [chkAct] at hc; split at hc
  · rename_i t x ho
    obtain ⟨d, h1, h2, h3, h4⟩ := loadOk_eq hc
    rw [ho] at hr
    simp only [Op.operands, List.map_cons, List.map_nil] at hr
    unfold execOp; simp only [ho]
    subst h3
    unfold sLoadT at hs; split at hs
    · obtain ⟨cs, hg, hs⟩ := Option.bind_eq_some_iff.1 hs
      obtain ⟨l, hcut, hs⟩ := Option.bind_eq_some_iff.1 hs
      obtain ⟨v', hm, he⟩ := Option.map_eq_some_iff.1 hs
      cases he
      exact DoneV.done (loadT_post hok h1 h2 h4 hr hg hcut hm)
    · cases hs
  · cases hc

theorem snd_store (hok : Ok w G own H) {n : Nat} (hc : chkAct P o (.store n) = true) (hr : RepL w G vs (o.op.operands.toList.map ρ) bl) (hn : bl.Nodup) (ha : ∀ b ∈ bl, own b = some .arg) (hs : sStore n vs H = some (v, H')) : Done ((execOp ρ o).run P w) (Post w G own v H') := by
  simp only [chkAct] at hc; split at hc
  · rename_i t x y ho
    have h2 := sizeIs_eq hc
    rw [ho] at hr
    simp only [Op.operands, List.map_cons, List.map_nil] at hr
    unfold execOp; simp only [ho]
    unfold sStore at hs; split at hs
    · obtain ⟨cs, hg, hs⟩ := Option.bind_eq_some_iff.1 hs
      split at hs
      · rename_i hq
        obtain ⟨q1, q2, q3, q4⟩ := hq
        cases hs
        obtain ⟨w', hrun, hpost⟩ := store_post hok h2 hr hn ha q1 q2 hg q3 q4
        exact .inr ⟨w', by simp [hrun], hpost⟩
      · cases hs
    · cases hs
  · cases hc

theorem snd_nilCheck (hok : Ok w G own H) (hc : chkAct P o .nilCheck = true) (hr : RepL w G vs (o.op.operands.toList.map ρ) bl) (hn : bl.Nodup) (ha : ∀ b ∈ bl, own b = some .arg) (hs : sNilCheck vs H = some (v, H')) : Done ((execOp ρ o).run P w) (Post w G own v H') := by
  simp only [chkAct] at hc; split at hc
  · rename_i x ho
    rw [ho] at hr
    simp only [Op.operands, List.map_cons, List.map_nil] at hr
    unfold sNilCheck at hs; split at hs
    · cases hs; exact nilCheck_post hok hr hn ha rfl ρ x rfl o ho
    · cases hs; exact nilCheck_post hok hr hn ha rfl ρ x rfl o ho
    · cases hs; exact nilCheck_post hok hr hn ha rfl ρ x rfl o ho
    · cases hs
  · cases hc

theorem snd_fieldAddr (hok : Ok w G own H) {off : Nat} (hc : chkAct P o (.fieldAddr off) = true) (hr : RepL w G vs (o.op.operands.toList.map ρ) bl) (hs : sFieldAddr off vs H = some (v, H')) : Done ((execOp ρ o).run P w) (Post w G own v H') := by
  simp only [chkAct] at hc; split at hc
  · rename_i t x f ho
    split at hc
    · rename_i fd hfd
      obtain ⟨fs, hu, hf⟩ := fieldOk_eq hfd
      simp only [Bool.and_eq_true, beq_iff_eq] at hc
      obtain ⟨h1, h2⟩ := hc
      subst h1
      split at h2
      · rename_i i hi
        have hne : i.size ≠ 0 := by simpa using h2
        have hsz : (P.info? fd.type).map (·.size) = some i.size := by rw [hi]; rfl
        rw [ho] at hr
        simp only [Op.operands, List.map_cons, List.map_nil] at hr
        unfold execOp; simp only [ho]
        unfold sFieldAddr at hs; split at hs
        · cases hs; exact DoneV.done (fieldAddr_ptr_post hok hu hf hsz hne hr)
        · cases hs; exact DoneV.done (fieldAddr_cptr_post hok hu hf hsz hne hr)
        · cases hs
      · cases h2
    · cases hc
  · cases hc

theorem snd_field (hok : Ok w G own H) {off n : Nat} {agg : Bool} (hc : chkAct P o (.field off n agg) = true) (hr : RepL w G vs (o.op.operands.toList.map ρ) bl) (hn : bl.Nodup) (ha : ∀ b ∈ bl, own b = some .arg) (hs : sField off n agg vs H = some (v, H')) : Done ((execOp ρ o).run P w) (Post w G own v H') := by
  simp only [chkAct] at hc; split at hc
  · rename_i t x f ho
    split at hc
    · rename_i fd hfd
      obtain ⟨fs, hu, hf⟩ := fieldOk_eq hfd
      simp only [Bool.and_eq_true, beq_iff_eq] at hc
      obtain ⟨h1, h2⟩ := hc
      subst h1
      obtain ⟨d, k1, k2, k3, k4⟩ := loadOk_eq h2
      subst k3
      rw [ho] at hr
      simp only [Op.operands, List.map_cons, List.map_nil] at hr
      unfold execOp; simp only [ho]
      unfold sField at hs; split at hs
      · obtain ⟨l, hcut, hs⟩ := Option.bind_eq_some_iff.1 hs
        obtain ⟨v', hm, he⟩ := Option.map_eq_some_iff.1 hs
        cases he
        exact DoneV.done (field_post hok hu hf k2 k1 k4 hr hn ha hcut hm)
      · cases hs
    · cases hc
  · cases hc

theorem snd_indexAddr (hok : Ok w G own H) {sz : Nat} (hc : chkAct P o (.indexAddr sz) = true) (hr : RepL w G vs (o.op.operands.toList.map ρ) bl) (hs : sIndexAddr sz vs H = some (v, H')) : Done ((execOp ρ o).run P w) (Post w G own v H') := by
  simp only [chkAct] at hc; split at hc
  · rename_i t x i ho
    split at hc
    · rename_i e he
      have hu := isSlice_eq he
      have hsz := sizeIs_eq hc
      rw [ho] at hr
      simp only [Op.operands, List.map_cons, List.map_nil] at hr
      unfold execOp; simp only [ho]
      unfold sIndexAddr at hs; split at hs
      · split at hs
        · rename_i hq
          obtain ⟨rfl, q2⟩ := hq
          obtain ⟨x', hx, he⟩ := Option.map_eq_some_iff.1 hs
          cases he
          exact DoneV.done (indexAddr_sl_post hok hu hsz hr q2 hx)
        · cases hs
      · split at hs
        · rename_i hq
          obtain ⟨rfl, q2, q3⟩ := hq
          cases hs
          exact DoneV.done (indexAddr_hsl_post hok hu hsz hr q2 q3)
        · cases hs
      · cases hs
    · cases hc
  · cases hc

theorem snd_indexStr (hok : Ok w G own H) (hc : chkAct P o .indexStr = true) (hr : RepL w G vs (o.op.operands.toList.map ρ) bl) (hs : sIndexStr vs H = some (v, H')) : Done ((execOp ρ o).run P w) (Post w G own v H') := by
  simp only [chkAct] at hc; split at hc
  · rename_i t x i ho
    split at hc
    · rename_i hu
      rw [ho] at hr
      simp only [Op.operands, List.map_cons, List.map_nil] at hr
      unfold execOp; simp only [ho]
      unfold sIndexStr at hs; split at hs
      · split at hs
        · rename_i q2
          obtain ⟨x', hx, he⟩ := Option.map_eq_some_iff.1 hs
          cases he
          exact DoneV.done (indexStr_post hok hu hr q2 hx)
        · cases hs
      · cases hs
    · cases hc
  · cases hc

theorem bounds_bnd {lo hi : Bool} {n : Nat} {bs : List V} {l h : Nat} (hb : bounds lo hi n bs = some (l, h)) {cs : List Value} {bl : List Nat} (hr : RepL w G bs cs bl) {cl ch : Option Value} (hl : cl.isSome = lo) (hh : ch.isSome = hi) (hcs : cs = cl.toList ++ ch.toList) :
    Bnd cl l 0 ∧ Bnd ch h n ∧ l ≤ h ∧ h ≤ n := by
  unfold bounds at hb
  split at hb
  · split at hb
    · rename_i hq
      simp only [Bool.and_eq_true, Bool.not_eq_true'] at hq
      cases hb
      rw [hq.1] at hl; rw [hq.2] at hh
      have e1 : cl = none := by cases cl <;> simp_all
      have e2 : ch = none := by cases ch <;> simp_all
      exact ⟨.inl ⟨e1, rfl⟩, .inl ⟨e2, rfl⟩, Nat.zero_le _, Nat.le_refl _⟩
    · cases hb
  · rename_i kx x
    obtain ⟨cs', hcs2, hr⟩ := hr.int_inv
    obtain ⟨rfl, _⟩ := hr.nil_inv
    split at hb
    · rename_i hq
      simp only [Bool.and_eq_true, Bool.not_eq_true'] at hq
      split at hb
      · rename_i hx
        cases hb
        rw [hq.1] at hl; rw [hq.2] at hh
        have e2 : ch = none := by cases ch <;> simp_all
        subst e2
        obtain ⟨c, e1⟩ := Option.isSome_iff_exists.1 hl
        subst e1
        rw [hcs2] at hcs
        have hcs : [_] = [c] := hcs
        cases hcs
        exact ⟨.inr ⟨_, x, rfl, hx.1, rfl⟩, .inl ⟨rfl, rfl⟩, by omega, Nat.le_refl _⟩
      · cases hb
    · split at hb
      · rename_i hq
        simp only [Bool.and_eq_true, Bool.not_eq_true'] at hq
        split at hb
        · rename_i hx
          cases hb
          rw [hq.1] at hl; rw [hq.2] at hh
          have e2 : cl = none := by cases cl <;> simp_all
          subst e2
          obtain ⟨c, e1⟩ := Option.isSome_iff_exists.1 hh
          subst e1
          rw [hcs2] at hcs
          have hcs : [_] = [c] := hcs
          cases hcs
          exact ⟨.inl ⟨rfl, rfl⟩, .inr ⟨_, x, rfl, hx.1, rfl⟩, Nat.zero_le _, by omega⟩
        · cases hb
      · cases hb
  · rename_i kx x ky y
    split at hb
    · rename_i hq
      simp only [Bool.and_eq_true, decide_eq_true_eq] at hq
      obtain ⟨⟨q1, q2⟩, q3, q4, q5⟩ := hq
      cases hb
      obtain ⟨cs', hcs2, hr⟩ := hr.int_inv
      obtain ⟨cs2, hcs3, hr⟩ := hr.int_inv
      obtain ⟨rfl, _⟩ := hr.nil_inv
      rw [q1] at hl; rw [q2] at hh
      obtain ⟨c1, e1⟩ := Option.isSome_iff_exists.1 hl
      obtain ⟨c2, e2⟩ := Option.isSome_iff_exists.1 hh
      subst e1 e2
      rw [hcs2, hcs3] at hcs
      have hcs : [_, _] = [c1, c2] := hcs
      cases hcs
      exact ⟨.inr ⟨_, x, rfl, q3, rfl⟩, .inr ⟨_, y, rfl, by omega, rfl⟩, by omega, by omega⟩
    · cases hb
  · cases hb

theorem slice_ops {t : TypeId} {x : Operand} {l h : Option Operand} : (Op.slice t x l h none).operands.toList.map ρ = ρ x :: ((l.map ρ).toList ++ (h.map ρ).toList) := by
  cases l <;> cases h <;> simp [Op.operands]

theorem RepL.hd {v0 : V} {bs : List V} {c : Value} {cs : List Value} {bl : List Nat} (hr : RepL w G (v0 :: bs) (c :: cs) bl) : (∃ b, RepL w G [v0] [c] b) ∧ ∃ b, RepL w G bs cs b := by
  obtain ⟨c, cs', b1, b2, hcs, _, r1, r2⟩ := hr.cons_inv
  cases hcs
  exact ⟨⟨_, r1⟩, ⟨_, r2⟩⟩

theorem snd_sliceStr (hok : Ok w G own H) {lo hi : Bool} (hc : chkAct P o (.sliceStr lo hi) = true) (hr : RepL w G vs (o.op.operands.toList.map ρ) bl) (hs : sSliceStr lo hi vs H = some (v, H')) : Done ((execOp ρ o).run P w) (Post w G own v H') := by
  simp only [chkAct] at hc; split at hc
  · rename_i t x l h m ho
    simp only [Bool.and_eq_true, beq_iff_eq, Option.isNone_iff_eq_none] at hc
    obtain ⟨⟨⟨h1, h2⟩, h3⟩, h4⟩ := hc
    subst h3
    rw [ho, slice_ops] at hr
    unfold execOp; simp only [ho, Option.map_none]
    unfold sSliceStr at hs; split at hs
    · obtain ⟨⟨p1, p2⟩, hb, he⟩ := Option.map_eq_some_iff.1 hs
      cases he
      obtain ⟨⟨b1, r1⟩, b2, r2⟩ := hr.hd
      obtain ⟨k1, k2, k3, k4⟩ := bounds_bnd hb r2 (cl := l.map ρ) (ch := h.map ρ) (by simpa using h1) (by simpa using h2) rfl
      split at h4
      · rename_i hu; exact DoneV.done (slice_str_post hok hu r1 k1 k2 k3 k4)
      · cases h4
    · cases hs
  · cases hc

theorem snd_slice (hok : Ok w G own H) {lo hi : Bool} {sz : Nat} (hc : chkAct P o (.slice lo hi sz) = true) (hr : RepL w G vs (o.op.operands.toList.map ρ) bl) (hs : sSlice lo hi sz vs H = some (v, H')) : Done ((execOp ρ o).run P w) (Post w G own v H') := by
  simp only [chkAct] at hc; split at hc
  · rename_i t x l h m ho
    simp only [Bool.and_eq_true, beq_iff_eq, Option.isNone_iff_eq_none] at hc
    obtain ⟨⟨⟨h1, h2⟩, h3⟩, h4⟩ := hc
    subst h3
    split at h4
    · rename_i e he
      have hu := isSlice_eq he
      have hsz := sizeIs_eq h4
      rw [ho, slice_ops] at hr
      unfold execOp; simp only [ho, Option.map_none]
      have hl : (l.map ρ).isSome = lo := by simpa using h1
      have hh : (h.map ρ).isSome = hi := by simpa using h2
      unfold sSlice at hs; split at hs
      · split at hs
        · rename_i hz
          subst hz
          obtain ⟨⟨p1, p2⟩, hb, he⟩ := Option.map_eq_some_iff.1 hs
          cases he
          obtain ⟨⟨b1, r1⟩, b2, r2⟩ := hr.hd
          obtain ⟨k1, k2, k3, k4⟩ := bounds_bnd hb r2 hl hh rfl
          exact DoneV.done (slice_sl_post hok hu hsz r1 k1 k2 k3 k4)
        · cases hs
      · obtain ⟨⟨p1, p2⟩, hb, he⟩ := Option.map_eq_some_iff.1 hs
        cases he
        obtain ⟨⟨b1, r1⟩, b2, r2⟩ := hr.hd
        obtain ⟨k1, k2, k3, k4⟩ := bounds_bnd hb r2 hl hh rfl
        exact DoneV.done (slice_nilh_post hok hu ⟨_, hsz⟩ r1 k1 k2 k3 k4)
      · split at hs
        · rename_i hz
          subst hz
          obtain ⟨⟨p1, p2⟩, hb, he⟩ := Option.map_eq_some_iff.1 hs
          cases he
          obtain ⟨⟨b1, r1⟩, b2, r2⟩ := hr.hd
          obtain ⟨k1, k2, k3, k4⟩ := bounds_bnd hb r2 hl hh rfl
          exact DoneV.done (slice_hsl_post hok hu hsz r1 k1 k2 k3 k4)
        · cases hs
      · cases hs
    · cases h4
  · cases hc

theorem snd_makeSl (hok : Ok w G own H) {sz bytes : Nat} {zs : List V} (hc : chkAct P o (.makeSl sz bytes zs) = true) (hr : RepL w G vs (o.op.operands.toList.map ρ) bl) (hs : sMakeSl sz bytes zs vs H = some (v, H')) : Done ((execOp ρ o).run P w) (Post w G own v H') := by
  simp only [chkAct] at hc; split at hc
  · rename_i t x y ho
    split at hc
    · rename_i e he
      have hu := isSlice_eq he
      simp only [Bool.and_eq_true, decide_eq_true_eq] at hc
      obtain ⟨⟨h1, h2⟩, h3⟩ := hc
      obtain ⟨i, z, k1, k2, k3, k4, k5⟩ := elemOk_eq h1
      obtain ⟨i', z', j1, j2, j3⟩ := zeroOk_eq h2
      rw [k1] at j1; cases j1
      rw [k2] at j2; cases j2
      subst k3 k4
      rw [ho] at hr
      simp only [Op.operands, List.map_cons, List.map_nil] at hr
      unfold execOp; simp only [ho]
      unfold sMakeSl at hs; split at hs
      · split at hs
        · rename_i hq
          obtain ⟨rfl, q2, q3, q4⟩ := hq
          cases hs
          obtain ⟨cs', hcs, hr⟩ := hr.int_inv
          obtain ⟨h4, rfl⟩ := List.cons.inj hcs
          obtain ⟨cs', hcs, hr⟩ := hr.int_inv
          obtain ⟨h5, rfl⟩ := List.cons.inj hcs
          rw [h4, h5]
          exact DoneV.done (makeSl_post hok hu k1 k2 k5 h3 (j3 _) _ q2 q3 q4 _)
        · cases hs
      · cases hs
    · cases hc
  · cases hc

theorem snd_makeH (hok : Ok w G own H) {sz bytes : Nat} {zs : List V} (hc : chkAct P o (.makeH sz bytes zs) = true) (hr : RepL w G vs (o.op.operands.toList.map ρ) bl) (hs : sMakeH sz bytes zs vs H = some (v, H')) : Done ((execOp ρ o).run P w) (Post w G own v H') := by
  simp only [chkAct] at hc; split at hc
  · rename_i t x y ho
    split at hc
    · rename_i e he
      have hu := isSlice_eq he
      simp only [Bool.and_eq_true, decide_eq_true_eq] at hc
      obtain ⟨⟨h1, h2⟩, h3⟩ := hc
      obtain ⟨i, z, k1, k2, k3, k4, k5⟩ := elemOk_eq h1
      obtain ⟨i', z', j1, j2, j3⟩ := zeroOk'_eq h2
      rw [k1] at j1; cases j1
      rw [k2] at j2; cases j2
      subst k3 k4
      rw [ho] at hr
      simp only [Op.operands, List.map_cons, List.map_nil] at hr
      unfold execOp; simp only [ho]
      unfold sMakeH at hs; split at hs
      · split at hs
        · rename_i hq
          obtain ⟨rfl, q2, q3, q4⟩ := hq
          cases hs
          obtain ⟨cs', hcs, hr⟩ := hr.int_inv
          obtain ⟨h4, rfl⟩ := List.cons.inj hcs
          obtain ⟨cs', hcs, hr⟩ := hr.int_inv
          obtain ⟨h5, rfl⟩ := List.cons.inj hcs
          rw [h4, h5]
          exact DoneV.done (makeH_post hok hu k1 k2 k5 h3 j3 _ q2 q3 q4 _)
        · cases hs
      · cases hs
    · cases hc
  · cases hc

theorem map2 (x y : Operand) : (#[x, y].map ρ) = #[ρ x, ρ y] := by simp
theorem map1 (x : Operand) : (#[x].map ρ) = #[ρ x] := by simp

theorem call_builtin {c : Call} {b : Builtin} (ho : o.op = .call c) (hb : c.callee = .builtin b) : execOp ρ o = builtin b c.argTypes o.type (c.args.map fun | .const _ => true | _ => false) (c.args.map ρ) := by
  unfold execOp; simp only [ho, resolve, hb, invoke]; rfl

theorem call_ops {c : Call} {b : Builtin} (ho : o.op = .call c) (hb : c.callee = .builtin b) : o.op.operands.toList.map ρ = c.args.toList.map ρ := by
  rw [ho]; simp [Op.operands, Call.operands, hb]

theorem chkAppend_eq {sz bytes : Nat} {str : Bool} (h : chkAppend P o sz bytes str = true) : ∃ c x y t tx e i z, o.op = .call c ∧ c.callee = .builtin .append ∧ c.args = #[x, y] ∧ c.argTypes = #[t, tx] ∧
    P.underlying t = some (.slice e) ∧ P.info? e = some i ∧ i.zero = some z ∧ i.size = sz ∧ i.bytes = bytes ∧ z.cells.size = i.size ∧ ((str = false ∧ ∃ e', P.underlying tx = some (.slice e')) ∨ (str = true ∧ P.underlying tx = some .string)) := by
  unfold chkAppend at h
  split at h
  · rename_i c ho
    split at h
    · rename_i x y t tx h1 h2 h3
      split at h
      · rename_i e he
        simp only [Bool.and_eq_true] at h
        obtain ⟨k1, k2⟩ := h
        obtain ⟨i, z, j1, j2, j3, j4, j5⟩ := elemOk_eq k1
        refine ⟨c, x, y, t, tx, e, i, z, ho, h1, by rw [← Array.toArray_toList (xs := c.args), h2], by rw [← Array.toArray_toList (xs := c.argTypes), h3], isSlice_eq he, j1, j2, j3, j4, j5, ?_⟩
        split at k2
        · rename_i e' hu; exact .inl ⟨by simpa using k2, e', hu⟩
        · rename_i hu; exact .inr ⟨k2, hu⟩
        · cases k2
      · cases h
    · cases h
  · cases h

theorem snd_append (hok : Ok w G own H) {sz bytes : Nat} (hc : chkAct P o (.append sz bytes) = true) (hr : RepL w G vs (o.op.operands.toList.map ρ) bl) (hn : bl.Nodup) (ha : ∀ b ∈ bl, own b = some .arg) (hs : sAppend sz bytes vs H = some (v, H')) : Done ((execOp ρ o).run P w) (Post w G own v H') := by
  simp only [chkAct] at hc
  obtain ⟨c, x, y, t, tx, e, i, z, ho, hb, h1, h2, hu, hi, hz, rfl, rfl, hzs, hk⟩ := chkAppend_eq hc
  rw [call_ops ho hb, h1] at hr
  rw [call_builtin ho hb, h1, h2, map2]
  rcases hk with ⟨_, e', hk⟩ | ⟨h, _⟩
  · unfold sAppend at hs; split at hs
    · split at hs
      · rename_i hq
        obtain ⟨rfl, rfl, q3, q4⟩ := hq
        cases hs
        exact DoneV.done (append_sl_post hok hu hk hi hz hzs hr hn ha q3 q4)
      · cases hs
    · cases hs
  · cases h

theorem snd_appendS (hok : Ok w G own H) {bytes : Nat} (hc : chkAct P o (.appendS bytes) = true) (hr : RepL w G vs (o.op.operands.toList.map ρ) bl) (hn : bl.Nodup) (ha : ∀ b ∈ bl, own b = some .arg) (hs : sAppendS bytes vs H = some (v, H')) : Done ((execOp ρ o).run P w) (Post w G own v H') := by
  simp only [chkAct] at hc
  obtain ⟨c, x, y, t, tx, e, i, z, ho, hb, h1, h2, hu, hi, hz, hsz, rfl, hzs, hk⟩ := chkAppend_eq hc
  rw [call_ops ho hb, h1] at hr
  rw [call_builtin ho hb, h1, h2, map2]
  rcases hk with ⟨h, _⟩ | ⟨_, hk⟩
  · cases h
  · unfold sAppendS at hs; split at hs
    · split at hs
      · rename_i hq
        obtain ⟨rfl, q3, q4⟩ := hq
        cases hs
        exact DoneV.done (append_str_post hok hu hk hi hz hzs hsz hr hn ha q3 q4)
      · cases hs
    · cases hs

theorem snd_appendR (hok : Ok w G own H) {sz bytes : Nat} (hc : chkAct P o (.appendR sz bytes) = true) (hr : RepL w G vs (o.op.operands.toList.map ρ) bl) (hn : bl.Nodup) (ha : ∀ b ∈ bl, own b = some .arg) (hs : sAppendR sz bytes vs H = some (v, H')) : Done ((execOp ρ o).run P w) (Post w G own v H') := by
  simp only [chkAct] at hc
  obtain ⟨c, x, y, t, tx, e, i, z, ho, hb, h1, h2, hu, hi, hz, rfl, rfl, hzs, hk⟩ := chkAppend_eq hc
  rw [call_ops ho hb, h1] at hr
  rw [call_builtin ho hb, h1, h2, map2]
  rcases hk with ⟨_, e', hk⟩ | ⟨h, _⟩
  · unfold sAppendR at hs; split at hs
    · split at hs
      · rename_i hq
        obtain ⟨rfl, rfl, q3, q4⟩ := hq
        obtain ⟨cs, hg, hs⟩ := Option.bind_eq_some_iff.1 hs
        obtain ⟨l, hcut, hs⟩ := Option.bind_eq_some_iff.1 hs
        obtain ⟨l', hl, he⟩ := Option.map_eq_some_iff.1 hs
        cases he
        exact DoneV.done (append_hslsrc_post hok hu hk hi hz hzs hr hn ha q3 q4 hg hcut hl)
      · cases hs
    · cases hs
  · cases h

theorem snd_appendH (hok : Ok w G own H) {sz bytes : Nat} (hc : chkAct P o (.appendH sz bytes) = true) (hr : RepL w G vs (o.op.operands.toList.map ρ) bl) (hs : sAppendH sz bytes vs H = some (v, H')) : Done ((execOp ρ o).run P w) (Post w G own v H') := by
  simp only [chkAct] at hc
  obtain ⟨c, x, y, t, tx, e, i, z, ho, hb, h1, h2, hu, hi, hz, rfl, rfl, hzs, hk⟩ := chkAppend_eq hc
  rw [call_ops ho hb, h1] at hr
  rw [call_builtin ho hb, h1, h2, map2]
  rcases hk with ⟨_, e', hk⟩ | ⟨h, _⟩
  · unfold sAppendH at hs; split at hs
    · split at hs
      · rename_i hq
        obtain ⟨rfl, rfl, q3, q4, q5⟩ := hq
        cases hs
        exact DoneV.done (appendN_post hok hu hk hi hz hzs hr q3 q4 q5)
      · cases hs
    · split at hs
      · rename_i hq
        obtain ⟨rfl, rfl, rfl, q4, q5⟩ := hq
        obtain ⟨cs, hg, hs⟩ := Option.bind_eq_some_iff.1 hs
        obtain ⟨l, hcut, hs⟩ := Option.bind_eq_some_iff.1 hs
        cases hs
        exact DoneV.done (appendH_post hok hu hk hi hz hzs hr q4 q5 hg hcut)
      · cases hs
    · cases hs
  · cases h

theorem chkLen_eq {str : Bool} (h : chkLen P o str = true) : ∃ c x t d, o.op = .call c ∧ c.callee = .builtin .len ∧ c.args = #[x] ∧ c.argTypes = #[t] ∧ P.underlying t = some d ∧ ((str = false ∧ ∃ e', d = .slice e') ∨ (str = true ∧ d = .string)) := by
  unfold chkLen at h
  split at h
  · rename_i c ho
    split at h
    · rename_i x t h1 h2 h3
      cases hu : P.underlying t with
      | none => simp [hu] at h
      | some d =>
        refine ⟨c, x, t, d, ho, h1, by rw [← Array.toArray_toList (xs := c.args), h2], by rw [← Array.toArray_toList (xs := c.argTypes), h3], hu, ?_⟩
        rw [hu] at h
        cases d <;> simp at h
        · exact .inr ⟨h, rfl⟩
        · exact .inl ⟨h, _, rfl⟩
    · cases h
  · cases h

theorem snd_len (hok : Ok w G own H) (hc : chkAct P o .len = true) (hr : RepL w G vs (o.op.operands.toList.map ρ) bl) (hs : sLen vs H = some (v, H')) : Done ((execOp ρ o).run P w) (Post w G own v H') := by
  simp only [chkAct] at hc
  obtain ⟨c, x, t, d, ho, hb, h1, h2, hu, hk⟩ := chkLen_eq hc
  rw [call_ops ho hb, h1] at hr
  rw [call_builtin ho hb, h1, h2, map1]
  rcases hk with ⟨_, e', rfl⟩ | ⟨h, _⟩
  · unfold sLen at hs; split at hs
    · cases hs; exact DoneV.done (len_post hok hu hr (.inr ⟨⟨e', rfl⟩, .inl ⟨_, _, _, rfl, rfl⟩⟩))
    · cases hs; exact DoneV.done (len_post (n := 0) hok hu hr (.inr ⟨⟨e', rfl⟩, .inr (.inr ⟨_, rfl, rfl⟩)⟩))
    · cases hs; exact DoneV.done (len_post hok hu hr (.inr ⟨⟨e', rfl⟩, .inr (.inl ⟨_, _, _, _, rfl⟩)⟩))
    · cases hs
  · cases h

theorem snd_lenStr (hok : Ok w G own H) (hc : chkAct P o .lenStr = true) (hr : RepL w G vs (o.op.operands.toList.map ρ) bl) (hs : sLenStr vs H = some (v, H')) : Done ((execOp ρ o).run P w) (Post w G own v H') := by
  simp only [chkAct] at hc
  obtain ⟨c, x, t, d, ho, hb, h1, h2, hu, hk⟩ := chkLen_eq hc
  rw [call_ops ho hb, h1] at hr
  rw [call_builtin ho hb, h1, h2, map1]
  rcases hk with ⟨h, _⟩ | ⟨_, rfl⟩
  · cases h
  · unfold sLenStr at hs; split at hs
    · cases hs; exact DoneV.done (len_post hok hu hr (.inl ⟨rfl, _, rfl, rfl⟩))
    · cases hs

theorem snd_min (hok : Ok w G own H) (hc : chkAct P o .min = true) (hr : RepL w G vs (o.op.operands.toList.map ρ) bl) (hs : sMin vs H = some (v, H')) : Done ((execOp ρ o).run P w) (Post w G own v H') := by
  simp only [chkAct] at hc; split at hc
  · rename_i c ho
    split at hc
    · rename_i x y hb h1
      have h1 : c.args = #[x, y] := by rw [← Array.toArray_toList (xs := c.args), h1]
      rw [call_ops ho hb, h1] at hr
      rw [call_builtin ho hb, h1]
      unfold sMin at hs; split at hs
      · split at hs
        · rename_i hq; subst hq
          cases hs
          obtain ⟨cs', hcs, hr⟩ := hr.int_inv
          obtain ⟨h4, h5⟩ := List.cons.inj hcs
          subst h5
          obtain ⟨cs', hcs, hr⟩ := hr.int_inv
          obtain ⟨h5, _⟩ := List.cons.inj hcs
          rw [map2, h4, h5]
          exact DoneV.done (min_post hok _ _ _)
        · cases hs
      · cases hs
    · cases hc
  · cases hc

theorem snd_max (hok : Ok w G own H) (hc : chkAct P o .max = true) (hr : RepL w G vs (o.op.operands.toList.map ρ) bl) (hs : sMax vs H = some (v, H')) : Done ((execOp ρ o).run P w) (Post w G own v H') := by
  simp only [chkAct] at hc; split at hc
  · rename_i c ho
    split at hc
    · rename_i x y hb h1
      have h1 : c.args = #[x, y] := by rw [← Array.toArray_toList (xs := c.args), h1]
      rw [call_ops ho hb, h1] at hr
      rw [call_builtin ho hb, h1]
      unfold sMax at hs; split at hs
      · split at hs
        · rename_i hq; subst hq
          cases hs
          obtain ⟨cs', hcs, hr⟩ := hr.int_inv
          obtain ⟨h4, h5⟩ := List.cons.inj hcs
          subst h5
          obtain ⟨cs', hcs, hr⟩ := hr.int_inv
          obtain ⟨h5, _⟩ := List.cons.inj hcs
          rw [map2, h4, h5]
          exact DoneV.done (max_post hok _ _ _)
        · cases hs
      · cases hs
    · cases hc
  · cases hc

theorem snd_extract (hok : Ok w G own H) {i : Nat} (hc : chkAct P o (.extract i) = true) (hr : RepL w G vs (o.op.operands.toList.map ρ) bl) (hn : bl.Nodup) (ha : ∀ b ∈ bl, own b = some .arg) (hs : sExtract i vs H = some (v, H')) : Done ((execOp ρ o).run P w) (Post w G own v H') := by
  simp only [chkAct] at hc; split at hc
  · rename_i x i' ho
    have : i = i' := by simpa using hc
    subst this
    rw [ho] at hr
    simp only [Op.operands, List.map_cons, List.map_nil] at hr
    unfold execOp; simp only [ho]
    unfold sExtract at hs; split at hs
    · obtain ⟨v', hv, he⟩ := Option.map_eq_some_iff.1 hs
      cases he
      exact DoneV.done (extract_post hok hr hn ha hv)
    · cases hs
  · cases hc

/-- What is handed to a closure is kept by it: nothing that is owned. -/
theorem snd_mkfn (hok : Ok w G own H) {f : Nat} (hc : chkAct P o (.mkfn f) = true) (hr : RepL w G vs (o.op.operands.toList.map ρ) []) (hs : sMkfn f vs H = some (v, H')) : Done ((execOp ρ o).run P w) (Post w G own v H') := by
  simp only [chkAct] at hc; split at hc
  · rename_i f' first cap ho
    simp only [Bool.and_eq_true, beq_iff_eq] at hc
    obtain ⟨rfl, h1⟩ := hc
    have h1 : first = #[] := by simpa using h1
    subst h1
    rw [ho] at hr
    cases hs
    unfold execOp; simp only [ho]
    have h2 : (cap.map ρ) = (cap.toList.map ρ).toArray := by apply Array.ext'; rw [Array.toList_map]
    have h3 : (#[] : Array Operand).map ρ = #[] := by simp
    rw [h2, h3]
    exact DoneV.done (mkfn_post hok (by simpa [Op.operands] using hr))
  · cases hc

/-- EACH OPERATION DOES WHAT THE MACHINE SAYS. -/
theorem act_sound (hok : Ok w G own H) (hcn : ∀ c, ρ (.const c) = c) {act : Act} (hc : chkAct P o act = true) (hr : RepL w G vs (o.op.operands.toList.map ρ) bl) (hn : bl.Nodup) (ha : ∀ b ∈ bl, own b = some .arg) (hk : (∃ f, act = .mkfn f) → bl = [])
    (hs : act.sem vs H = some (v, H')) : Done ((execOp ρ o).run P w) (Post w G own v H') := by
  cases act with
  | mv => exact snd_mv hok hc hr hn ha hs
  | pick => exact snd_pick hok hc hr hn ha hs
  | thaw => exact snd_thaw hok hc hr hn ha hs
  | bin op => exact snd_bin hok hc hr hs
  | eqc ne agg ks => exact snd_eqc hok hc hr hs
  | isNil ne => exact snd_isNil hok hcn hc hr hs
  | not => exact snd_not hok hc hr hs
  | neg => exact snd_neg hok hc hr hs
  | conv k => exact snd_conv hok hc hr hs
  | same => exact snd_same hok hc hr hs
  | alloc zs => exact snd_alloc hok hc hs
  | box => exact snd_box hok hc hr hn ha hs
  | build zs ps => exact snd_build hok hc hr hn ha hs
  | buildSl sz => exact snd_buildSl hok hc hr hs
  | buildFr sz => exact snd_buildFr hok hc hr hs
  | load n agg => exact snd_load hok hc hr hs
  | loadT n agg => exact snd_loadT hok hc hr hs
  | store n => exact snd_store hok hc hr hn ha hs
  | nilCheck => exact snd_nilCheck hok hc hr hn ha hs
  | fieldAddr off => exact snd_fieldAddr hok hc hr hs
  | field off n agg => exact snd_field hok hc hr hn ha hs
  | indexAddr sz => exact snd_indexAddr hok hc hr hs
  | indexStr => exact snd_indexStr hok hc hr hs
  | slice lo hi sz => exact snd_slice hok hc hr hs
  | sliceStr lo hi => exact snd_sliceStr hok hc hr hs
  | makeSl sz bytes zs => exact snd_makeSl hok hc hr hs
  | makeH sz bytes zs => exact snd_makeH hok hc hr hs
  | append sz bytes => exact snd_append hok hc hr hn ha hs
  | appendS bytes => exact snd_appendS hok hc hr hn ha hs
  | appendR sz bytes => exact snd_appendR hok hc hr hn ha hs
  | appendH sz bytes => exact snd_appendH hok hc hr hs
  | len => exact snd_len hok hc hr hs
  | lenStr => exact snd_lenStr hok hc hr hs
  | min => exact snd_min hok hc hr hs
  | max => exact snd_max hok hc hr hs
  | extract i => exact snd_extract hok hc hr hn ha hs
  | mkfn f => obtain rfl := hk ⟨f, rfl⟩; exact snd_mkfn hok hc hr hs
  | toStr => cases hc
  | mapLen => cases hc
  | makeMap => cases hc
  | lookup => cases hc
  | mapUpdate => cases hc
  | delete => cases hc
  | call => cases hc
end
end Go.Proofs.Ytglemgdlkddjhaa.Vm
