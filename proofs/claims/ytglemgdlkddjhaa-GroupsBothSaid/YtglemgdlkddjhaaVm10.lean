/-
The value machine, part 10: structs and lists that are built; slices, indexes, lengths; append.
-/
import Derived.Test.YtglemgdlkddjhaaVm9
import Derived.Great.BuildSlice
namespace Go.Proofs.Ytglemgdlkddjhaa.Vm
open Go

theorem fold_put (off : Nat) : ∀ (l : List Value) (k : Nat) (cells : Array Value), off + k + l.length ≤ cells.size →
    ((l.zipIdx k).foldl (fun (cs : Array Value) (x : Value × Nat) => cs.setIfInBounds (off + x.2) x.1) cells).toList = cells.toList.take (off + k) ++ l ++ cells.toList.drop (off + k + l.length)
  | [], k, cells, h => by simp
  | v :: l, k, cells, h => by
    have hcl : cells.toList.length = cells.size := Array.length_toList
    simp only [List.length_cons] at h
    rw [List.zipIdx_cons, List.foldl_cons, fold_put off l (k + 1) _ (by simp; omega)]
    simp only [Array.toList_setIfInBounds, List.length_cons]
    have := list_seg_step cells.toList (off + k) v l (by rw [hcl]; omega)
    rw [show off + (k + 1) = off + k + 1 by omega]
    simpa using this

theorem fold_put' (off : Nat) (c : Value) (cells : Array Value) (h : off + c.cells.size ≤ cells.size) :
    (c.cells.zipIdx.foldl (fun cs (x : Value × Nat) => cs.setIfInBounds (off + x.2) x.1) cells).toList = cells.toList.take off ++ c.cells.toList ++ cells.toList.drop (off + c.cells.size) := by
  have := fold_put off c.cells.toList 0 cells (by simpa using h)
  rw [← Array.foldl_toList, Array.toList_zipIdx]
  simpa using this

section
variable {P : Program} {w : World} {G : Gh} {own : Nat → Option Place} {H : Heap}

theorem fill_rep (place : Nat → Option (Nat × Nat)) : ∀ (ps : List (Nat × Nat)) (is : List Nat) (vs zs zs' : List V) (cs : List Value) (cells : Array Value) (b0 bl : List Nat),
    is.map place = ps.map some → RepL w G zs cells.toList b0 → RepL w G vs cs bl → (b0 ++ bl).Nodup → fillV zs ps vs = some zs' →
    ∃ r bl', Instr.fill place cells (is.zip cs) = some r ∧ RepL w G zs' r.toList bl' ∧ bl'.Nodup ∧ ∀ b ∈ bl', b ∈ b0 ++ bl
  | [], is, vs, zs, zs', cs, cells, b0, bl, hi, hz, hv, hn, hf => by
    match vs with
    | [] =>
      cases hf
      obtain ⟨rfl, rfl⟩ := hv.nil_inv
      exact ⟨cells, b0, by simp [Instr.fill], hz, by simpa using hn, by simp⟩
    | v :: vs => cases hf
  | (off, n) :: ps, is, vs, zs, zs', cs, cells, b0, bl, hi, hz, hv, hn, hf => by
    match is, vs with
    | [], _ => cases hi
    | i :: is, [] => cases hf
    | i :: is, v :: vs =>
      obtain ⟨c, cs, b1, b2, rfl, rfl, h1, h2⟩ := hv.cons_inv
      simp only [List.map_cons, List.cons.injEq] at hi
      unfold fillV at hf
      split at hf
      · rename_i hc
        obtain ⟨hsol, hlen, hoff⟩ := hc
        have hsc := solid_cells h1 hsol
        have hcn : c.cells.size = n := by rw [← hlen, hsc.length]; rfl
        have hzl := hz.length
        have hcl : cells.toList.length = cells.size := Array.length_toList
        have hcut : cut zs off n = some ((zs.drop off).take n) := by unfold cut; rw [if_pos hoff]
        obtain ⟨a1, a2, a3, hbl, r1, r2, r3, hl2, _⟩ := obj_part (c := cells) (cs := zs) (by rw [hzl, List.take_length]; exact hz) (by rw [hzl, hcl]; exact Nat.le_refl _) hcut
        rw [hzl, List.take_length] at r3
        obtain ⟨m1, m2, m3⟩ := List.nodup_append.1 hn
        obtain ⟨n1, n2, n3⟩ := List.nodup_append.1 m2
        have hb0 := m1
        rw [hbl] at hb0
        have k1 := List.nodup_append.1 hb0
        have k2 := List.nodup_append.1 k1.2.1
        have hput : RepL w G (put zs off v.cells) (cells.toList.take off ++ (c.cells.toList ++ cells.toList.drop (off + n))) (a1 ++ (b1 ++ a3)) := by
          unfold put; rw [List.append_assoc, hlen]
          exact RepL.append (RepL.append r3 hsc) r1
        let cells' := c.cells.zipIdx.foldl (fun cs (x : Value × Nat) => cs.setIfInBounds (off + x.2) x.1) cells
        have hcells' : cells'.toList = cells.toList.take off ++ (c.cells.toList ++ cells.toList.drop (off + n)) := by
          have := fold_put' off c cells (by rw [hcn, ← hcl, ← hzl]; exact hoff)
          rw [hcn, List.append_assoc] at this; exact this
        obtain ⟨r, bl', e1, e2, e3, e4⟩ := fill_rep place ps is vs (put zs off v.cells) zs' cs cells' (a1 ++ (b1 ++ a3)) b2 hi.2 (by rw [hcells']; exact hput) h2 (by
          have hin : ∀ x, x ∈ a1 ∨ x ∈ a3 → x ∈ b0 := by
            intro x hx; rw [hbl]
            rcases hx with hx | hx
            · exact List.mem_append_left _ hx
            · exact List.mem_append_right _ (List.mem_append_right _ hx)
          refine List.nodup_append.2 ⟨List.nodup_append.2 ⟨k1.1, List.nodup_append.2 ⟨n1, k2.2.1, ?_⟩, ?_⟩, n2, ?_⟩
          · intro x hx y hy e; subst e
            exact m3 x (hin x (.inr hy)) x (List.mem_append_left _ hx) rfl
          · intro x hx y hy e; subst e
            rcases List.mem_append.1 hy with hy | hy
            · exact m3 x (hin x (.inl hx)) x (List.mem_append_left _ hy) rfl
            · exact k1.2.2 x hx x (List.mem_append_right _ hy) rfl
          · intro x hx y hy e; subst e
            rcases List.mem_append.1 hx with hx | hx
            · exact m3 x (hin x (.inl hx)) x (List.mem_append_right _ hy) rfl
            · rcases List.mem_append.1 hx with hx | hx
              · exact n3 x hx x hy rfl
              · exact m3 x (hin x (.inr hx)) x (List.mem_append_right _ hy) rfl) hf
        refine ⟨r, bl', ?_, e2, e3, ?_⟩
        · simp only [List.zip_cons_cons, Instr.fill, hi.1]
          rw [if_neg (by
            rw [hcn]; simp only [ne_eq, not_true_eq_false, decide_eq_true_eq, decide_false, Bool.false_or]
            omega)]
          exact e1
        · intro b hb
          have := e4 b hb
          rw [hbl]
          simp only [List.mem_append] at this ⊢
          rcases this with (h | h | h) | h
          · exact .inl (.inl h)
          · exact .inr (.inl h)
          · exact .inl (.inr (.inr h))
          · exact .inr (.inr h)
      · cases hf

theorem build_post (hok : Ok w G own H) {t : TypeId} {fields : Array Field} {it : TypeInfo} {z : Value} {places ps : List (Nat × Nat)} {is : List Nat} {vs zs zs' : List V} {cs : List Value} {bl : List Nat}
    (hu : P.underlying t = some (.struct fields)) (hi : P.info? t = some it) (hz : it.zero = some z) (hp : fields.toList.mapM (fun f => (P.info? f.type).map fun i => (f.offset, i.size)) = some places)
    (hps : is.map (places[·]?) = ps.map some) (hzr : RepI G.imm zs z.cells.toList) (hr : RepL w G vs cs bl) (hn : bl.Nodup) (ha : ∀ b ∈ bl, own b = some .arg) (hf : fillV zs ps vs = some zs') :
    DoneV ((Instr.build t (is.zip cs).toArray).run P w) (Post w G own (.agg zs') H) := by
  obtain ⟨r, bl', e1, e2, e3, e4⟩ := fill_rep (fun i => places.toArray[i]?) ps is vs zs zs' cs z.cells [] bl (by simpa using hps) (RepI.toL hzr) hr (by simpa using hn) hf
  refine ⟨.agg r, w, run_build w t _ r ?_, ?_⟩
  · simp only [Program.built, hi, hu, hz, hp]
    exact e1
  · refine post_arg hok (bl := bl') ?_ e3 (fun b hb => ha b (by simpa using e4 b hb))
    simpa using RepL.agg e2 (RepL.nil (w := w) (G := G))

theorem build_arr_post (hok : Ok w G own H) {t e : TypeId} {len : Nat} {ie it : TypeInfo} {z : Value} {ps : List (Nat × Nat)} {is : List Nat} {vs zs zs' : List V} {cs : List Value} {bl : List Nat}
    (hu : P.underlying t = some (.array len e)) (hi : P.info? t = some it) (hie : P.info? e = some ie) (hz : it.zero = some z)
    (hps : is.map (fun i => (i * ie.size, ie.size)) = ps) (hzr : RepI G.imm zs z.cells.toList) (hr : RepL w G vs cs bl) (hn : bl.Nodup) (ha : ∀ b ∈ bl, own b = some .arg) (hf : fillV zs ps vs = some zs') :
    DoneV ((Instr.build t (is.zip cs).toArray).run P w) (Post w G own (.agg zs') H) := by
  obtain ⟨r, bl', e1, e2, e3, e4⟩ := fill_rep (fun i => some (i * ie.size, ie.size)) ps is vs zs zs' cs z.cells [] bl (by rw [← hps]; simp) (RepI.toL hzr) hr (by simpa using hn) hf
  refine ⟨.agg r, w, run_build w t _ r ?_, ?_⟩
  · simp only [Program.built, hi, hu, hz, hie]
    exact e1
  · refine post_arg hok (bl := bl') ?_ e3 (fun b hb => ha b (by simpa using e4 b hb))
    simpa using RepL.agg e2 (RepL.nil (w := w) (G := G))

theorem elems_rep {sz : Nat} : ∀ {vs : List V} {xs : List (List V)} {cs : List Value} {bl : List Nat}, RepL w G vs cs bl → elems sz vs = some xs →
    RepI G.imm xs.flatten (cs.flatMap fun c => c.cells.toList) ∧ (∀ x ∈ xs, x.length = sz) ∧ (∀ c ∈ cs, c.cells.size = sz) ∧ xs.length = cs.length
  | [], xs, cs, bl, h, e => by
    obtain ⟨rfl, _⟩ := h.nil_inv
    cases e
    exact ⟨.nil, by simp, by simp, rfl⟩
  | v :: vs, xs, cs, bl, h, e => by
    obtain ⟨c, cs, b1, b2, rfl, rfl, h1, h2⟩ := h.cons_inv
    unfold elems at e
    split at e
    · rename_i hc
      cases hi : inl v.cells with
      | none => rw [hi] at e; cases e
      | some l =>
        rw [hi] at e
        cases he : elems sz vs with
        | none => rw [he] at e; cases e
        | some ys =>
          rw [he] at e
          cases e
          obtain ⟨a1, a2, a3, a4⟩ := elems_rep h2 he
          have hs := solid_cells h1 hc.1
          have hil := hs.inl hi
          refine ⟨?_, ?_, ?_, by simp [a4]⟩
          · simp only [List.flatten_cons, List.flatMap_cons]
            exact RepI.append a1 hil
          · intro x hx
            rcases List.mem_cons.1 hx with rfl | hx
            · rw [hil.length, ← hs.length]; exact hc.2
            · exact a2 x hx
          · intro x hx
            rcases List.mem_cons.1 hx with rfl | hx
            · rw [← hc.2, hs.length]; rfl
            · exact a3 x hx
    · cases e

theorem buildSl_post (hok : Ok w G own H) {t e : TypeId} {ie : TypeInfo} {z : Value} (hu : P.underlying t = some (.slice e)) (hi : P.info? e = some ie) (hz : ie.zero = some z) (hzs : 0 < ie.size)
    {vs : List V} {xs : List (List V)} {cs : List Value} {bl : List Nat} (hr : RepL w G vs cs bl) (he : elems ie.size vs = some xs) (hsm : cs.length * ie.size ≤ 2 ^ 24) :
    DoneV ((Instr.buildSlice t cs.length ((cs.zipIdx 0).map fun x => (x.2, x.1)).toArray).run P w) (Post w G own (.sl true ie.size xs) H) := by
  obtain ⟨h1, h2, h3, h4⟩ := elems_rep hr he
  by_cases hpos : cs.length = 0
  · have : cs = [] := List.eq_nil_of_length_eq_zero hpos
    subst this
    have hx : xs = [] := List.eq_nil_of_length_eq_zero (by simpa using h4)
    subst hx
    refine ⟨.slice (some ⟨w.heap.size, 0, none⟩) 0 0, { w with heap := w.heap.push (.cells #[] e) }, ?_, ?_⟩
    · simp [Instr.buildSlice, run_underlying hu, sizeOf, typeInfo, hi, Instr.fill, newRow]
      congr 2
      apply Array.eq_empty_of_size_eq_zero; simp
    · have := post_list (w := w) (w' := { w with heap := w.heap.push (.cells #[] e) }) hok (sz := ie.size) (xs := []) (acs := []) (rest := []) (t := e) (cap := 0) rfl rfl rfl rfl (by simp) .nil (Nat.le_refl _) (by simp)
      exact this
  · have hfill := Great.fill_whole hzs cs ((Array.range (cs.length * ie.size)).map (z.cells[· % z.cells.size]!)) h3 (by simp)
    have hrun := run_buildSlice (P := P) w t e cs.length ((cs.zipIdx 0).map fun x => (x.2, x.1)).toArray _ ie z hu hi hz (by omega) (by
      intro h0; rcases Nat.mul_eq_zero.1 h0 with h | h <;> omega) hfill
    refine ⟨_, _, hrun, ?_⟩
    have := post_list (w := w) (w' := w.alloc (.cells (cs.flatMap fun v => v.cells.toList).toArray e)) hok (sz := ie.size) (xs := xs) (acs := cs.flatMap fun v => v.cells.toList) (rest := []) (t := e) (cap := cs.length)
      (by rw [List.append_nil]; rfl) rfl rfl rfl h2 h1 (by omega) (by rw [List.append_nil, ← h1.length, flat_len h2, h4]; exact Nat.le_refl _)
    rwa [h4] at this
end
end Go.Proofs.Ytglemgdlkddjhaa.Vm
