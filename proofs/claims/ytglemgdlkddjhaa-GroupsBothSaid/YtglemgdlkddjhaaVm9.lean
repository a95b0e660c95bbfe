/-
The value machine, part 9: objects that are made and written.
-/
import Derived.Test.YtglemgdlkddjhaaVm8
namespace Go.Proofs.Ytglemgdlkddjhaa.Vm
open Go

section
variable {P : Program} {w : World} {G : Gh} {own : Nat → Option Place} {H : Heap}

theorem RepL.one1 {v : V} {c : Value} {bl : List Nat} (h : RepL w G [v] [c] bl) (hs : scal0 v = true) : c.oneCell' = true := by
  cases h with
  | imm _ c h1 _ => exact h1.one c (by simp)
  | u c _ => cases hs
  | agg _ _ => cases hs
  | tup _ _ => cases hs
  | _ => rfl

theorem RepL.ones : ∀ {vs : List V} {cs : List Value} {bl : List Nat}, RepL w G vs cs bl → vs.all scal0 = true → ∀ c ∈ cs, c.oneCell' = true
  | [], cs, bl, h, _ => by rw [h.nil_inv.1]; intro c hc; cases hc
  | v :: vs, cs, bl, h, hs => by
    obtain ⟨c, cs, b1, b2, rfl, rfl, h1, h⟩ := h.cons_inv
    simp only [List.all_cons, Bool.and_eq_true] at hs
    intro x hx
    rcases List.mem_cons.1 hx with rfl | hx
    · exact h1.one1 hs.1
    · exact RepL.ones h hs.2 x hx

theorem one_cells {c : Value} (h : c.oneCell' = true) : c.cells = #[c] := by cases c <;> first | rfl | cases h

theorem solid_cells {v : V} {c : Value} {bl : List Nat} (h : RepL w G [v] [c] bl) (hs : solid v = true) : RepL w G v.cells c.cells.toList bl := by
  have hcase : ∀ (hv : scal0 v = true) (hc : v.cells = [v]), RepL w G v.cells c.cells.toList bl := by
    intro hv hc
    rw [hc, one_cells (h.one1 hv)]; exact h
  cases h with
  | agg hr e => cases e; simpa [V.cells, Value.cells] using hr
  | u c _ => cases hs
  | tup _ _ => cases hs
  | imm _ c h1 e => cases h1 <;> exact hcase rfl rfl
  | _ => exact hcase rfl rfl

theorem thaw_one (hok : Ok w G own H) {sz : Nat} {xs : List (List V)} {c : Value} {bl : List Nat} (hr : RepL w G [.fr sz xs] [c] bl) (ha : ∀ b ∈ bl, own b = some .arg) :
    ∃ G' own', Ok w G' own' (H ++ [.cells 0 xs.flatten]) ∧ RepL w G' [.hsl H.length 0 0 xs.length sz] [c] [] ∧ Ext w G own w G' own' ∧ G'.imm = G.imm ∧ ∀ b, b ∉ bl → own' b = own b := by
  cases hr with
  | imm _ c h1 _ => cases h1
  | fr sz xs b cap c e hz hw hn hp hri hc hs _ =>
    have hown : own b = some .arg := ha b (by simp)
    obtain ⟨rest, hp⟩ := hp
    have hloc : (G.loc ++ [(b, 0, c.size)])[H.length]? = some (b, 0, c.size) := by rw [hok.len]; simp
    refine ⟨⟨G.imm, G.loc ++ [(b, 0, c.size)]⟩, setO own b (some (.obj H.length)), ⟨hok.imm, ?_, by simp [hok.len], ?_⟩, ?_, ?_, rfl, ?_⟩
    · intro x p hx
      by_cases hb : x = b
      · subst hb; exact hok.size _ _ hown
      · rw [setO_ne _ _ hb] at hx; exact hok.size _ _ hx
    · intro i ob hob
      rcases Nat.lt_or_ge i H.length with hlt | hge
      · rw [List.getElem?_append_left hlt] at hob
        refine ObjOk.mono (G := G) (G' := ⟨G.imm, G.loc ++ [(b, 0, c.size)]⟩) (hok.obj i ob hob) (fun _ _ _ h => h) (loc_append G _) ?_ ?_
        · exact List.getElem?_append_left (by rw [← hok.len]; exact hlt)
        · intro x hx
          refine ⟨rfl, fun _ => rfl, setO_ne _ _ ?_⟩
          intro e; rw [e, hown] at hx; rcases hx with hx | hx <;> cases hx
      · have : i = H.length := by
          rcases Nat.lt_or_ge H.length i with h' | h'
          · rw [List.getElem?_eq_none (by simp; omega)] at hob; cases hob
          · omega
        subst this
        simp at hob; subst hob
        have hl := hri.length
        have hcl : c.toList.length = c.size := Array.length_toList
        refine ⟨b, c, e, [], hloc, setO_same _ _ _, hw, hn, ?_, ?_, List.nodup_nil, fun _ h => by cases h⟩
        · rw [← hcl, hp, List.length_append, hl]; omega
        · rw [hp, hl, List.take_left]
          exact RepI.toL (G := ⟨G.imm, G.loc ++ [(b, 0, c.size)]⟩) hri
    · exact .hsl H.length 0 0 xs.length sz b 0 c.size b cap hloc (Nat.le_refl _) hc (fun _ => ⟨rfl, by omega⟩) .nil
    · refine ⟨Nat.le_refl _, fun _ _ _ h => h, loc_append G _, fun x hx => ⟨rfl, fun _ => rfl, ?_⟩, rfl, rfl, rfl⟩
      rw [setO_ne]; exact hx
      intro e; rw [e, hown] at hx; cases hx
    · intro x hx; exact setO_ne _ _ (fun e => hx (by rw [e]; exact List.mem_cons_self ..))

theorem thawL_keeps : ∀ (vs : List V) (H : Heap) (i : Nat), i < H.length → (thawL vs H).2[i]? = H[i]? ∧ H.length ≤ (thawL vs H).2.length
  | [], H, i, h => ⟨rfl, Nat.le_refl _⟩
  | v :: vs, H, i, h => by
    have k := thawL_keeps vs H i h
    cases v
    case fr sz xs =>
      have k := thawL_keeps vs (H ++ [.cells 0 xs.flatten]) i (by simp; omega)
      refine ⟨?_, ?_⟩
      · show (thawL vs (H ++ [.cells 0 xs.flatten])).2[i]? = H[i]?
        rw [k.1, List.getElem?_append_left h]
      · have := k.2; simp at this
        show H.length ≤ (thawL vs (H ++ [.cells 0 xs.flatten])).2.length
        omega
    all_goals exact k

theorem thaw_list : ∀ {vs : List V} {G : Gh} {own : Nat → Option Place} {H : Heap} {cs : List Value} {bl : List Nat}, Ok w G own H → RepL w G vs cs bl → bl.Nodup → (∀ b ∈ bl, own b = some .arg) →
    ∃ G' own' bl', Ok w G' own' (thawL vs H).2 ∧ RepL w G' (thawL vs H).1 cs bl' ∧ bl'.Nodup ∧ (∀ b ∈ bl', own' b = some .arg) ∧ Ext w G own w G' own' ∧ G'.imm = G.imm ∧ (∀ b, b ∉ bl → own' b = own b) ∧ ∀ b ∈ bl', b ∈ bl
  | [], G, own, H, cs, bl, hok, hr, hn, ha => by
    obtain ⟨rfl, rfl⟩ := hr.nil_inv
    exact ⟨G, own, [], hok, .nil, hn, ha, Ext.refl .., rfl, fun _ _ => rfl, fun _ h => h⟩
  | v :: vs, G, own, H, cs, bl, hok, hr, hn, ha => by
    obtain ⟨c, cs, b1, b2, rfl, rfl, h1, h2⟩ := hr.cons_inv
    obtain ⟨n1, n2, n3⟩ := List.nodup_append.1 hn
    have plain : (thawL (v :: vs) H = (v :: (thawL vs H).1, (thawL vs H).2)) → ∃ G' own' bl', Ok w G' own' (thawL (v :: vs) H).2 ∧ RepL w G' (thawL (v :: vs) H).1 (c :: cs) bl' ∧ bl'.Nodup ∧ (∀ b ∈ bl', own' b = some .arg) ∧ Ext w G own w G' own' ∧ G'.imm = G.imm ∧ (∀ b, b ∉ b1 ++ b2 → own' b = own b) ∧ ∀ b ∈ bl', b ∈ b1 ++ b2 := by
      intro e
      obtain ⟨G', own', bl', k1, k2, k3, k4, k5, k6, k7, k8⟩ := thaw_list hok h2 n2 (fun b hb => ha b (List.mem_append_right _ hb))
      rw [e]
      have hd : ∀ b ∈ b1, b ∉ b2 := fun b hb hb' => n3 b hb b hb' rfl
      refine ⟨G', own', b1 ++ bl', k1, ?_, List.nodup_append.2 ⟨n1, k3, fun x hx y hy => n3 x hx y (k8 y hy)⟩, ?_, k5, k6, ?_, ?_⟩
      · refine RepL.cons (h1.mono k5.imm k5.loc fun b hb => ⟨rfl, fun o => by rw [k6]⟩) k2
      · intro b hb
        rcases List.mem_append.1 hb with hb | hb
        · rw [k7 b (hd b hb)]; exact ha b (List.mem_append_left _ hb)
        · exact k4 b hb
      · intro b hb; exact k7 b fun h => hb (List.mem_append_right _ h)
      · intro b hb
        rcases List.mem_append.1 hb with hb | hb
        · exact List.mem_append_left _ hb
        · exact List.mem_append_right _ (k8 b hb)
    cases v
    case fr sz xs =>
      obtain ⟨G1, own1, j1, j2, j3, j4, j5⟩ := thaw_one hok h1 (fun b hb => ha b (List.mem_append_left _ hb))
      have hd : ∀ b ∈ b2, b ∉ b1 := fun b hb hb' => n3 b hb' b hb rfl
      obtain ⟨G', own', bl', k1, k2, k3, k4, k5, k6, k7, k8⟩ := thaw_list j1 (h2.mono j3.imm j3.loc fun b hb => ⟨rfl, fun o => by rw [j4]⟩) n2
        (fun b hb => by rw [j5 b (hd b hb)]; exact ha b (List.mem_append_right _ hb))
      refine ⟨G', own', bl', k1, ?_, k3, k4, j3.trans k5, k6.trans j4, ?_, ?_⟩
      · have := RepL.cons (j2.mono k5.imm k5.loc fun b hb => by cases hb) k2
        exact this
      · intro b hb
        rw [k7 b fun h => hb (List.mem_append_right _ h)]
        exact j5 b fun h => hb (List.mem_append_left _ h)
      · intro b hb; exact List.mem_append_right _ (k8 b hb)
    all_goals exact plain rfl

theorem Post.pre {G1 : Gh} {own1 : Nat → Option Place} {v : V} {H' : Heap} {c : Value} {w' : World} (h : Ext w G own w G1 own1) (hp : Post w G1 own1 v H' c w') : Post w G own v H' c w' := by
  obtain ⟨G', own', bl, h1, h2, h3, h4, h5⟩ := hp
  exact ⟨G', own', bl, h1, h2, h3, h4, h.trans h5⟩

theorem thaw_post (hok : Ok w G own H) {sz : Nat} {xs : List (List V)} {c : Value} {bl : List Nat} (hr : RepL w G [.fr sz xs] [c] bl) (ha : ∀ b ∈ bl, own b = some .arg) :
    Post w G own (.hsl H.length 0 0 xs.length sz) (H ++ [.cells 0 xs.flatten]) c w := by
  obtain ⟨G', own', h1, h2, h3, _, _⟩ := thaw_one hok hr ha
  exact ⟨G', own', [], h1, h2, List.nodup_nil, (fun _ h => by cases h), h3⟩

theorem box_post (hok : Ok w G own H) {t : TypeId} {v : V} {c : Value} {bl : List Nat} (hr : RepL w G [v] [c] bl) (hn : bl.Nodup) (ha : ∀ b ∈ bl, own b = some .arg) (hs : solid v = true) :
    DoneV ((Instr.box t c).run P w) (Post w G own (.ptr (thawL v.cells H).2.length 0 0) ((thawL v.cells H).2 ++ [.cells 0 (thawL v.cells H).1])) := by
  obtain ⟨G', own', bl', k1, k2, k3, k4, k5, _, _, _⟩ := thaw_list hok (solid_cells hr hs) hn ha
  refine ⟨.pointer (some ⟨w.heap.size, 0, none⟩), { w with heap := w.heap.push (.cells c.cells t) }, ?_, Post.pre k5 (post_obj k1 (cs := c.cells.toList) (t := t) (by simp) rfl rfl rfl k2 k3 k4)⟩
  simp [Instr.box, newVar, newRow]

theorem alloc_post (hok : Ok w G own H) {t : TypeId} {zs : List V} {z : Value} {i : TypeInfo} (hi : P.info? t = some i) (hz : i.zero = some z) (hr : RepI G.imm zs z.cells.toList) (o : Value) :
    DoneV ((Instr.alloc t true o).run P w) (Post w G own (.ptr H.length 0 0) (H ++ [.cells 0 zs])) := by
  refine ⟨.pointer (some ⟨w.heap.size, 0, none⟩), { w with heap := w.heap.push (.cells z.cells t) }, ?_, post_obj hok (cs := z.cells.toList) (t := t) (by simp) rfl rfl rfl (RepI.toL hr) List.nodup_nil (fun _ h => by cases h)⟩
  simp [Instr.alloc, zeroValue, typeInfo, hi, hz, newVar, newRow]

theorem getCells_of {id ver : Nat} {cs : List V} (h : H[id]? = some (.cells ver cs)) : getCells H id ver = some cs := by simp [getCells, h]

theorem store_post (hok : Ok w G own H) {t : TypeId} {n : Nat} (hs : (P.info? t).map (·.size) = some n) {id ver off : Nat} {v : V} {ca cv : Value} {bl : List Nat} (hr : RepL w G [.ptr id ver off, v] [ca, cv] bl)
    (hn : bl.Nodup) (ha : ∀ b ∈ bl, own b = some .arg) (hsol : solid v = true) (hsc : v.cells.all scal0 = true) {cs : List V} (hc : getCells H id ver = some cs) (hvl : v.cells.length = n) (hoff : off + n ≤ cs.length) :
    ∃ w', (Instr.storeAt t ca cv).run P w = .ok () w' ∧ Post w G own (.tup []) ((thawL v.cells H).2.set id (.cells ver (put cs off (thawL v.cells H).1))) undef w' := by
  obtain ⟨b, ver', n', bb, cs', hcs, hl, hv, hb, hr2⟩ := hr.ptr_inv
  cases hcs
  have hsc2 := solid_cells hr2 hsol
  have hones := hsc2.ones hsc
  have hclen := hsc2.length
  have hid : id < H.length := by
    have := getCells_some hc
    rcases Nat.lt_or_ge id H.length with h | h
    · exact h
    · rw [List.getElem?_eq_none h] at this; cases this
  obtain ⟨G1, own1, bl1, k1, k2, k3, k4, k5, k6, k7, k8⟩ := thaw_list hok hsc2 hn ha
  have hkeep := thawL_keeps v.cells H id hid
  have hc1 : getCells (thawL v.cells H).2 id ver = some cs := getCells_of (by rw [hkeep.1]; exact getCells_some hc)
  obtain ⟨b', v', n'', e', le', q⟩ := k5.loc _ _ _ _ hl
  obtain ⟨hve0, _⟩ := obj_live hok hc hl hv
  obtain ⟨hve, c, e, blo, hn', h2, h3, h4, h5, h6, h7, h8⟩ := obj_live k1 hc1 e' (by omega)
  have hq := q (by omega)
  obtain ⟨rfl, rfl⟩ := hq
  subst hn'
  have hvv : ver = ver' := hve0
  subst hvv
  subst hve
  rw [hb rfl]
  have hcut : cut cs off n = some ((cs.drop off).take n) := by unfold cut; rw [if_pos hoff]
  obtain ⟨b1, b2, b3, hbl, r1, r2, r3, hl2, hcell⟩ := obj_part h6 h5 hcut
  have hcl : c.toList.length = c.size := Array.length_toList
  have htl : (thawL v.cells H).1.length = n := by rw [k2.length, ← hclen, hvl]
  have hput : (put cs off (thawL v.cells H).1).length = cs.length := by unfold put; simp [htl]; omega
  let c' := (c.toList.take off ++ cv.cells.toList ++ c.toList.drop (off + cv.cells.toList.length)).toArray
  have hcvn : cv.cells.toList.length = n := by rw [← hclen, hvl]
  have hsz' : c'.size = c.size := by simp only [c', List.size_toArray, List.length_append, List.length_take, List.length_drop, hcl, hcvn]; omega
  have hrun := run_storeCells_at P b' off e cv.cells.toList 0 c w h3 (by rw [hcvn]; omega) hones
  simp only [Nat.add_zero] at hrun
  have hrep : RepL w G1 (put cs off (thawL v.cells H).1) (c'.toList.take (put cs off (thawL v.cells H).1).length) (b1 ++ (bl1 ++ b3)) := by
    have hct : c'.toList.take (put cs off (thawL v.cells H).1).length = c.toList.take off ++ (cv.cells.toList ++ (c.toList.take cs.length).drop (off + n)) := by
      rw [hput]
      simp only [c', hcvn]
      rw [List.append_assoc, List.take_append, List.take_take, List.take_append]
      have e1 : (c.toList.take off).length = off := by rw [List.length_take, hcl]; omega
      rw [e1, hcvn, Nat.min_eq_right (by omega), List.take_of_length_le (by rw [hcvn]; omega : cv.cells.toList.length ≤ cs.length - off), List.drop_take]
      congr 3; omega
    rw [hct]
    unfold put
    rw [List.append_assoc]
    refine RepL.append (RepL.append ?_ k2) r1
    rw [htl]; exact r3
  have hnd := h7
  rw [hbl] at hnd h8
  have hnd1 := List.nodup_append.1 hnd
  have hnd2 := List.nodup_append.1 hnd1.2.1
  have hdis : ∀ x ∈ bl1, own1 x ≠ some (.cell id) := fun x hx => by rw [k4 x hx]; simp
  obtain ⟨own', hok', hext, _⟩ := k1.put (vs := cs) (c' := c') (blr := []) e' h2 h3 h4 hsz' (by rw [hput, hsz']; exact h5) hrep
    (by
      refine List.nodup_append.2 ⟨hnd1.1, List.nodup_append.2 ⟨k3, hnd2.2.1, ?_⟩, ?_⟩
      · intro x hx y hy e; subst e
        exact hdis x hx (h8 x (List.mem_append_right _ (List.mem_append_right _ hy)))
      · intro x hx y hy e; subst e
        rcases List.mem_append.1 hy with hy | hy
        · exact hdis x hy (h8 x (List.mem_append_left _ hx))
        · exact hnd1.2.2 x hx x (List.mem_append_right _ hy) rfl)
    (fun x hx => by
      rcases List.mem_append.1 hx with hx | hx
      · exact .inr (h8 x (List.mem_append_left _ hx))
      · rcases List.mem_append.1 hx with hx | hx
        · exact .inl (k4 x hx)
        · exact .inr (h8 x (List.mem_append_right _ (List.mem_append_right _ hx))))
    (fun _ h => by cases h) (fun _ h => by cases h)
  refine ⟨w.setRow b' c', ?_, G1, own', [], hok', ?_, List.nodup_nil, (fun _ h => by cases h), k5.trans hext⟩
  · have hsize : cv.cells.size = n := by rw [← hcvn]; rfl
    simp only [Instr.storeAt, Instr.sureAddr, storeVar, Sem.run_bind, Sem.run_pure, Result.andThen_ok, run_sizeOf hs, hsize, ne_eq, not_true_eq_false, if_false]
    exact hrun
  · exact RepL.tup (.nil) .nil
end
end Go.Proofs.Ytglemgdlkddjhaa.Vm
