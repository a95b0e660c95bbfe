/-
The value machine, part 5: append, and objects that are written.
-/
import Derived.Test.YtglemgdlkddjhaaVm4
import Derived.Deep.AppendSrc
namespace Go.Proofs.Ytglemgdlkddjhaa.Vm
open Go

theorem flat_len {sz : Nat} {xs : List (List V)} (hz : ∀ x ∈ xs, x.length = sz) : xs.flatten.length = xs.length * sz := by
  rw [List.length_flatten, List.map_congr_left (g := fun _ => sz) (by intro x hx; exact hz x hx), List.map_const', List.sum_replicate_nat]

theorem ImmAt.cells {w : World} {G : Gh} {own : Nat → Option Place} {H : Heap} (h : Ok w G own H) {a : Addr} {cs : List Value} (hi : ImmAt G.imm a cs) : ∀ j v, cs[j]? = some v → w.cell? (a.add j) = some v := by
  intro j v hv
  obtain ⟨hs, hc⟩ := hi
  have hs := hs (by intro e; rw [e] at hv; simp at hv)
  obtain ⟨c, t, z, h1, h2⟩ := h.imm _ _ _ (hc j v hv)
  have : a.add j = ⟨a.block, a.off + j, none⟩ := by
    unfold Addr.add; split
    · subst_vars; cases a; simp_all
    · rfl
  rw [this]
  simp only [World.cell?, h1]
  simpa using h2

theorem World.heap_lt {w : World} {b : Nat} {o : Go.Obj} (h : w.heap[b]? = some o) : b < w.heap.size := by
  rcases Nat.lt_or_ge b w.heap.size with h' | h'
  · exact h'
  · rw [Array.getElem?_eq_none h'] at h; cases h

/-- A block whose tail is owned by what was handed over is written behind all that never changes. -/
theorem Ok.wrote {w : World} {G : Gh} {own : Nat → Option Place} {H : Heap} (h : Ok w G own H) {b : Nat} {c c' : Array Value} {t : TypeId} {z : Nat × Nat} (hown : own b = some .arg)
    (hw : w.heap[b]? = some (.cells c t z)) (f : Nat → Option Value) (hf : ∀ i v, f i = some v → c'[i]? = some v) (hx : ∀ o v, G.imm b o = some v → f o = some v) :
    Ok (w.setRow b c') ⟨addImm G.imm b f, G.loc⟩ (Vm.toRes own) H ∧ Ext w G own (w.setRow b c') ⟨addImm G.imm b f, G.loc⟩ (Vm.toRes own) := by
  have hm : ∀ x o v, G.imm x o = some v → addImm G.imm b f x o = some v := by
    intro x o v hv
    by_cases hb : x = b
    · subst hb; rw [addImm_same]; exact hx o v hv
    · rw [addImm_ne _ _ _ hb]; exact hv
  refine ⟨⟨?_, ?_, h.len, ?_⟩, ?_⟩
  · intro x o v hv
    by_cases hb : x = b
    · subst hb
      simp only [addImm_same] at hv
      exact ⟨c', t, z, setRow_heap w x c c' t z hw, hf o v hv⟩
    · simp only [addImm_ne _ _ _ hb] at hv
      obtain ⟨c2, t2, z2, h1, h2⟩ := h.imm x o v hv
      exact ⟨c2, t2, z2, by rw [setRow_other w b x c' hb]; exact h1, h2⟩
  · intro x p hp
    rw [setRow_size]
    unfold Vm.toRes at hp; split at hp
    · rename_i e; exact h.size _ _ e
    · exact h.size _ _ hp
  · clear hx
    intro i ob hob
    refine ObjOk.mono (G := G) (G' := ⟨addImm G.imm b f, G.loc⟩) (h.obj i ob hob) hm (loc_refl G) rfl ?_
    intro x hx
    have hne : x ≠ b := by intro e; rw [e, hown] at hx; rcases hx with hx | hx <;> cases hx
    refine ⟨setRow_other w b x c' hne, fun o => addImm_ne _ _ _ hne, ?_⟩
    unfold Vm.toRes; rw [if_neg]; rcases hx with hx | hx <;> rw [hx] <;> simp
  · refine ⟨by rw [setRow_size]; exact Nat.le_refl _, hm, loc_refl G, fun x hx => ?_, rfl, rfl, rfl⟩
    have hne : x ≠ b := by intro e; rw [e, hown] at hx; cases hx
    exact ⟨setRow_other w b x c' hne, fun o => addImm_ne _ _ _ hne, toRes_frame hx⟩

section
variable {P : Program}

theorem run_append_room_at (w : World) (t tx ty e : TypeId) (i : TypeInfo) (ht : P.underlying t = some (.slice e)) (hi : P.info? e = some i) (b off sLen sCap : Nat) (cur : Array Value) (E : TypeId)
    (hg : w.heap[b]? = some (.cells cur E (0, 0))) (x : Value) (n : Nat) (news : List Value) (hs : Src P i.size tx x n news w) (hroom : sLen + n ≤ sCap) (hfit : off + sLen * i.size + news.length ≤ cur.size) :
    (Builtin.append_ #[t, tx] ty #[.slice (some ⟨b, off, none⟩) sLen sCap, x]).run P w =
      .ok (.slice (some ⟨b, off, none⟩) (sLen + n) sCap) (w.setRow b (cur.toList.take (off + sLen * i.size) ++ news ++ cur.toList.drop (off + sLen * i.size + news.length)).toArray) := by
  have hst := run_storeCells_at P b (off + sLen * i.size) E news 0 cur w hg (by simpa using hfit) hs.one
  simp only [Nat.add_zero] at hst
  rcases hs.kind with ⟨e', hk⟩ | hk <;> simp [Builtin.append_, run_underlying ht, run_underlying hk, sizeOf, typeInfo, hi, hs.len, hroom, hs.cells, Addr.add_lit, hst]

theorem firstCells_imm {w : World} {G : Gh} {own : Nat → Option Place} {H : Heap} (h : Ok w G own H) {a : Addr} {acs : List Value} (hi : ImmAt G.imm a acs) (size n cap : Nat) (hl : acs.length = n * size) :
    (Builtin.firstCells size n (.slice (some a) n cap)).run P w.drew = .ok acs.toArray w.drew :=
  run_firstCells_some w.drew size n a n cap acs hl (by simpa using hi.cells h)

/-- A list that is appended to. -/
theorem append_post {w : World} {G : Gh} {own : Nat → Option Place} {H : Heap} (h : Ok w G own H) {t tx ty e : TypeId} {i : TypeInfo} {z : Value}
    (ht : P.underlying t = some (.slice e)) (hi : P.info? e = some i) (hz : i.zero = some z) (hzs : z.cells.size = i.size)
    {xs ys : List (List V)} {cs cx : Value} {bl : List Nat} (hs : RepL w G [.sl true i.size xs] [cs] bl) (hn : bl.Nodup) (ha : ∀ b ∈ bl, own b = some .arg)
    {news : List Value} (hx : Src P i.size tx cx ys.length news w) (hy : RepI G.imm ys.flatten news) (hyz : ∀ y ∈ ys, y.length = i.size)
    (hb : (xs.length + ys.length) * i.bytes ≤ 140737488355328) (h63 : xs.length + ys.length ≤ 9223372036854775807) :
    ∃ c w', (Builtin.append_ #[t, tx] ty #[cs, cx]).run P w = .ok c w' ∧ Post w G own (.sl true i.size (xs ++ ys)) H c w' := by
  -- a new row
  have grow : ∀ (base : Option Addr) (cap : Nat) (acs : List Value), (Builtin.firstCells i.size xs.length (.slice base xs.length cap)).run P w.drew = .ok acs.toArray w.drew → RepI G.imm xs.flatten acs → (∀ x ∈ xs, x.length = i.size) →
      cap < xs.length + ys.length → ∃ c w', (Builtin.append_ #[t, tx] ty #[.slice base xs.length cap, cx]).run P w = .ok c w' ∧ Post w G own (.sl true i.size (xs ++ ys)) H c w' := by
    intro base cap acs hold hr hxz hcap
    have hrun := run_append_grow_src w t tx ty e i z ht hi hz base xs.length cap acs hold cx ys.length news hx hcap (by omega) (growslice_fits hcap hb)
    refine ⟨_, _, hrun, ?_⟩
    have hge := grownCap_ge w (xs.length + ys.length) cap e
    have hl : (acs ++ news).length = (xs.length + ys.length) * i.size := by
      rw [List.length_append, ← hr.length, ← hy.length, flat_len hxz, flat_len hyz, Nat.add_mul]
    have := post_list (w := w) (w' := w.drew.alloc (.cells ((acs ++ news).toArray ++ Builtin.zeroCells z.cells (grownCap w (xs.length + ys.length) cap e - (xs.length + ys.length))) e)) h
      (sz := i.size) (xs := xs ++ ys) (acs := acs ++ news) (rest := (Builtin.zeroCells z.cells (grownCap w (xs.length + ys.length) cap e - (xs.length + ys.length))).toList) (t := e) (cap := grownCap w (xs.length + ys.length) cap e)
      (by
        show w.heap.push _ = _
        congr 2
        apply Array.ext'; simp) rfl rfl rfl
      (List.forall_mem_append.2 ⟨hxz, hyz⟩)
      (by rw [List.flatten_append]; exact RepI.append hy hr)
      (by rw [List.length_append]; exact hge)
      (by
        have hzl : (Builtin.zeroCells z.cells (grownCap w (xs.length + ys.length) cap e - (xs.length + ys.length))).toList.length = (grownCap w (xs.length + ys.length) cap e - (xs.length + ys.length)) * i.size := by
          rw [← hzs]; exact (Array.length_toList (xs := Builtin.zeroCells z.cells _)).trans (size_zeroCells _ _)
        rw [List.length_append, hl, hzl, ← Nat.add_mul]
        exact Nat.mul_le_mul_right _ (by omega))
    rwa [List.length_append] at this
  cases hs with
  | imm _ c h1 _ => cases h1
  | slnone sz _ =>
    by_cases hy0 : ys.length = 0
    · have : ys = [] := List.eq_nil_of_length_eq_zero hy0
      subst this
      refine ⟨.slice none 0 0, w, ?_, ?_⟩
      · have hnew : news = [] := by simpa using hx.newsLen
        subst hnew
        have hl := hx.len
        have hc := hx.cells
        simp only [List.length_nil] at hl hc
        rcases hx.kind with ⟨e', hk⟩ | hk <;> simp [Builtin.append_, run_underlying ht, run_underlying hk, sizeOf, typeInfo, hi, hl, hc]
      · exact post_same h (.slnone _ .nil)
    · exact grow none 0 [] (by simpa using run_firstCells_none w.drew i.size 0 0 0) .nil (by simp) (by simp; omega)
  | full sz xs a hxz hia hr _ =>
    by_cases hy0 : ys.length = 0
    · have : ys = [] := List.eq_nil_of_length_eq_zero hy0
      subst this
      refine ⟨.slice (some a) xs.length xs.length, w, ?_, ?_⟩
      · have hnew : news = [] := by simpa using hx.newsLen
        subst hnew
        have hl := hx.len
        have hc := hx.cells
        simp only [List.length_nil] at hl hc
        rcases hx.kind with ⟨e', hk⟩ | hk <;> simp [Builtin.append_, run_underlying ht, run_underlying hk, sizeOf, typeInfo, hi, hl, hc, storeCells]
      · rw [List.append_nil]; exact post_same h (.full _ xs a hxz hia hr .nil)
    · have hl := hr.length.symm.trans (flat_len hxz)
      exact grow (some a) xs.length _ (firstCells_imm h hia i.size xs.length xs.length hl) hr hxz (by omega)
  | tail sz xs a cap hxz hia hr hc htl _ =>
    have hl := hr.length.symm.trans (flat_len hxz)
    by_cases hroom : xs.length + ys.length ≤ cap
    · obtain ⟨⟨hsp, cur, E, hw, hfit⟩, hfree⟩ := htl
      have hnl := hx.newsLen
      have hae : a = ⟨a.block, a.off, none⟩ := by cases a; simp_all
      have hfit' : a.off + xs.length * i.size + news.length ≤ cur.size := by
        have : (xs.length + ys.length) * i.size ≤ cap * i.size := Nat.mul_le_mul_right _ hroom
        rw [Nat.add_mul] at this; omega
      have hrun := run_append_room_at (P := P) w t tx ty e i ht hi a.block a.off xs.length cap cur E hw cx ys.length news hx hroom hfit'
      rw [← hae] at hrun
      refine ⟨_, _, hrun, ?_⟩
      let c' := (cur.toList.take (a.off + xs.length * i.size) ++ news ++ cur.toList.drop (a.off + xs.length * i.size + news.length)).toArray
      let f : Nat → Option Value := fun o => if a.off + xs.length * i.size ≤ o then (if o < a.off + xs.length * i.size + news.length then news[o - (a.off + xs.length * i.size)]? else none) else G.imm a.block o
      have hcl : cur.toList.length = cur.size := Array.length_toList
      have hget1 : ∀ o, o < a.off + xs.length * i.size → c'[o]? = cur[o]? := by
        intro o ho
        simp only [c', List.getElem?_toArray]
        rw [List.append_assoc, List.getElem?_append_left (by rw [List.length_take, hcl]; omega), List.getElem?_take, if_pos ho, Array.getElem?_toList]
      have hget2 : ∀ o, a.off + xs.length * i.size ≤ o → o < a.off + xs.length * i.size + news.length → c'[o]? = news[o - (a.off + xs.length * i.size)]? := by
        intro o ho ho'
        simp only [c', List.getElem?_toArray]
        rw [List.append_assoc, List.getElem?_append_right (by rw [List.length_take, hcl]; omega), List.length_take, hcl, Nat.min_eq_left (by omega), List.getElem?_append_left (by omega)]
      have him : ∀ o v, G.imm a.block o = some v → c'[o]? = some v ∧ o < a.off + xs.length * i.size := by
        intro o v hv
        have : o < a.off + xs.length * i.size := by
          rcases Nat.lt_or_ge o (a.off + xs.length * i.size) with h' | h'
          · exact h'
          · rw [hfree o h'] at hv; cases hv
        obtain ⟨c2, t2, z2, h1, h2⟩ := h.imm _ _ _ hv
        rw [hw] at h1; cases h1
        exact ⟨by rw [hget1 o this]; exact h2, this⟩
      obtain ⟨hok, hext⟩ := h.wrote (c' := c') (ha a.block (by simp)) hw f (by
        intro o v hv
        simp only [f] at hv
        split at hv
        · rename_i h1
          split at hv
          · rename_i h2; rw [hget2 o h1 h2]; exact hv
          · cases hv
        · exact (him o v hv).1) (by
        intro o v hv
        simp only [f]
        rw [if_neg (by have := (him o v hv).2; omega)]; exact hv)
      have hm : ∀ b o v, G.imm b o = some v → addImm G.imm a.block f b o = some v := hext.imm
      refine ⟨_, _, [a.block], hok, ?_, by simp, ?_, hext⟩
      · rw [← List.length_append]
        refine .tail (acs := _ ++ news) i.size (xs ++ ys) a cap (List.forall_mem_append.2 ⟨hxz, hyz⟩) ⟨fun _ => hsp, ?_⟩ (by rw [List.flatten_append]; exact RepI.append (hy.mono hm) (hr.mono hm)) (by rw [List.length_append]; exact hroom) ⟨⟨hsp, c', E, setRow_heap w a.block cur c' E (0, 0) hw, ?_⟩, ?_⟩ .nil
        · intro j v hv
          rcases Nat.lt_or_ge j (xs.length * i.size) with hj | hj
          · rw [List.getElem?_append_left (by omega)] at hv
            exact hm _ _ _ (hia.2 j v hv)
          · rw [List.getElem?_append_right (by omega), hl] at hv
            have hjn : j - xs.length * i.size < news.length := by
              rcases Nat.lt_or_ge (j - xs.length * i.size) news.length with h' | h'
              · exact h'
              · rw [List.getElem?_eq_none h'] at hv; cases hv
            simp only [addImm_same, f]
            rw [if_pos (by omega), if_pos (by omega)]
            rw [show a.off + j - (a.off + xs.length * i.size) = j - xs.length * i.size by omega]; exact hv
        · have : c'.size = cur.size := by simp [c']; omega
          omega
        · intro o ho
          rw [List.length_append, Nat.add_mul] at ho
          simp only [addImm_same, f]
          rw [if_pos (by omega), if_neg (by omega)]
      · intro b hb'
        rw [List.mem_singleton.1 hb']
        unfold Vm.toRes; rw [if_pos (ha a.block (by simp))]
    · exact grow (some a) cap _ (firstCells_imm h hia i.size xs.length cap hl) hr hxz (by omega)
end
end Go.Proofs.Ytglemgdlkddjhaa.Vm
