/-
The value machine, part 13: append, of lists and of objects.
-/
import Derived.Test.YtglemgdlkddjhaaVm12
namespace Go.Proofs.Ytglemgdlkddjhaa.Vm
open Go

section
variable {P : Program} {w : World} {G : Gh} {own : Nat → Option Place} {H : Heap}

/-- What a list yields to an append. -/
theorem sl_src (hok : Ok w G own H) {tx e' : TypeId} (hk : P.underlying tx = some (.slice e')) {o : Bool} {sz : Nat} {ys : List (List V)} {c : Value} {bl : List Nat} (hr : RepL w G [.sl o sz ys] [c] bl) :
    ∃ news, Src P sz tx c ys.length news w ∧ RepI G.imm ys.flatten news ∧ ∀ y ∈ ys, y.length = sz := by
  obtain ⟨c', cs', b1, b2, hcs, _, _, _, hcase⟩ := hr.sl_inv
  cases hcs
  rcases hcase with ⟨rfl, rfl⟩ | ⟨a, cap, acs, rfl, hcap, hia, hri, hz⟩
  · exact ⟨[], Src.ofNil w hk 0, .nil, by simp⟩
  · exact ⟨acs, Src.ofSlice w hk a _ cap acs (by rw [← hri.length, flat_len hz]) (hia.cells hok) hri.one, hri, hz⟩

theorem append_sl_post (hok : Ok w G own H) {t tx ty e e' : TypeId} {i : TypeInfo} {z : Value} (ht : P.underlying t = some (.slice e)) (hk : P.underlying tx = some (.slice e')) (hi : P.info? e = some i) (hz : i.zero = some z) (hzs : z.cells.size = i.size)
    {xs ys : List (List V)} {o : Bool} {cs cx : Value} {bl : List Nat} (hr : RepL w G [.sl true i.size xs, .sl o i.size ys] [cs, cx] bl) (hn : bl.Nodup) (ha : ∀ b ∈ bl, own b = some .arg)
    (hb : (xs.length + ys.length) * i.bytes ≤ 140737488355328) (h63 : xs.length + ys.length ≤ 9223372036854775807) :
    DoneV ((Builtin.append_ #[t, tx] ty #[cs, cx]).run P w) (Post w G own (.sl true i.size (xs ++ ys)) H) := by
  obtain ⟨c, cs', b1, b2, hcs, rfl, h1, h2⟩ := hr.cons_inv
  cases hcs
  obtain ⟨news, hs, hri, hyz⟩ := sl_src hok hk h2
  exact append_post hok ht hi hz hzs h1 (List.nodup_append.1 hn).1 (fun b hb => ha b (List.mem_append_left _ hb)) hs hri hyz hb h63

theorem bytes_rep {imm : Nat → Nat → Option Value} : ∀ (l : List UInt8), RepI imm (l.map fun b => [V.int .u8 b.toNat]).flatten (l.map fun b => Value.int .u8 b.toNat)
  | [] => .nil
  | b :: l => by simp only [List.map_cons, List.flatten_cons]; exact .int _ _ (bytes_rep l)

theorem append_str_post (hok : Ok w G own H) {t tx ty e : TypeId} {i : TypeInfo} {z : Value} (ht : P.underlying t = some (.slice e)) (hk : P.underlying tx = some .string) (hi : P.info? e = some i) (hz : i.zero = some z) (hzs : z.cells.size = i.size) (h1 : i.size = 1)
    {xs : List (List V)} {s : List UInt8} {cs cx : Value} {bl : List Nat} (hr : RepL w G [.sl true 1 xs, .str s] [cs, cx] bl) (hn : bl.Nodup) (ha : ∀ b ∈ bl, own b = some .arg)
    (hb : (xs.length + s.length) * i.bytes ≤ 140737488355328) (h63 : xs.length + s.length ≤ 9223372036854775807) :
    DoneV ((Builtin.append_ #[t, tx] ty #[cs, cx]).run P w) (Post w G own (.sl true 1 (xs ++ s.map fun b => [.int .u8 b.toNat])) H) := by
  obtain ⟨c, cs', b1, b2, hcs, rfl, hr1, h2⟩ := hr.cons_inv
  cases hcs
  obtain ⟨b, cs', rfl, hcs, _⟩ := h2.str_inv
  cases hcs
  have hs : Src P i.size tx (.string b) (b.data.toList.map fun b => [V.int .u8 b.toNat]).length (byteCells b) w := by
    have := Src.ofString (P := P) w hk b
    rw [h1, List.length_map]
    have hl : b.data.toList.length = b.size := by rw [Array.length_toList]; rfl
    rw [hl]; exact this
  have := append_post hok ht hi hz hzs (xs := xs) (ys := b.data.toList.map fun b => [V.int .u8 b.toNat]) (tx := tx) (ty := ty) (by rw [h1]; exact hr1) (List.nodup_append.1 hn).1 (fun b hb => ha b (List.mem_append_left _ hb)) hs (bytes_rep _)
    (by intro y hy; rw [h1]; obtain ⟨_, _, rfl⟩ := List.mem_map.1 hy; rfl) (by rw [List.length_map]; exact hb) (by rw [List.length_map]; exact h63)
  rw [h1] at this; exact this

theorem chunks_flat (sz : Nat) : ∀ (n : Nat) (cs : List V), cs.length = n * sz → (chunks sz n cs).flatten = cs ∧ (∀ x ∈ chunks sz n cs, x.length = sz) ∧ (chunks sz n cs).length = n
  | 0, cs, h => by
    have : cs = [] := List.eq_nil_of_length_eq_zero (by simpa using h)
    subst this; simp [chunks]
  | n + 1, cs, h => by
    rw [Nat.add_mul] at h
    obtain ⟨a, b, c⟩ := chunks_flat sz n (cs.drop sz) (by simp; omega)
    simp only [chunks, List.flatten_cons, a, List.take_append_drop, List.length_cons, c, true_and, and_true]
    intro x hx
    rcases List.mem_cons.1 hx with rfl | hx
    · simp; omega
    · exact b x hx

theorem append_hslsrc_post (hok : Ok w G own H) {t tx ty e e' : TypeId} {i : TypeInfo} {z : Value} (ht : P.underlying t = some (.slice e)) (hk : P.underlying tx = some (.slice e')) (hi : P.info? e = some i) (hz : i.zero = some z) (hzs : z.cells.size = i.size)
    {xs : List (List V)} {id ver off len : Nat} {cs cx : Value} {bl : List Nat} (hr : RepL w G [.sl true i.size xs, .hsl id ver off len i.size] [cs, cx] bl) (hn : bl.Nodup) (ha : ∀ b ∈ bl, own b = some .arg)
    (hb : (xs.length + len) * i.bytes ≤ 140737488355328) (h63 : xs.length + len ≤ 9223372036854775807) {obj l l' : List V} (hc : getCells H id ver = some obj) (hcut : cut obj off (len * i.size) = some l) (hl : inl l = some l') :
    DoneV ((Builtin.append_ #[t, tx] ty #[cs, cx]).run P w) (Post w G own (.sl true i.size (xs ++ chunks i.size len l')) H) := by
  obtain ⟨c, cs', b1, b2, hcs, rfl, h1, h2⟩ := hr.cons_inv
  cases hcs
  obtain ⟨b, ver', n, bb, cap, cs', hcs, hloc, hv, hcap, hbb, _⟩ := h2.hsl_inv
  cases hcs
  obtain ⟨hve, c, E, blo, hn', k2, k3, k4, k5, k6, k7, k8⟩ := obj_live hok hc hloc hv
  obtain ⟨q1, q2⟩ := hbb hve
  obtain ⟨a1, a2, a3, _, _, r2, _, hl2, hcell⟩ := obj_part k6 k5 hcut
  have hri := r2.inl hl
  have hlen : l'.length = len * i.size := by rw [hri.length, hl2]
  obtain ⟨f1, f2, f3⟩ := chunks_flat i.size len l' hlen
  subst q1
  have hs : Src P i.size tx (.slice (some ⟨bb, off, none⟩) len cap) (chunks i.size len l').length ((c.toList.drop off).take (len * i.size)) w := by
    rw [f3]
    exact Src.ofSlice w hk ⟨bb, off, none⟩ len cap _ hl2 (cell_of_heap k3 hcell) hri.one
  exact append_post hok ht hi hz hzs h1 (List.nodup_append.1 hn).1 (fun b hb => ha b (List.mem_append_left _ hb)) hs (by rw [f1]; exact hri) f2 (by rw [f3]; exact hb) (by rw [f3]; exact h63)

/-! ### Objects that grow -/

theorem Ok.grow {w' : World} (h : Ok w G own H) {id ver b n b' : Nat} {vs' : List V} {c' : Array Value} {e : TypeId} {bl' : List Nat} (hloc : G.loc[id]? = some (b, ver, n)) (hown : own b = some (.obj id))
    (hb' : b' = b ∨ own b' = none) (hheap : ∀ x, x ≠ b' → x < w.heap.size → w'.heap[x]? = w.heap[x]?) (hsize : w.heap.size ≤ w'.heap.size) (hw' : w'.heap[b']? = some (.cells c' e (0, 0)))
    (hn0 : ∀ o, G.imm b' o = none) (hle : vs'.length ≤ c'.size) (hr : RepL w G vs' (c'.toList.take vs'.length) bl') (hn : bl'.Nodup) (ho : ∀ x ∈ bl', own x = some (.cell id))
    (ht : w'.tape = w.tape) (hos : w'.os = w.os) (hout : w'.output = w.output) :
    ∃ own', Ok w' ⟨G.imm, G.loc.set id (b', ver + 1, c'.size)⟩ own' (H.set id (.cells (ver + 1) vs')) ∧ Ext w G own w' ⟨G.imm, G.loc.set id (b', ver + 1, c'.size)⟩ own' := by
  have hlt : id < G.loc.length := by
    rcases Nat.lt_or_ge id G.loc.length with h' | h'
    · exact h'
    · rw [List.getElem?_eq_none h'] at hloc; cases hloc
  have hL : ∀ (i b2 v n2 : Nat), G.loc[i]? = some (b2, v, n2) → ∃ b3 v' n' : Nat, (G.loc.set id (b', ver + 1, c'.size))[i]? = some (b3, v', n') ∧ v ≤ v' ∧ (v = v' → b3 = b2 ∧ n' = n2) := by
    intro i b2 v n2 e
    by_cases hi : i = id
    · subst hi
      rw [hloc] at e; cases e
      refine ⟨b', ver + 1, c'.size, ?_, by omega, by omega⟩
      rw [List.getElem?_set_self hlt]
    · exact ⟨b2, v, n2, by rw [List.getElem?_set_ne (by omega)]; exact e, Nat.le_refl _, fun _ => ⟨rfl, rfl⟩⟩
  let own' : Nat → Option Place := fun x => if x = b' then some (.obj id) else if x ∈ bl' then some (.cell id) else if own x = some (.cell id) ∨ own x = some (.obj id) then none else own x
  have hbl : ∀ x ∈ bl', x ≠ b' := by
    intro x hx e; subst e
    have := ho x hx
    rcases hb' with rfl | hb'
    · rw [hown] at this; cases this
    · rw [hb'] at this; cases this
  have hkeep : ∀ x p, own x = some p → p ≠ .cell id → p ≠ .obj id → own' x = own x ∧ x ≠ b' := by
    intro x p hx h1 h2
    have hne : x ≠ b' := by
      rintro rfl
      rcases hb' with rfl | hb'
      · rw [hown] at hx; cases hx; exact h2 rfl
      · rw [hb'] at hx; cases hx
    refine ⟨?_, hne⟩
    simp only [own']
    rw [if_neg hne, if_neg (fun hm => by rw [ho x hm] at hx; cases hx; exact h1 rfl), if_neg (fun hm => by rcases hm with hm | hm <;> rw [hm] at hx <;> cases hx <;> contradiction)]
  have himm : ∀ x o v, G.imm x o = some v → x ≠ b' := by intro x o v hv e; rw [e, hn0 o] at hv; cases hv
  refine ⟨own', ?_, ?_⟩
  · refine Ok.replace (G := G) (G' := ⟨G.imm, G.loc.set id (b', ver + 1, c'.size)⟩) h (fun _ _ _ h => h) ?_ ?_ hL (by simp) ?_ ?_ ?_
    · intro x o v hv
      obtain ⟨c2, e2, f2, h1, h2⟩ := h.imm x o v hv
      exact ⟨c2, e2, f2, by rw [hheap x (himm x o v hv) (World.heap_lt h1)]; exact h1, h2⟩
    · intro x p hp
      simp only [own'] at hp
      split at hp
      · rename_i hx; rw [hx]; exact World.heap_lt hw'
      · split at hp
        · rename_i hx; exact Nat.lt_of_lt_of_le (h.size _ _ (ho x hx)) hsize
        · split at hp
          · cases hp
          · exact Nat.lt_of_lt_of_le (h.size _ _ hp) hsize
    · intro j hj; exact List.getElem?_set_ne (by omega)
    · intro j x hj hx
      have hp : ∃ p, own x = some p ∧ p ≠ .cell id ∧ p ≠ .obj id := by
        rcases hx with hx | hx <;> exact ⟨_, hx, by simp; try omega, by simp; try omega⟩
      obtain ⟨p, hp, h1, h2⟩ := hp
      obtain ⟨k1, k2⟩ := hkeep x p hp h1 h2
      exact ⟨hheap x k2 (h.size _ _ hp), fun _ => rfl, k1⟩
    · refine ⟨b', c', e, bl', by simp [List.getElem?_set_self hlt], by simp [own'], hw', hn0, hle, ?_, hn, fun x hx => ?_⟩
      · exact RepL.mono (G := G) (G' := ⟨G.imm, G.loc.set id (b', ver + 1, c'.size)⟩) (fun _ _ _ h => h) hL hr fun x hx => ⟨hheap x (hbl x hx) (h.size _ _ (ho x hx)), fun _ => rfl⟩
      · simp only [own']; rw [if_neg (hbl x hx), if_pos hx]
  · refine ⟨hsize, fun _ _ _ h => h, hL, fun x hx => ?_, ht, hos, hout⟩
    obtain ⟨k1, k2⟩ := hkeep x .frame hx (by simp) (by simp)
    exact ⟨hheap x k2 (h.size _ _ hx), fun _ => rfl, by rw [k1]; exact hx⟩

theorem appendH_post (hok : Ok w G own H) {t tx ty e e' : TypeId} {i : TypeInfo} {z : Value} (ht : P.underlying t = some (.slice e)) (hk : P.underlying tx = some (.slice e')) (hi : P.info? e = some i) (hz : i.zero = some z) (hzs : z.cells.size = i.size)
    {id ver len : Nat} {o : Bool} {ys : List (List V)} {cs cx : Value} {bl : List Nat} (hr : RepL w G [.hsl id ver 0 len i.size, .sl o i.size ys] [cs, cx] bl)
    (hb : (len + ys.length) * i.bytes ≤ 140737488355328) (h63 : len + ys.length ≤ 9223372036854775807) {obj l : List V} (hc : getCells H id ver = some obj) (hcut : cut obj 0 (len * i.size) = some l) :
    DoneV ((Builtin.append_ #[t, tx] ty #[cs, cx]).run P w) (Post w G own (.hsl id (ver + 1) 0 (len + ys.length) i.size) (H.set id (.cells (ver + 1) (l ++ ys.flatten)))) := by
  obtain ⟨c0, cs', b1, b2, hcs, rfl, h1, h2⟩ := hr.cons_inv
  cases hcs
  obtain ⟨b, ver', n, bb, cap, cs', hcs, hloc, hv, hcap, hbb, _⟩ := h1.hsl_inv
  cases hcs
  obtain ⟨news, hs, hri, hyz⟩ := sl_src hok hk h2
  obtain ⟨hve, c, E, blo, hn', k2, k3, k4, k5, k6, k7, k8⟩ := obj_live hok hc hloc hv
  subst hve
  obtain ⟨q1, q2⟩ := hbb rfl
  subst q1
  subst hn'
  obtain ⟨a1, a2, a3, hbl, _, r2, _, hl2, hcell⟩ := obj_part k6 k5 hcut
  simp only [List.drop_zero] at r2 hl2 hcell
  have hnl := hs.newsLen
  have hcl : c.toList.length = c.size := Array.length_toList
  have hll : l.length = len * i.size := by rw [r2.length, hl2]
  have hyl : ys.flatten.length = news.length := hri.length
  have hnd : a2.Nodup := by
    rw [hbl] at k7
    exact (List.nodup_append.1 (List.nodup_append.1 k7).2.1).1
  have hoa : ∀ x ∈ a2, own x = some (.cell id) := fun x hx => k8 x (by rw [hbl]; exact List.mem_append_right _ (List.mem_append_left _ hx))
  have hrep : RepL w G (l ++ ys.flatten) (c.toList.take (len * i.size) ++ news) a2 := by
    have := RepL.append (RepI.toL (w := w) hri) r2
    rwa [List.append_nil] at this
  by_cases hroom : len + ys.length ≤ cap
  · have hfit : 0 + len * i.size + news.length ≤ c.size := by
      have : (len + ys.length) * i.size ≤ cap * i.size := Nat.mul_le_mul_right _ hroom
      rw [Nat.add_mul] at this; omega
    have hrun := run_append_room_at (P := P) w t tx ty e i ht hi bb 0 len cap c E k3 cx ys.length news hs hroom hfit
    simp only [Nat.zero_add] at hrun hfit
    let c' := (c.toList.take (len * i.size) ++ news ++ c.toList.drop (len * i.size + news.length)).toArray
    have hsz : c'.size = c.size := by simp only [c', List.size_toArray, List.length_append, List.length_take, List.length_drop, hcl]; omega
    have htk : c'.toList.take (l ++ ys.flatten).length = c.toList.take (len * i.size) ++ news := by
      have : (l ++ ys.flatten).length = (c.toList.take (len * i.size) ++ news).length := by simp only [List.length_append, hll, hyl, hl2]
      rw [this]
      simp only [c']
      rw [List.take_left]
    obtain ⟨own', g1, g2⟩ := hok.grow (w' := w.setRow bb c') (b' := bb) (c' := c') (vs' := l ++ ys.flatten) (e := E) hloc k2 (.inl rfl) (fun x hx _ => setRow_other w bb x c' hx) (by rw [setRow_size]; exact Nat.le_refl _)
      (setRow_heap w bb c c' E (0, 0) k3) k4 (by rw [hsz, List.length_append, hll, hyl]; omega) (by rw [htk]; exact hrep) hnd hoa rfl rfl rfl
    refine ⟨_, _, hrun, _, own', [], g1, ?_, List.nodup_nil, (fun _ h => by cases h), g2⟩
    have hlt : id < G.loc.length := by rw [← hok.len]; have := getCells_some hc; exact (List.getElem?_eq_some_iff.1 this).1
    exact .hsl id (ver + 1) 0 (len + ys.length) i.size bb (ver + 1) c'.size bb cap (by simp [List.getElem?_set_self hlt]) (Nat.le_refl _) hroom (fun _ => ⟨rfl, by rw [hsz]; omega⟩) .nil
  · have hold : (Builtin.firstCells i.size len (.slice (some ⟨bb, 0, none⟩) len cap)).run P w.drew = .ok (c.toList.take (len * i.size)).toArray w.drew :=
      run_firstCells_some w.drew i.size len ⟨bb, 0, none⟩ len cap _ hl2 (cell_of_heap (w := w.drew) (show w.heap[bb]? = _ from k3) hcell)
    have hrun := run_append_grow_src w t tx ty e i z ht hi hz (some ⟨bb, 0, none⟩) len cap _ hold cx ys.length news hs (by omega) (by omega) (growslice_fits (by omega) hb)
    have hge := grownCap_ge w (len + ys.length) cap e
    let c' := (c.toList.take (len * i.size) ++ news).toArray ++ Builtin.zeroCells z.cells (grownCap w (len + ys.length) cap e - (len + ys.length))
    have hc'l : c'.toList = (c.toList.take (len * i.size) ++ news) ++ (Builtin.zeroCells z.cells (grownCap w (len + ys.length) cap e - (len + ys.length))).toList := by simp [c']
    have hsz : c'.size = grownCap w (len + ys.length) cap e * i.size := by
      simp only [c', Array.size_append, List.size_toArray, List.length_append, hl2, hnl, size_zeroCells, hzs, ← Nat.add_mul]
      congr 1; omega
    have htk : c'.toList.take (l ++ ys.flatten).length = c.toList.take (len * i.size) ++ news := by
      have : (l ++ ys.flatten).length = (c.toList.take (len * i.size) ++ news).length := by simp only [List.length_append, hll, hyl, hl2]
      rw [this, hc'l, List.take_left]
    have hnew : (w.drew.alloc (.cells c' e)).heap = w.heap.push (.cells c' e) := rfl
    obtain ⟨own', g1, g2⟩ := hok.grow (w' := w.drew.alloc (.cells c' e)) (b' := w.heap.size) (c' := c') (vs' := l ++ ys.flatten) (e := e) hloc k2 (.inr hok.freshOwn) (fun x _ hx => heap_push hnew hx) (by rw [hnew, Array.size_push]; omega)
      (heap_new hnew) hok.fresh (by
        rw [hsz, List.length_append, hll, hyl, hnl, ← Nat.add_mul]
        exact Nat.mul_le_mul_right _ hge) (by rw [htk]; exact hrep) hnd hoa rfl rfl rfl
    refine ⟨_, _, hrun, _, own', [], g1, ?_, List.nodup_nil, (fun _ h => by cases h), g2⟩
    have hlt : id < G.loc.length := by rw [← hok.len]; have := getCells_some hc; exact (List.getElem?_eq_some_iff.1 this).1
    exact .hsl id (ver + 1) 0 (len + ys.length) i.size w.heap.size (ver + 1) c'.size w.heap.size _ (by simp [List.getElem?_set_self hlt]) (Nat.le_refl _) hge (fun _ => ⟨rfl, by rw [hsz]; omega⟩) .nil

/-- The first append to an object that is not there yet: a fresh list. -/
theorem appendN_post (hok : Ok w G own H) {t tx ty e e' : TypeId} {i : TypeInfo} {z : Value} (ht : P.underlying t = some (.slice e)) (hk : P.underlying tx = some (.slice e')) (hi : P.info? e = some i) (hz : i.zero = some z) (hzs : z.cells.size = i.size)
    {o : Bool} {ys : List (List V)} {cs cx : Value} {bl : List Nat} (hr : RepL w G [.nilh i.size, .sl o i.size ys] [cs, cx] bl) (hp : 0 < ys.length)
    (hb : ys.length * i.bytes ≤ 140737488355328) (h63 : ys.length ≤ 9223372036854775807) :
    DoneV ((Builtin.append_ #[t, tx] ty #[cs, cx]).run P w) (Post w G own (.fr i.size ys) H) := by
  obtain ⟨c0, cs', b1, b2, hcs, rfl, h1, h2⟩ := hr.cons_inv
  cases hcs
  obtain ⟨news, hs, hri, hyz⟩ := sl_src hok hk h2
  cases h1 with
  | imm _ _ h _ => cases h
  | nilh _ _ =>
  have hold : (Builtin.firstCells i.size 0 (.slice none 0 0)).run P w.drew = .ok ([] : List Value).toArray w.drew := by simpa using run_firstCells_none w.drew i.size 0 0 0
  have hrun := run_append_grow_src w t tx ty e i z ht hi hz none 0 0 [] hold cx ys.length news hs (by omega) (by omega) (growslice_fits (by omega) (by rw [Nat.zero_add]; exact hb))
  simp only [Nat.zero_add, List.nil_append] at hrun
  have hge := grownCap_ge w ys.length 0 e
  let c' := news.toArray ++ Builtin.zeroCells z.cells (grownCap w ys.length 0 e - ys.length)
  have hc'l : c'.toList = news ++ (Builtin.zeroCells z.cells (grownCap w ys.length 0 e - ys.length)).toList := by simp [c']
  have hsz : c'.size = grownCap w ys.length 0 e * i.size := by
    simp only [c', Array.size_append, List.size_toArray, hs.newsLen, size_zeroCells, hzs, ← Nat.add_mul]
    congr 1; omega
  have hnew : (w.drew.alloc (.cells c' e)).heap = w.heap.push (.cells c' e) := rfl
  refine ⟨_, _, hrun, _, _, [w.heap.size], hok.pushed (w' := w.drew.alloc (.cells c' e)) hnew (fun _ => none) (fun _ _ h => by cases h) (some .res), ?_, by simp, fun b hb => ?_, ?_⟩
  · have himm : addImm G.imm w.heap.size (fun _ => none) = G.imm := by
      funext b o
      by_cases hb : b = w.heap.size
      · subst hb; rw [addImm_same, hok.fresh]
      · rw [addImm_ne _ _ _ hb]
    rw [himm]
    exact RepL.fr (w := w.drew.alloc (.cells c' e)) (G := ⟨G.imm, G.loc⟩) (vs := []) (cs := []) (bl := []) i.size ys w.heap.size (grownCap w ys.length 0 e) c' e hyz (heap_new hnew) (fun o => hok.fresh o) ⟨_, hc'l⟩ hri hge (by rw [hsz]; exact Nat.le_refl _) .nil
  · rw [List.mem_singleton.1 hb, setO_same]
  · have := Ext.pushed hok (w' := w.drew.alloc (.cells c' e)) hnew rfl rfl rfl (fun _ => none) (some .res) []
    rwa [List.append_nil] at this
end
end Go.Proofs.Ytglemgdlkddjhaa.Vm
