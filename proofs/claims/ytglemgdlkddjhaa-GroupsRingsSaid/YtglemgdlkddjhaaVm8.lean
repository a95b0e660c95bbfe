/-
The value machine, part 8: operations on memory.
-/
import Derived.Test.YtglemgdlkddjhaaVm7
namespace Go.Proofs.Ytglemgdlkddjhaa.Vm
open Go

section
variable {P : Program} {w : World} {G : Gh} {own : Nat → Option Place} {H : Heap}

theorem add_none (b off n : Nat) : (⟨b, off, none⟩ : Addr).add n = ⟨b, off + n, none⟩ := by unfold Addr.add; split <;> simp_all
theorem add_off (a : Addr) (n : Nat) : (a.add n).off = a.off + n ∧ (a.add n).block = a.block := by
  unfold Addr.add; split
  · subst_vars; exact ⟨rfl, rfl⟩
  · exact ⟨rfl, rfl⟩
theorem ImmAt.drop {imm : Nat → Nat → Option Value} {a : Addr} {cs : List Value} (h : ImmAt imm a cs) (n : Nat) : ImmAt imm (a.add n) (cs.drop n) := by
  refine ⟨fun hne => ?_, fun i v hv => ?_⟩
  · have := h.1 (by intro e; rw [e] at hne; simp at hne)
    unfold Addr.add; split
    · exact this
    · rfl
  · rw [List.getElem?_drop] at hv
    have := h.2 _ v hv
    rw [(add_off a n).1, (add_off a n).2]
    rw [← Nat.add_assoc] at this; exact this
theorem ImmAt.take {imm : Nat → Nat → Option Value} {a : Addr} {cs : List Value} (h : ImmAt imm a cs) (n : Nat) : ImmAt imm a (cs.take n) := by
  refine ⟨fun hne => h.1 (by intro e; rw [e] at hne; simp at hne), fun i v hv => ?_⟩
  rw [List.getElem?_take] at hv
  split at hv
  · exact h.2 i v hv
  · cases hv

theorem RepL.ptr_inv {id ver off : Nat} {vs : List V} {cs : List Value} {bl : List Nat} (h : RepL w G (.ptr id ver off :: vs) cs bl) :
    ∃ b ver' n bb cs', cs = .pointer (some ⟨bb, off, none⟩) :: cs' ∧ G.loc[id]? = some (b, ver', n) ∧ ver ≤ ver' ∧ (ver = ver' → bb = b) ∧ RepL w G vs cs' bl := by
  cases h with
  | imm _ c h1 h => cases h1
  | ptr id ver off b ver' n bb hl hv hb h => exact ⟨b, ver', n, bb, _, rfl, hl, hv, hb, h⟩
theorem RepL.hsl_inv {id ver off len sz : Nat} {vs : List V} {cs : List Value} {bl : List Nat} (h : RepL w G (.hsl id ver off len sz :: vs) cs bl) :
    ∃ b ver' n bb cap cs', cs = .slice (some ⟨bb, off, none⟩) len cap :: cs' ∧ G.loc[id]? = some (b, ver', n) ∧ ver ≤ ver' ∧ len ≤ cap ∧ (ver = ver' → bb = b ∧ off + cap * sz ≤ n) ∧ RepL w G vs cs' bl := by
  cases h with
  | imm _ c h1 h => cases h1
  | hsl id ver off len sz b ver' n bb cap hl hv hc hb h => exact ⟨b, ver', n, bb, cap, _, rfl, hl, hv, hc, hb, h⟩
theorem RepL.cptr_inv {ws : List V} {vs : List V} {cs : List Value} {bl : List Nat} (h : RepL w G (.cptr ws :: vs) cs bl) :
    ∃ a acs cs', cs = .pointer (some a) :: cs' ∧ ImmAt G.imm a acs ∧ RepI G.imm ws acs ∧ RepL w G vs cs' bl := by
  cases h with
  | imm _ c h1 h => cases h1 with | cptr a ha hr _ => exact ⟨a, _, _, rfl, ha, hr, h⟩

/-- A list, owned or not. -/
theorem RepL.sl_inv {own : Bool} {sz : Nat} {xs : List (List V)} {vs : List V} {cs : List Value} {bl : List Nat} (h : RepL w G (.sl own sz xs :: vs) cs bl) :
    ∃ c cs' b1 b2, cs = c :: cs' ∧ bl = b1 ++ b2 ∧ RepL w G vs cs' b2 ∧ RepL w G [.sl own sz xs] [c] b1 ∧
      ((c = .slice none 0 0 ∧ xs = []) ∨ ∃ a cap acs, c = .slice (some a) xs.length cap ∧ xs.length ≤ cap ∧ ImmAt G.imm a acs ∧ RepI G.imm xs.flatten acs ∧ ∀ x ∈ xs, x.length = sz) := by
  have hw := h.cons_inv
  obtain ⟨c, cs', b1, b2, rfl, rfl, h1, h2⟩ := hw
  refine ⟨c, cs', b1, b2, rfl, rfl, h2, h1, ?_⟩
  cases h1 with
  | imm _ c h1 h => cases h1 with
    | slnil sz _ => exact .inl ⟨rfl, rfl⟩
    | sl sz xs a cap hz ha hr hc _ => exact .inr ⟨a, cap, _, rfl, hc, ha, hr, hz⟩
  | full sz xs a hz ha hr _ => exact .inr ⟨a, _, _, rfl, Nat.le_refl _, ha, hr, hz⟩
  | slnone sz _ => exact .inl ⟨rfl, rfl⟩
  | tail sz xs a cap hz ha hr hc ht _ => exact .inr ⟨a, cap, _, rfl, hc, ha, hr, hz⟩

theorem obj_live (hok : Ok w G own H) {id ver : Nat} {cs : List V} (h : getCells H id ver = some cs) {b ver' n : Nat} (hl : G.loc[id]? = some (b, ver', n)) (hv : ver ≤ ver') :
    ver = ver' ∧ ∃ c e bl, n = c.size ∧ own b = some (.obj id) ∧ w.heap[b]? = some (.cells c e (0, 0)) ∧ (∀ o, G.imm b o = none) ∧
      cs.length ≤ c.size ∧ RepL w G cs (c.toList.take cs.length) bl ∧ bl.Nodup ∧ ∀ b' ∈ bl, own b' = some (.cell id) := by
  obtain ⟨b2, c, e, bl, h1, h2, h3, h4, h5, h6, h7, h8⟩ := hok.obj _ _ (getCells_some h)
  rw [hl] at h1
  cases h1
  exact ⟨rfl, c, e, bl, rfl, h2, h3, h4, h5, h6, h7, h8⟩

theorem load_ptr_post (hok : Ok w G own H) {t : TypeId} {d : TypeDesc} {n : Nat} (hu : P.underlying t = some d) (hs : (P.info? t).map (·.size) = some n) (hg : aggOf P t = false → n = 1)
    {id ver off : Nat} {c : Value} {bl : List Nat} (hr : RepL w G [.ptr id ver off] [c] bl) {cs l : List V} {v : V} (hc : getCells H id ver = some cs) (hcut : cut cs off n = some l) (hm : mk (aggOf P t) (l.map strip0) = some v) :
    DoneV ((Instr.loadAt t c).run P w) (Post w G own v H) := by
  obtain ⟨b, ver', n', bb, _, hcs, hl, hv, hb, _⟩ := hr.ptr_inv
  cases hcs
  obtain ⟨hve, c, e, bl, _, h2, h3, h4, h5, h6, h7, h8⟩ := obj_live hok hc hl hv
  rw [hb hve]
  obtain ⟨b1, b2, b3, _, _, r2, _, hl2, hcell⟩ := obj_part h6 h5 hcut
  have hrun := run_loadVar (P := P) (w := w) hu hs ⟨b, off, none⟩ _ hl2 (cell_of_heap h3 hcell) hg
  refine ⟨_, w, ?_, post_same hok (mk_rep r2.strips0 hm)⟩
  simp [Instr.loadAt, Instr.sureAddr, hrun]

theorem load_cptr_post (hok : Ok w G own H) {t : TypeId} {d : TypeDesc} {n : Nat} (hu : P.underlying t = some d) (hs : (P.info? t).map (·.size) = some n) (hg : aggOf P t = false → n = 1)
    {cs l : List V} {c : Value} {bl : List Nat} (hr : RepL w G [.cptr cs] [c] bl) {v : V} (hcut : cut cs 0 n = some l) (hm : mk (aggOf P t) l = some v) :
    DoneV ((Instr.loadAt t c).run P w) (Post w G own v H) := by
  obtain ⟨a, acs, _, hcs, ha, hri, _⟩ := hr.cptr_inv
  cases hcs
  obtain ⟨h1, h2, h3, _⟩ := cut_some hcut
  have hl : l = cs.take n := by rw [h2, List.drop_zero]
  have hlen : (acs.take n).length = n := by rw [List.length_take, ← hri.length]; omega
  have hrun := run_loadVar (P := P) (w := w) hu hs a (acs.take n) hlen ((ha.take n).cells hok) hg
  refine ⟨_, w, ?_, post_same hok (mk_rep (RepI.toL (by rw [hl]; exact hri.take n)) hm)⟩
  simp [Instr.loadAt, Instr.sureAddr, hrun]

theorem loadT_post (hok : Ok w G own H) {t : TypeId} {d : TypeDesc} {n : Nat} (hu : P.underlying t = some d) (hs : (P.info? t).map (·.size) = some n) (hg : aggOf P t = false → n = 1)
    {id ver off : Nat} {c : Value} {bl : List Nat} (hr : RepL w G [.ptr id ver off] [c] bl) {cs l : List V} {v : V} (hc : getCells H id ver = some cs) (hcut : cut cs off n = some l) (hm : mk (aggOf P t) l = some v) :
    DoneV ((Instr.loadAt t c).run P w) (Post w G own v (H.set id (.cells ver (put cs off (l.map strip0))))) := by
  obtain ⟨b, ver', n', bb, _, hcs, hl, hv, hb, _⟩ := hr.ptr_inv
  cases hcs
  obtain ⟨hve, c, e, bl, hn', h2, h3, h4, h5, h6, h7, h8⟩ := obj_live hok hc hl hv
  subst hn'
  rw [hb hve]
  subst hve
  obtain ⟨b1, b2, b3, hbl, r1, r2, r3, hl2, hcell⟩ := obj_part h6 h5 hcut
  have hrun := run_loadVar (P := P) (w := w) hu hs ⟨b, off, none⟩ _ hl2 (cell_of_heap h3 hcell) hg
  obtain ⟨k1, k2, k3, k4⟩ := cut_some hcut
  have hcl : c.toList.length = c.size := Array.length_toList
  have hput : (put cs off (l.map strip0)).length = cs.length := by
    unfold put; simp [k3]; omega
  have hcells : c.toList.take (put cs off (l.map strip0)).length = c.toList.take off ++ ((c.toList.drop off).take n ++ (c.toList.take cs.length).drop (off + n)) := by
    rw [hput, List.drop_take, ← List.append_assoc]
    have : c.toList.take off ++ (c.toList.drop off).take n = c.toList.take (off + n) := by rw [List.take_add]
    rw [this, ← List.take_add]
    congr 1; omega
  have hrep : RepL w G (put cs off (l.map strip0)) (c.toList.take (put cs off (l.map strip0)).length) (b1 ++ ([] ++ b3)) := by
    rw [hcells]
    unfold put
    rw [List.append_assoc]
    refine RepL.append (RepL.append (by rw [List.length_map, k3]; exact r3) r2.strips0) r1
  have hnd : bl.Nodup := h7
  rw [hbl] at hnd h8
  have hnd1 := List.nodup_append.1 hnd
  have hnd2 := List.nodup_append.1 hnd1.2.1
  obtain ⟨own', hok', hext, hres⟩ := hok.put (vs := cs) (c' := c) (blr := b2) hl h2 h3 h4 rfl (by rw [hput]; exact h5) hrep
    (by
      rw [List.nil_append]
      exact List.nodup_append.2 ⟨hnd1.1, hnd2.2.1, fun x hx y hy => hnd1.2.2 x hx y (List.mem_append_right _ hy)⟩)
    (fun x hx => .inr (h8 x (by
      rcases List.mem_append.1 hx with hx | hx
      · exact List.mem_append_left _ hx
      · exact List.mem_append_right _ (List.mem_append_right _ (by simpa using hx)))))
    (fun x hx => h8 x (List.mem_append_right _ (List.mem_append_left _ hx)))
    (fun x hx hx' => by
      rcases List.mem_append.1 hx' with hx' | hx'
      · exact hnd1.2.2 x hx' x (List.mem_append_left _ hx) rfl
      · exact hnd2.2.2 x hx x (by simpa using hx') rfl)
  rw [setRow_self w b c e (0, 0) h3] at hok' hext
  refine ⟨_, w, ?_, G, own', b2, hok', mk_rep r2 hm, hnd2.1, hres, hext⟩
  simp [Instr.loadAt, Instr.sureAddr, hrun]

end
end Go.Proofs.Ytglemgdlkddjhaa.Vm
