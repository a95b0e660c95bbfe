/-
The value machine, part 21: functions: what is theirs alone is forgotten when they return.
-/
import Derived.Test.YtglemgdlkddjhaaVm20
namespace Go.Proofs.Ytglemgdlkddjhaa.Vm
open Go

mutual
/-- All objects that a value names are below a number. -/
def idsV (m : Nat) : V → Bool
  | .ptr id _ _ => id < m
  | .hsl id _ _ _ _ => id < m
  | .map id => id < m
  | .fn _ cs => idsL m cs
  | .agg cs => idsL m cs
  | .tup cs => idsL m cs
  | _ => true
def idsL (m : Nat) : List V → Bool
  | [] => true
  | v :: vs => idsV m v && idsL m vs
end
def idsO (m : Nat) : Obj → Bool
  | .dead => true
  | .cells _ cs => idsL m cs
  | .map es => idsL m (es.map (·.2))

/-- What is below stays; a list or a struct above becomes one that never changes. -/
def fixV (m : Nat) (H : Heap) : Nat → V → Option V
  | 0, _ => none
  | d + 1, .hsl id ver off len sz => if id < m then some (.hsl id ver off len sz) else
      (getCells H id ver).bind fun cs => (cut cs off (len * sz)).bind fun l => (l.mapM (fixV m H d)).bind fun l => (inl l).map fun l => .sl false sz (chunks sz len l)
  | d + 1, .ptr id ver off => if id < m then some (.ptr id ver off) else
      (getCells H id ver).bind fun cs => ((cs.drop off).mapM (fixV m H d)).bind fun l => (inl l).map .cptr
  | d + 1, .agg cs => (cs.mapM (fixV m H d)).map .agg
  | d + 1, .tup cs => (cs.mapM (fixV m H d)).map .tup
  | _ + 1, .map id => if id < m then some (.map id) else none
  | _ + 1, .fn f cs => if idsL m cs then some (.fn f cs) else none
  | _ + 1, .fr sz xs => some (.fr sz xs)
  | _ + 1, v => some v

section
variable {P : Program} {w : World} {G : Gh} {own : Nat → Option Place} {H : Heap}

theorem RepI.ids {imm : Nat → Nat → Option Value} {v : V} {c : Value} (h : RepI imm [v] [c]) (m : Nat) : idsV m v = true := by cases h <;> rfl

theorem lt_loc {G : Gh} {id : Nat} {p : Nat × Nat × Nat} (h : G.loc[id]? = some p) : id < G.loc.length := (List.getElem?_eq_some_iff.1 h).1

theorem RepL.ids {vs : List V} {cs : List Value} {bl : List Nat} (h : RepL w G vs cs bl) : idsL G.loc.length vs = true := by
  induction h with
  | nil => rfl
  | u _ _ ih => simp only [idsL, idsV, ih, Bool.and_self]
  | imm v c h1 _ ih => simp only [idsL, h1.ids, ih, Bool.and_self]
  | ptr id ver off b ver' n bb hl _ _ _ ih => simp only [idsL, idsV, ih, decide_eq_true (lt_loc hl), Bool.and_self]
  | hsl id ver off len sz b ver' n bb cap hl _ _ _ _ ih => simp only [idsL, idsV, ih, decide_eq_true (lt_loc hl), Bool.and_self]
  | map id b ver' n bb hl _ _ ih => simp only [idsL, idsV, ih, decide_eq_true (lt_loc hl), Bool.and_self]
  | fn f _ _ ih1 ih2 => simp only [idsL, idsV, ih1, ih2, Bool.and_self]
  | full _ _ _ _ _ _ _ ih => simp only [idsL, idsV, ih, Bool.and_self]
  | slnone _ _ ih => simp only [idsL, idsV, ih, Bool.and_self]
  | nilh _ _ ih => simp only [idsL, idsV, ih, Bool.and_self]
  | tail _ _ _ _ _ _ _ _ _ _ ih => simp only [idsL, idsV, ih, Bool.and_self]
  | fr _ _ _ _ _ _ _ _ _ _ _ _ _ _ ih => simp only [idsL, idsV, ih, Bool.and_self]
  | agg _ _ ih1 ih2 => simp only [idsL, idsV, ih1, ih2, Bool.and_self]
  | tup _ _ ih1 ih2 => simp only [idsL, idsV, ih1, ih2, Bool.and_self]

theorem take_get {α : Type} {l : List α} {m i : Nat} (h : i < m) : (l.take m)[i]? = l[i]? := by rw [List.getElem?_take, if_pos h]

/-- What names objects below a number alone needs no others. -/
theorem RepL.trunc {G' : Gh} {m : Nat} (hl : G'.loc = G.loc.take m) (hi : ∀ b o v, G.imm b o = some v → G'.imm b o = some v) {vs : List V} {cs : List Value} {bl : List Nat} (h : RepL w G vs cs bl) (hb : ∀ b ∈ bl, ∀ o, G'.imm b o = G.imm b o)
    (hm : idsL m vs = true) : RepL w G' vs cs bl := by
  induction h with
  | nil => exact .nil
  | u c _ ih => simp only [idsL, Bool.and_eq_true] at hm; exact .u c (ih hb hm.2)
  | imm v c h1 _ ih => simp only [idsL, Bool.and_eq_true] at hm; exact .imm v c (h1.mono hi) (ih hb hm.2)
  | ptr id ver off b ver' n bb h1 h2 h3 _ ih =>
    simp only [idsL, idsV, Bool.and_eq_true, decide_eq_true_eq] at hm
    exact .ptr id ver off b ver' n bb (by rw [hl, take_get hm.1]; exact h1) h2 h3 (ih hb hm.2)
  | hsl id ver off len sz b ver' n bb cap h1 h2 h3 h4 _ ih =>
    simp only [idsL, idsV, Bool.and_eq_true, decide_eq_true_eq] at hm
    exact .hsl id ver off len sz b ver' n bb cap (by rw [hl, take_get hm.1]; exact h1) h2 h3 h4 (ih hb hm.2)
  | map id b ver' n bb h1 h2 _ ih =>
    simp only [idsL, idsV, Bool.and_eq_true, decide_eq_true_eq] at hm
    exact .map id b ver' n bb (by rw [hl, take_get hm.1]; exact h1) h2 (ih hb hm.2)
  | fn f _ _ ih1 ih2 =>
    simp only [idsL, idsV, Bool.and_eq_true] at hm
    exact .fn f (ih1 (fun _ h => by cases h) hm.1) (ih2 hb hm.2)
  | full sz xs a hz ha hr _ ih => simp only [idsL, Bool.and_eq_true] at hm; exact .full sz xs a hz (ha.mono hi) (hr.mono hi) (ih hb hm.2)
  | slnone sz _ ih => simp only [idsL, Bool.and_eq_true] at hm; exact .slnone sz (ih hb hm.2)
  | nilh sz _ ih => simp only [idsL, Bool.and_eq_true] at hm; exact .nilh sz (ih hb hm.2)
  | tail sz xs a cap hz ha hr hc ht _ ih =>
    simp only [idsL, Bool.and_eq_true] at hm
    exact .tail sz xs a cap hz (ha.mono hi) (hr.mono hi) hc ⟨ht.1, fun o ho => by rw [hb a.block (List.mem_cons_self ..) o]; exact ht.2 o ho⟩ (ih (fun b hb' => hb b (List.mem_cons_of_mem _ hb')) hm.2)
  | fr sz xs b cap c e hz hw hn hp hr hc hs _ ih =>
    simp only [idsL, Bool.and_eq_true] at hm
    exact .fr sz xs b cap c e hz hw (fun o => by rw [hb b (List.mem_cons_self ..) o]; exact hn o) hp (hr.mono hi) hc hs (ih (fun b hb' => hb b (List.mem_cons_of_mem _ hb')) hm.2)
  | agg _ _ ih1 ih2 =>
    simp only [idsL, idsV, Bool.and_eq_true] at hm
    exact .agg (ih1 (fun b hb' => hb b (List.mem_append_left _ hb')) hm.1) (ih2 (fun b hb' => hb b (List.mem_append_right _ hb')) hm.2)
  | tup _ _ ih1 ih2 =>
    simp only [idsL, idsV, Bool.and_eq_true] at hm
    exact .tup (ih1 (fun b hb' => hb b (List.mem_append_left _ hb')) hm.1) (ih2 (fun b hb' => hb b (List.mem_append_right _ hb')) hm.2)

/-- What never changes any more: the cells of all that is forgotten. -/
def froze (w : World) (own : Nat → Option Place) (m : Nat) (imm : Nat → Nat → Option Value) : Nat → Nat → Option Value := fun b o => match own b with
  | some (.obj i) => if m ≤ i then w.cell? ⟨b, o, none⟩ else imm b o
  | _ => imm b o

theorem froze_mono (hok : Ok w G own H) (m : Nat) : ∀ b o v, G.imm b o = some v → froze w own m G.imm b o = some v := by
  intro b o v hv
  unfold froze
  split
  · split
    · obtain ⟨c, e, f, h1, h2⟩ := hok.imm b o v hv
      simp only [World.cell?, h1]; simpa using h2
    · exact hv
  · exact hv

theorem froze_same {m : Nat} {b : Nat} (h : ∀ i, own b = some (.obj i) → i < m) (o : Nat) : froze w own m G.imm b o = G.imm b o := by
  unfold froze
  split
  · rename_i i hi
    rw [if_neg (by have := h i hi; omega)]
  · rfl

def cutG (w : World) (G : Gh) (own : Nat → Option Place) (m : Nat) : Gh := ⟨froze w own m G.imm, G.loc.take m⟩

/-- Blocks that are no object's. -/
def NoObj (own : Nat → Option Place) (bl : List Nat) : Prop := ∀ b ∈ bl, ∀ i, own b ≠ some (.obj i)

theorem NoObj.same {m : Nat} {bl : List Nat} (h : NoObj own bl) : ∀ b ∈ bl, ∀ o, (cutG w G own m).imm b o = G.imm b o := fun b hb o => froze_same (fun i hi => absurd hi (h b hb i)) o

theorem fix_list {m d : Nat} (ih : ∀ (v : V) (c : Value) (bl : List Nat) (v' : V), RepL w G [v] [c] bl → fixV m H d v = some v' → NoObj own bl → bl.Nodup → ∃ bl', RepL w (cutG w G own m) [v'] [c] bl' ∧ bl'.Nodup ∧ ∀ b ∈ bl', b ∈ bl) :
    ∀ {vs vs' : List V} {cs : List Value} {bl : List Nat}, RepL w G vs cs bl → vs.mapM (fixV m H d) = some vs' → NoObj own bl → bl.Nodup → ∃ bl', RepL w (cutG w G own m) vs' cs bl' ∧ bl'.Nodup ∧ ∀ b ∈ bl', b ∈ bl := by
  intro vs
  induction vs with
  | nil =>
    intro vs' cs bl h e hb hn
    obtain ⟨rfl, rfl⟩ := h.nil_inv
    simp at e; subst e
    exact ⟨[], .nil, List.nodup_nil, fun _ h => h⟩
  | cons v vs ihv =>
    intro vs' cs bl h e hb hn
    obtain ⟨c, cs, b1, b2, rfl, rfl, h1, h2⟩ := h.cons_inv
    rw [List.mapM_cons] at e
    obtain ⟨v1, e1, e⟩ := Option.bind_eq_some_iff.1 e
    obtain ⟨vs1, e2, e⟩ := Option.bind_eq_some_iff.1 e
    cases e
    obtain ⟨n1, n2, n3⟩ := List.nodup_append.1 hn
    obtain ⟨a1, k1, k2, k3⟩ := ih v c b1 v1 h1 e1 (fun b hb' => hb b (List.mem_append_left _ hb')) n1
    obtain ⟨a2, j1, j2, j3⟩ := ihv h2 e2 (fun b hb' => hb b (List.mem_append_right _ hb')) n2
    refine ⟨a1 ++ a2, RepL.cons k1 j1, List.nodup_append.2 ⟨k2, j2, fun x hx y hy => n3 x (k3 x hx) y (j3 y hy)⟩, fun b hb' => ?_⟩
    rcases List.mem_append.1 hb' with h | h
    · exact List.mem_append_left _ (k3 b h)
    · exact List.mem_append_right _ (j3 b h)

theorem froze_at {m id b off : Nat} {imm : Nat → Nat → Option Value} {c : Array Value} {e : TypeId} {z : Nat × Nat} (ho : own b = some (.obj id)) (hm : m ≤ id) (hw : w.heap[b]? = some (.cells c e z)) {cs : List Value} (hc : ∀ j v, cs[j]? = some v → c[off + j]? = some v) :
    ImmAt (froze w own m imm) ⟨b, off, none⟩ cs := by
  refine ⟨fun _ => rfl, fun j v hv => ?_⟩
  unfold froze
  rw [ho]
  simp only [if_pos hm, World.cell?, hw]
  simpa using hc j v hv

theorem fix_one (hok : Ok w G own H) (m : Nat) : ∀ (d : Nat) (v : V) (c : Value) (bl : List Nat) (v' : V), RepL w G [v] [c] bl → fixV m H d v = some v' → NoObj own bl → bl.Nodup →
    ∃ bl', RepL w (cutG w G own m) [v'] [c] bl' ∧ bl'.Nodup ∧ ∀ b ∈ bl', b ∈ bl := by
  intro d
  induction d with
  | zero => intro v c bl v' h e; cases e
  | succ d ih =>
    intro v c bl v' h e hb hn
    have hmono := froze_mono hok m
    have hsame := hb.same (w := w) (G := G) (m := m)
    have keep : idsV m v = true → v' = v → ∃ bl', RepL w (cutG w G own m) [v'] [c] bl' ∧ bl'.Nodup ∧ ∀ b ∈ bl', b ∈ bl := by
      rintro hi rfl
      exact ⟨bl, h.trunc (G' := cutG w G own m) (m := m) rfl hmono hsame (by simp only [idsL, hi, Bool.and_self]), hn, fun _ h => h⟩
    have nocell : ∀ id (b2 : List Nat), (∀ b' ∈ b2, own b' = some (.cell id)) → NoObj own b2 := by
      intro id b2 h b hb' i hi
      rw [h b hb'] at hi; cases hi
    cases v with
    | hsl id ver off len sz =>
      simp only [fixV] at e
      split at e
      · rename_i hi; cases e; exact keep (by simp [idsV, hi]) rfl
      · rename_i hi
        obtain ⟨cs, hg, e⟩ := Option.bind_eq_some_iff.1 e
        obtain ⟨l, hcut, e⟩ := Option.bind_eq_some_iff.1 e
        obtain ⟨l1, hmap, e⟩ := Option.bind_eq_some_iff.1 e
        obtain ⟨l2, hinl, e⟩ := Option.map_eq_some_iff.1 e
        cases e
        obtain ⟨b, ver', n, bb, cap, cs', hcs, hl, hv, hcap, hbb, _⟩ := h.hsl_inv
        cases hcs
        obtain ⟨hve, carr, E, blo, _, k2, k3, k4, k5, k6, k7, k8⟩ := obj_live hok hg hl hv
        obtain ⟨rfl, _⟩ := hbb hve
        obtain ⟨a1, a2, a3, hbl, _, r2, _, hl2, hcell⟩ := obj_part k6 k5 hcut
        have hnd : a2.Nodup := by rw [hbl] at k7; exact (List.nodup_append.1 (List.nodup_append.1 k7).2.1).1
        obtain ⟨a2', q1, _, _⟩ := fix_list (own := own) ih r2 hmap (nocell id a2 fun b' hb' => k8 b' (by rw [hbl]; exact List.mem_append_right _ (List.mem_append_left _ hb'))) hnd
        have hri := q1.inl hinl
        have hlen : l2.length = len * sz := by rw [hri.length, hl2]
        obtain ⟨f1, f2, f3⟩ := chunks_flat sz len l2 hlen
        refine ⟨[], .imm _ _ ?_ .nil, List.nodup_nil, fun _ h => by cases h⟩
        have himm := froze_at (imm := G.imm) (m := m) (off := off) k2 (by omega) k3 hcell
        have := RepI.sl (imm := (cutG w G own m).imm) sz (chunks sz len l2) ⟨bb, off, none⟩ cap f2 himm (by rw [f1]; exact hri) (by rw [f3]; exact hcap) .nil
        rwa [f3] at this
    | ptr id ver off =>
      simp only [fixV] at e
      split at e
      · rename_i hi; cases e; exact keep (by simp [idsV, hi]) rfl
      · rename_i hi
        obtain ⟨cs, hg, e⟩ := Option.bind_eq_some_iff.1 e
        obtain ⟨l1, hmap, e⟩ := Option.bind_eq_some_iff.1 e
        obtain ⟨l2, hinl, e⟩ := Option.map_eq_some_iff.1 e
        cases e
        obtain ⟨b, ver', n, bb, cs', hcs, hl, hv, hbb, _⟩ := h.ptr_inv
        cases hcs
        obtain ⟨hve, carr, E, blo, _, k2, k3, k4, k5, k6, k7, k8⟩ := obj_live hok hg hl hv
        obtain rfl := hbb hve
        have hsplit := k6
        rw [← List.take_append_drop off cs] at hsplit
        obtain ⟨a1, a2, hbl, _, r2⟩ := RepL.split _ hsplit
        rw [List.take_append_drop] at r2
        have hnd : a2.Nodup := by rw [hbl] at k7; exact (List.nodup_append.1 k7).2.1
        obtain ⟨a2', q1, _, _⟩ := fix_list (own := own) ih r2 hmap (nocell id a2 fun b' hb' => k8 b' (by rw [hbl]; exact List.mem_append_right _ hb')) hnd
        have hri := q1.inl hinl
        refine ⟨[], .imm _ _ (.cptr _ (froze_at (imm := G.imm) (m := m) (off := off) k2 (by omega) k3 ?_) hri .nil) .nil, List.nodup_nil, fun _ h => by cases h⟩
        intro j v hv
        rw [List.getElem?_drop, List.getElem?_take] at hv
        split at hv
        · rename_i hj
          rw [Array.getElem?_toList] at hv
          by_cases ho : off ≤ cs.length
          · rw [List.length_take, Nat.min_eq_left ho] at hv; exact hv
          · rw [List.length_take, Nat.min_eq_right (by omega)] at hj; omega
        · cases hv
    | agg cs =>
      simp only [fixV] at e
      obtain ⟨l1, hmap, e⟩ := Option.map_eq_some_iff.1 e
      cases e
      cases h with
      | imm _ _ h _ => cases h
      | agg hr h0 =>
        obtain ⟨_, rfl⟩ := h0.nil_inv
        rw [List.append_nil] at hb hn
        obtain ⟨a, q1, q2, q3⟩ := fix_list (own := own) ih hr hmap hb hn
        exact ⟨a ++ [], .agg q1 .nil, by simpa using q2, fun b hb' => by simpa using q3 b (by simpa using hb')⟩
    | tup cs =>
      simp only [fixV] at e
      obtain ⟨l1, hmap, e⟩ := Option.map_eq_some_iff.1 e
      cases e
      cases h with
      | imm _ _ h _ => cases h
      | tup hr h0 =>
        obtain ⟨_, rfl⟩ := h0.nil_inv
        rw [List.append_nil] at hb hn
        obtain ⟨a, q1, q2, q3⟩ := fix_list (own := own) ih hr hmap hb hn
        exact ⟨a ++ [], .tup q1 .nil, by simpa using q2, fun b hb' => by simpa using q3 b (by simpa using hb')⟩
    | map id =>
      simp only [fixV] at e
      split at e
      · rename_i hi; cases e; exact keep (by simp [idsV, hi]) rfl
      · cases e
    | fn f cs =>
      simp only [fixV] at e
      split at e
      · rename_i hi; cases e; exact keep (by simp only [idsV, hi]) rfl
      · cases e
    | fr sz xs => cases e; exact keep rfl rfl
    | u => cases e; exact keep rfl rfl
    | int _ _ => cases e; exact keep rfl rfl
    | bool _ => cases e; exact keep rfl rfl
    | str _ => cases e; exact keep rfl rfl
    | nilp => cases e; exact keep rfl rfl
    | cptr _ => cases e; exact keep rfl rfl
    | sl _ _ _ => cases e; exact keep rfl rfl
    | nilh _ => cases e; exact keep rfl rfl
    | nilmap => cases e; exact keep rfl rfl
    | nilfn => cases e; exact keep rfl rfl

/-- The heap, of which what is above a number is forgotten. -/
theorem Ok.cut (hok : Ok w G own H) {m : Nat} (hm : m ≤ H.length) (hids : ∀ i ob, i < m → H[i]? = some ob → idsO m ob = true) {own' : Nat → Option Place}
    (ho1 : ∀ b i, i < m → (own b = some (.obj i) ∨ own b = some (.cell i)) → own' b = own b) (ho2 : ∀ b p, own' b = some p → ∃ q, own b = some q) : Ok w (cutG w G own m) own' (H.take m) := by
  refine ⟨?_, fun b p hp => ?_, ?_, ?_⟩
  · intro b o v hv
    simp only [cutG, froze] at hv
    split at hv
    · split at hv
      · simp only [World.cell?] at hv
        split at hv
        · rename_i c e f hw
          exact ⟨c, e, f, hw, by simpa using hv⟩
        · cases hv
      · exact hok.imm b o v hv
    · exact hok.imm b o v hv
  · obtain ⟨q, hq⟩ := ho2 b p hp; exact hok.size b q hq
  · simp only [cutG, List.length_take, ← hok.len]
  · intro i ob hi
    have hlt : i < m := by
      rw [List.getElem?_take] at hi
      split at hi
      · assumption
      · cases hi
    rw [take_get hlt] at hi
    have h := hok.obj i ob hi
    have hid := hids i ob hlt hi
    have hfr : ∀ b, own b = some (.obj i) ∨ own b = some (.cell i) → ∀ o, (cutG w G own m).imm b o = G.imm b o := by
      intro b hb o
      refine froze_same (fun j hj => ?_) o
      rcases hb with hb | hb
      · rw [hb] at hj; cases hj; exact hlt
      · rw [hb] at hj; cases hj
    match ob with
    | .dead => exact True.intro
    | .cells ver vs =>
      obtain ⟨b, c, e, bl, h1, h2, h3, h4, h5, h6, h7, h8⟩ := h
      refine ⟨b, c, e, bl, ?_, by rw [ho1 b i hlt (.inl h2)]; exact h2, h3, fun o => by rw [hfr b (.inl h2) o]; exact h4 o, h5, ?_, h7, fun b' hb' => by rw [ho1 b' i hlt (.inr (h8 b' hb'))]; exact h8 b' hb'⟩
      · simp only [cutG]; rw [take_get hlt]; exact h1
      · exact h6.trunc (G' := cutG w G own m) (m := m) rfl (froze_mono hok m) (fun b' hb' o => hfr b' (.inr (h8 b' hb')) o) hid
    | .map es =>
      obtain ⟨b, ents, clk, h1, h2, h3, h4, h5⟩ := h
      refine ⟨b, ents, clk, ?_, by rw [ho1 b i hlt (.inl h2)]; exact h2, h3, h4.mono (froze_mono hok m), ?_⟩
      · simp only [cutG]; rw [take_get hlt]; exact h1
      · exact h5.trunc (G' := cutG w G own m) (m := m) rfl (froze_mono hok m) (fun _ h => by cases h) hid
end
end Go.Proofs.Ytglemgdlkddjhaa.Vm
