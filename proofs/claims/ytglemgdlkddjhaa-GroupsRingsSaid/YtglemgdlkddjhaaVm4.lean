/-
The value machine, part 4: memory that is made, written or handed on keeps what all else stands for.
-/
import Derived.Test.YtglemgdlkddjhaaVm3
import Derived.Laws.CopyRow
import Derived.Laws.Cells
namespace Go.Proofs.Ytglemgdlkddjhaa.Vm
open Go

/-- What an operation leaves: a value that stands for what it answers. -/
def Post (w : World) (G : Gh) (own : Nat → Option Place) (v : V) (H' : Heap) (c : Value) (w' : World) : Prop :=
  ∃ G' own' bl, Ok w' G' own' H' ∧ RepL w' G' [v] [c] bl ∧ bl.Nodup ∧ (∀ b ∈ bl, own' b = some .res) ∧ Ext w G own w' G' own'

theorem ObjOk.mono {w w' : World} {G G' : Gh} {own own' : Nat → Option Place} {i : Nat} {ob : Obj} (h : ObjOk w G own i ob)
    (hi : ∀ b o v, G.imm b o = some v → G'.imm b o = some v)
    (hl : ∀ (i b v n : Nat), G.loc[i]? = some (b, v, n) → ∃ b' v' n' : Nat, G'.loc[i]? = some (b', v', n') ∧ v ≤ v' ∧ (v = v' → b' = b ∧ n' = n))
    (hli : G'.loc[i]? = G.loc[i]?)
    (hb : ∀ b, (own b = some (.obj i) ∨ own b = some (.cell i)) → w'.heap[b]? = w.heap[b]? ∧ (∀ o, G'.imm b o = G.imm b o) ∧ own' b = own b) : ObjOk w' G' own' i ob := by
  match ob with
  | .dead => exact True.intro
  | .cells ver vs =>
    obtain ⟨b, c, e, bl, h1, h2, h3, h4, h5, h6, h7, h8⟩ := h
    obtain ⟨k1, k2, k3⟩ := hb b (.inl h2)
    refine ⟨b, c, e, bl, hli.trans h1, k3.trans h2, k1.trans h3, fun o => (k2 o).trans (h4 o), h5, ?_, h7, ?_⟩
    · exact h6.mono hi hl fun b' hb' => ⟨(hb b' (.inr (h8 b' hb'))).1, (hb b' (.inr (h8 b' hb'))).2.1⟩
    · intro b' hb'; rw [(hb b' (.inr (h8 b' hb'))).2.2]; exact h8 b' hb'
  | .map es =>
    obtain ⟨b, ents, clk, h1, h2, h3, h4, h5⟩ := h
    obtain ⟨k1, k2, k3⟩ := hb b (.inl h2)
    exact ⟨b, ents, clk, hli.trans h1, k3.trans h2, k1.trans h3, h4.mono hi, h5.mono hi hl fun b' hb' => by cases hb'⟩

theorem loc_refl (G : Gh) : ∀ (i b v n : Nat), G.loc[i]? = some (b, v, n) → ∃ b' v' n' : Nat, G.loc[i]? = some (b', v', n') ∧ v ≤ v' ∧ (v = v' → b' = b ∧ n' = n) :=
  fun _ b v n h => ⟨b, v, n, h, Nat.le_refl _, fun _ => ⟨rfl, rfl⟩⟩

theorem loc_append (G : Gh) (l : List (Nat × Nat × Nat)) : ∀ (i b v n : Nat), G.loc[i]? = some (b, v, n) → ∃ b' v' n' : Nat, (G.loc ++ l)[i]? = some (b', v', n') ∧ v ≤ v' ∧ (v = v' → b' = b ∧ n' = n) := by
  intro i b v n h
  refine ⟨b, v, n, ?_, Nat.le_refl _, fun _ => ⟨rfl, rfl⟩⟩
  have : i < G.loc.length := by
    rcases Nat.lt_or_ge i G.loc.length with h' | h'
    · exact h'
    · rw [List.getElem?_eq_none h'] at h; cases h
  rw [List.getElem?_append_left this, h]

theorem RepL.heap {w w' : World} {G : Gh} {vs : List V} {cs : List Value} {bl : List Nat} (h : RepL w G vs cs bl) (e : w'.heap = w.heap) : RepL w' G vs cs bl :=
  h.mono (fun _ _ _ h => h) (loc_refl G) fun _ _ => ⟨by rw [e], fun _ => rfl⟩

theorem Ok.heap {w w' : World} {G : Gh} {own : Nat → Option Place} {H : Heap} (h : Ok w G own H) (e : w'.heap = w.heap) : Ok w' G own H := by
  refine ⟨fun b o v hv => ?_, fun b p hp => ?_, h.len, fun i ob ho => ?_⟩
  · rw [e]; exact h.imm b o v hv
  · rw [e]; exact h.size b p hp
  · exact (h.obj i ob ho).mono (fun _ _ _ h => h) (loc_refl G) rfl fun _ _ => ⟨by rw [e], fun _ => rfl, rfl⟩

/-- Other names for who owns what is no object's. -/
theorem Ok.relabel {w : World} {G : Gh} {own own' : Nat → Option Place} {H : Heap} (h : Ok w G own H)
    (ho : ∀ b i, own b = some (.obj i) ∨ own b = some (.cell i) → own' b = own b) (hs : ∀ b p, own' b = some p → ∃ q, own b = some q) : Ok w G own' H := by
  refine ⟨h.imm, fun b p hp => ?_, h.len, fun i ob hob => ?_⟩
  · obtain ⟨q, hq⟩ := hs b p hp; exact h.size b q hq
  · exact (h.obj i ob hob).mono (fun _ _ _ h => h) (loc_refl G) rfl fun b hb => ⟨rfl, fun _ => rfl, ho b i hb⟩

theorem post_same {w : World} {G : Gh} {own : Nat → Option Place} {H : Heap} {v : V} {c : Value} (h : Ok w G own H) (hr : RepL w G [v] [c] []) : Post w G own v H c w :=
  ⟨G, own, [], h, hr, List.nodup_nil, (fun _ h => by cases h), Ext.refl ..⟩

theorem post_plain {w : World} {G : Gh} {own : Nat → Option Place} {H : Heap} {v : V} {c : Value} (h : Ok w G own H) (hr : RepI G.imm [v] [c]) : Post w G own v H c w :=
  post_same h (.imm v c hr .nil)

def toRes (own : Nat → Option Place) : Nat → Option Place := fun b => if own b = some .arg then some .res else own b

theorem toRes_frame {own : Nat → Option Place} {b : Nat} (h : own b = some .frame) : toRes own b = some .frame := by
  unfold toRes; rw [if_neg (by rw [h]; simp)]; exact h

theorem Ok.toRes {w : World} {G : Gh} {own : Nat → Option Place} {H : Heap} (h : Ok w G own H) : Ok w G (toRes own) H := by
  refine h.relabel (fun b i hb => ?_) fun b p hp => ?_
  · unfold Vm.toRes; rw [if_neg]; rcases hb with hb | hb <;> rw [hb] <;> simp
  · unfold Vm.toRes at hp; split at hp
    · rename_i e; exact ⟨_, e⟩
    · exact ⟨_, hp⟩

theorem post_arg {w : World} {G : Gh} {own : Nat → Option Place} {H : Heap} {v : V} {c : Value} {bl : List Nat} (h : Ok w G own H) (hr : RepL w G [v] [c] bl) (hn : bl.Nodup)
    (ha : ∀ b ∈ bl, own b = some .arg) : Post w G own v H c w := by
  refine ⟨G, toRes own, bl, h.toRes, hr, hn, fun b hb => ?_, ?_⟩
  · unfold Vm.toRes; rw [if_pos (ha b hb)]
  · exact ⟨Nat.le_refl _, fun _ _ _ h => h, loc_refl G, fun b hb => ⟨rfl, fun _ => rfl, toRes_frame hb⟩, rfl, rfl, rfl⟩

/-! ### A block that is made -/

def setO (own : Nat → Option Place) (b : Nat) (p : Option Place) : Nat → Option Place := fun x => if x = b then p else own x
theorem setO_same (own : Nat → Option Place) (b : Nat) (p : Option Place) : setO own b p b = p := by simp [setO]
theorem setO_ne (own : Nat → Option Place) {b x : Nat} (p : Option Place) (h : x ≠ b) : setO own b p x = own x := by simp [setO, h]

def addImm (imm : Nat → Nat → Option Value) (b : Nat) (f : Nat → Option Value) : Nat → Nat → Option Value := fun x o => if x = b then f o else imm x o
theorem addImm_same (imm : Nat → Nat → Option Value) (b : Nat) (f : Nat → Option Value) (o : Nat) : addImm imm b f b o = f o := by simp [addImm]
theorem addImm_ne (imm : Nat → Nat → Option Value) {b x : Nat} (f : Nat → Option Value) (o : Nat) (h : x ≠ b) : addImm imm b f x o = imm x o := by simp [addImm, h]

theorem heap_push {w w' : World} {o : Go.Obj} (e : w'.heap = w.heap.push o) {b : Nat} (h : b < w.heap.size) : w'.heap[b]? = w.heap[b]? := by
  rw [e, Array.getElem?_push]; rw [if_neg (by omega)]
theorem heap_new {w w' : World} {o : Go.Obj} (e : w'.heap = w.heap.push o) : w'.heap[w.heap.size]? = some o := by
  rw [e, Array.getElem?_push]; rw [if_pos rfl]

theorem Ok.fresh {w : World} {G : Gh} {own : Nat → Option Place} {H : Heap} (h : Ok w G own H) (o : Nat) : G.imm w.heap.size o = none := by
  cases e : G.imm w.heap.size o with
  | none => rfl
  | some v =>
    obtain ⟨c, _, _, h1, _⟩ := h.imm _ _ _ e
    rw [Array.getElem?_eq_none (Nat.le_refl _)] at h1
    cases h1
theorem Ok.freshOwn {w : World} {G : Gh} {own : Nat → Option Place} {H : Heap} (h : Ok w G own H) : own w.heap.size = none := by
  cases e : own w.heap.size with
  | none => rfl
  | some p => exact absurd (h.size _ _ e) (Nat.lt_irrefl _)

theorem addImm_mono {w : World} {G : Gh} {own : Nat → Option Place} {H : Heap} (h : Ok w G own H) (f : Nat → Option Value) :
    ∀ b o v, G.imm b o = some v → addImm G.imm w.heap.size f b o = some v := by
  intro b o v e
  by_cases hb : b = w.heap.size
  · subst hb; rw [h.fresh o] at e; cases e
  · rw [addImm_ne _ _ _ hb]; exact e

/-- A new block, of which some cells never change. -/
theorem Ok.pushed {w w' : World} {G : Gh} {own : Nat → Option Place} {H : Heap} (h : Ok w G own H) {o : Go.Obj} (e : w'.heap = w.heap.push o) (f : Nat → Option Value)
    (hf : ∀ i v, f i = some v → ∃ c t z, o = .cells c t z ∧ c[i]? = some v) (p : Option Place) :
    Ok w' ⟨addImm G.imm w.heap.size f, G.loc⟩ (setO own w.heap.size p) H := by
  have hm := addImm_mono h f
  refine ⟨?_, ?_, h.len, ?_⟩
  · intro b i v hv
    by_cases hb : b = w.heap.size
    · subst hb
      simp only [addImm_same] at hv
      obtain ⟨c, t, z, rfl, hc⟩ := hf i v hv
      exact ⟨c, t, z, heap_new e, hc⟩
    · simp only [addImm_ne _ _ _ hb] at hv
      obtain ⟨c, t, z, h1, h2⟩ := h.imm b i v hv
      refine ⟨c, t, z, ?_, h2⟩
      rw [heap_push e]; exact h1
      rcases Nat.lt_or_ge b w.heap.size with h' | h'
      · exact h'
      · rw [Array.getElem?_eq_none h'] at h1; cases h1
  · intro b q hq
    rw [e, Array.size_push]
    by_cases hb : b = w.heap.size
    · omega
    · rw [setO_ne _ _ hb] at hq
      have := h.size _ _ hq; omega
  · intro i ob hob
    refine (h.obj i ob hob).mono hm (loc_refl G) rfl ?_
    intro b hb
    have hlt : b < w.heap.size := by rcases hb with hb | hb <;> exact h.size _ _ hb
    exact ⟨heap_push e hlt, fun o => addImm_ne _ _ _ (by omega), setO_ne _ _ (by omega)⟩

theorem Ext.pushed {w w' : World} {G : Gh} {own : Nat → Option Place} {H : Heap} (h : Ok w G own H) {o : Go.Obj} (e : w'.heap = w.heap.push o) (ht : w'.tape = w.tape) (hos : w'.os = w.os) (hout : w'.output = w.output)
    (f : Nat → Option Value) (p : Option Place) (l : List (Nat × Nat × Nat)) : Ext w G own w' ⟨addImm G.imm w.heap.size f, G.loc ++ l⟩ (setO own w.heap.size p) := by
  refine ⟨by rw [e, Array.size_push]; omega, addImm_mono h f, loc_append G l, fun b hb => ?_, ht, hos, hout⟩
  have := h.size _ _ hb
  exact ⟨heap_push e this, fun o => addImm_ne _ _ _ (by omega), by rw [setO_ne _ _ (by omega)]; exact hb⟩

theorem RepI.addNew {w : World} {G : Gh} {own : Nat → Option Place} {H : Heap} (h : Ok w G own H) (f : Nat → Option Value) {vs : List V} {cs : List Value} (hr : RepI G.imm vs cs) :
    RepI (addImm G.imm w.heap.size f) vs cs := hr.mono (addImm_mono h f)

/-- A list of its own, with or without room behind it. -/
theorem post_list {w w' : World} {G : Gh} {own : Nat → Option Place} {H : Heap} (h : Ok w G own H) {sz : Nat} {xs : List (List V)} {acs rest : List Value} {t : TypeId} {cap : Nat}
    (e : w'.heap = w.heap.push (.cells (acs ++ rest).toArray t)) (ht : w'.tape = w.tape) (hos : w'.os = w.os) (hout : w'.output = w.output)
    (hz : ∀ x ∈ xs, x.length = sz) (hr : RepI G.imm xs.flatten acs) (hc : xs.length ≤ cap) (hcap : cap * sz ≤ (acs ++ rest).length) :
    Post w G own (.sl true sz xs) H (.slice (some ⟨w.heap.size, 0, none⟩) xs.length cap) w' := by
  have hlen : acs.length = xs.length * sz := by
    rw [← hr.length, List.length_flatten]
    rw [List.map_congr_left (g := fun _ => sz) (by intro x hx; exact hz x hx), List.map_const', List.sum_replicate_nat]
  let f : Nat → Option Value := fun i => if i < acs.length then acs[i]? else none
  refine ⟨_, _, [w.heap.size], h.pushed e f (fun i v hv => ?_) (some .res), ?_, by simp, fun b hb => ?_, ?_⟩
  · refine ⟨_, _, _, rfl, ?_⟩
    simp only [f] at hv; split at hv
    · rename_i hi; simp [List.getElem?_append_left hi, hv]
    · cases hv
  · refine .tail sz xs ⟨w.heap.size, 0, none⟩ cap hz ?_ (hr.addNew h f) hc ⟨⟨rfl, _, _, heap_new e, ?_⟩, fun o ho => ?_⟩ .nil
    · refine ⟨fun _ => rfl, fun i v hv => ?_⟩
      simp only [addImm_same, f, Nat.zero_add]
      rw [if_pos, hv]
      rcases Nat.lt_or_ge i acs.length with h' | h'
      · exact h'
      · rw [List.getElem?_eq_none h'] at hv; cases hv
    · simpa using hcap
    · simp only [addImm_same, f]
      rw [if_neg]; simp only [Nat.zero_add] at ho; omega
  · rw [List.mem_singleton.1 hb, setO_same]
  · have := Ext.pushed h e ht hos hout f (some .res) []
    rwa [List.append_nil] at this

/-- An object more. -/
theorem post_obj {w w' : World} {G : Gh} {own : Nat → Option Place} {H : Heap} (h : Ok w G own H) {vs : List V} {cs : List Value} {t : TypeId} {bl : List Nat}
    (e : w'.heap = w.heap.push (.cells cs.toArray t)) (ht : w'.tape = w.tape) (hos : w'.os = w.os) (hout : w'.output = w.output)
    (hr : RepL w G vs cs bl) (hn : bl.Nodup) (ha : ∀ b ∈ bl, own b = some .arg) :
    Post w G own (.ptr H.length 0 0) (H ++ [.cells 0 vs]) (.pointer (some ⟨w.heap.size, 0, none⟩)) w' := by
  let own' : Nat → Option Place := fun b => if own b = some .arg then (if b ∈ bl then some (.cell H.length) else none) else setO own w.heap.size (some (.obj H.length)) b
  have hsz : ∀ b p, own b = some p → b < w.heap.size := h.size
  have hnew : own' w.heap.size = some (.obj H.length) := by
    simp only [own', h.freshOwn, setO_same]; simp
  have hkeep : ∀ b, (∃ p, own b = some p ∧ p ≠ .arg) → own' b = own b := by
    rintro b ⟨p, hp, hne⟩
    have : b ≠ w.heap.size := by have := hsz b p hp; omega
    simp only [own']; rw [if_neg (by rw [hp]; simpa using hne), setO_ne _ _ this]
  have hE := Ext.pushed h e ht hos hout (fun _ => none) none [(w.heap.size, 0, cs.length)]
  have hi : ∀ b o, addImm G.imm w.heap.size (fun _ => none) b o = G.imm b o := by
    intro b o
    by_cases hb : b = w.heap.size
    · subst hb; rw [addImm_same, h.fresh]
    · rw [addImm_ne _ _ _ hb]
  have himm : addImm G.imm w.heap.size (fun _ => none) = G.imm := by funext b o; exact hi b o
  rw [himm] at hE
  have hloc : (G.loc ++ [(w.heap.size, 0, cs.length)])[H.length]? = some (w.heap.size, 0, cs.length) := by rw [h.len]; simp
  have hmono : ∀ {vs : List V} {cs' : List Value} {bl : List Nat}, RepL w G vs cs' bl → (∀ b ∈ bl, b < w.heap.size) → RepL w' ⟨G.imm, G.loc ++ [(w.heap.size, 0, cs.length)]⟩ vs cs' bl :=
    fun hr hlt => RepL.mono (G := G) (G' := ⟨G.imm, G.loc ++ [(w.heap.size, 0, cs.length)]⟩) (fun _ _ _ h => h) (loc_append G _) hr fun b hb => ⟨heap_push e (hlt b hb), fun _ => rfl⟩
  refine ⟨⟨G.imm, G.loc ++ [(w.heap.size, 0, cs.length)]⟩, own', [], ⟨?_, ?_, ?_, ?_⟩, ?_, List.nodup_nil, (fun _ hb => by cases hb), ?_⟩
  · intro b o v hv
    obtain ⟨c, t', z, h1, h2⟩ := h.imm b o v hv
    refine ⟨c, t', z, ?_, h2⟩
    rw [heap_push e]; exact h1
    rcases Nat.lt_or_ge b w.heap.size with h' | h'
    · exact h'
    · rw [Array.getElem?_eq_none h'] at h1; cases h1
  · intro b p hp
    rw [e, Array.size_push]
    by_cases hb : b = w.heap.size
    · omega
    · simp only [own'] at hp
      split at hp
      · rename_i ha; have := hsz b _ ha; omega
      · rw [setO_ne _ _ hb] at hp; have := hsz b p hp; omega
  · simp [h.len]
  · intro i ob hob
    rcases Nat.lt_or_ge i H.length with hlt | hge
    · rw [List.getElem?_append_left hlt] at hob
      refine ObjOk.mono (G := G) (G' := ⟨G.imm, G.loc ++ [(w.heap.size, 0, cs.length)]⟩) (h.obj i ob hob) (fun _ _ _ h => h) (loc_append G _) ?_ ?_
      · have : i < G.loc.length := by rw [← h.len]; exact hlt
        exact List.getElem?_append_left this
      · intro b hb
        have hp : ∃ p, own b = some p ∧ p ≠ .arg := by
          rcases hb with hb | hb <;> exact ⟨_, hb, by simp⟩
        have hk := hkeep b hp
        obtain ⟨p, hp1, _⟩ := hp
        exact ⟨heap_push e (hsz b p hp1), fun _ => rfl, hk⟩
    · have : i = H.length := by
        rcases Nat.lt_or_ge H.length i with h' | h'
        · rw [List.getElem?_eq_none (by simp; omega)] at hob; cases hob
        · omega
      subst this
      simp at hob; subst hob
      refine ⟨w.heap.size, cs.toArray, t, bl, ?_, hnew, heap_new e, fun o => h.fresh o, ?_, ?_, hn, ?_⟩
      · simpa using hloc
      · simp [hr.length]
      · have : cs.toArray.toList.take vs.length = cs := by simp [hr.length]
        rw [this]
        exact hmono hr fun b hb => hsz b _ (ha b hb)
      · intro b hb; simp only [own']; rw [if_pos (ha b hb), if_pos hb]
  · exact .ptr H.length 0 0 w.heap.size 0 cs.length _ hloc (Nat.le_refl _) (fun _ => rfl) .nil
  · exact ⟨hE.size, fun _ _ _ h => h, hE.loc, fun b hb => ⟨(hE.fixed b hb).1, fun _ => rfl, by rw [hkeep b ⟨_, hb, by simp⟩]; exact hb⟩, hE.tape, hE.os, hE.out⟩

end Go.Proofs.Ytglemgdlkddjhaa.Vm
