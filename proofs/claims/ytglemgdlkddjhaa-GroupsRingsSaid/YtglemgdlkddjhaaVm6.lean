/-
The value machine, part 6: objects that are read, written, made of fresh lists.
-/
import Derived.Test.YtglemgdlkddjhaaVm5
namespace Go.Proofs.Ytglemgdlkddjhaa.Vm
open Go

theorem Ok.replace {w w' : World} {G G' : Gh} {own own' : Nat → Option Place} {H : Heap} (h : Ok w G own H) {id : Nat} {ob : Obj}
    (himm : ∀ b o v, G.imm b o = some v → G'.imm b o = some v)
    (himm' : ∀ b o v, G'.imm b o = some v → ∃ c e f, w'.heap[b]? = some (.cells c e f) ∧ c[o]? = some v)
    (hsize : ∀ b p, own' b = some p → b < w'.heap.size)
    (hloc : ∀ (i b v n : Nat), G.loc[i]? = some (b, v, n) → ∃ b' v' n' : Nat, G'.loc[i]? = some (b', v', n') ∧ v ≤ v' ∧ (v = v' → b' = b ∧ n' = n))
    (hlen : G'.loc.length = G.loc.length) (hloc' : ∀ j, j ≠ id → G'.loc[j]? = G.loc[j]?)
    (hb : ∀ j b, j ≠ id → (own b = some (.obj j) ∨ own b = some (.cell j)) → w'.heap[b]? = w.heap[b]? ∧ (∀ o, G'.imm b o = G.imm b o) ∧ own' b = own b)
    (hob : ObjOk w' G' own' id ob) : Ok w' G' own' (H.set id ob) := by
  refine ⟨himm', hsize, by rw [List.length_set, hlen]; exact h.len, fun j obj hj => ?_⟩
  by_cases e : j = id
  · subst e
    rw [List.getElem?_set] at hj
    split at hj
    · split at hj
      · cases hj; exact hob
      · cases hj
    · exact absurd rfl ‹_›
  · rw [List.getElem?_set, if_neg (by omega)] at hj
    exact (h.obj j obj hj).mono himm hloc (hloc' j e) (hb j · e)

/-- An object's cells are written, where it lies. -/
theorem Ok.put {w : World} {G : Gh} {own : Nat → Option Place} {H : Heap} (h : Ok w G own H) {id ver b : Nat} {vs vs' : List V} {c c' : Array Value} {e : TypeId} {bl' blr : List Nat}
    (hloc : G.loc[id]? = some (b, ver, c.size)) (hown : own b = some (.obj id)) (hw : w.heap[b]? = some (.cells c e (0, 0))) (hn0 : ∀ o, G.imm b o = none)
    (hsz : c'.size = c.size) (hle : vs'.length ≤ c'.size) (hr : RepL w G vs' (c'.toList.take vs'.length) bl') (hn : bl'.Nodup) (ho : ∀ x ∈ bl', own x = some .arg ∨ own x = some (.cell id))
    (hrr : ∀ x ∈ blr, own x = some (.cell id)) (hd : ∀ x ∈ blr, x ∉ bl') :
    ∃ own', Ok (w.setRow b c') G own' (H.set id (.cells ver vs')) ∧ Ext w G own (w.setRow b c') G own' ∧ ∀ x ∈ blr, own' x = some .res := by
  let own' : Nat → Option Place := fun x => if x ∈ bl' then some (.cell id) else if x ∈ blr then some .res else if own x = some .arg ∨ own x = some (.cell id) then none else own x
  have hkeep : ∀ x, own x ≠ some .arg → own x ≠ some (.cell id) → own' x = own x := by
    intro x h1 h2
    simp only [own']
    rw [if_neg (fun hx => by rcases ho x hx with h' | h' <;> contradiction), if_neg (fun hx => h2 (hrr x hx)), if_neg (fun hx => by rcases hx with h' | h' <;> contradiction)]
  have hbs : ∀ x, own x ≠ some (.obj id) → x ≠ b := by intro x hx e; rw [e] at hx; exact hx hown
  refine ⟨own', ?_, ?_, ?_⟩
  · refine h.replace (fun _ _ _ h => h) ?_ ?_ (loc_refl G) rfl (fun _ _ => rfl) ?_ ?_
    · intro x o v hv
      have hne : x ≠ b := by intro e; rw [e, hn0 o] at hv; cases hv
      rw [setRow_other w b x c' hne]; exact h.imm x o v hv
    · intro x p hp
      rw [setRow_size]
      simp only [own'] at hp
      split at hp
      · rename_i hx; rcases ho x hx with h' | h' <;> exact h.size _ _ h'
      · split at hp
        · rename_i hx; exact h.size _ _ (hrr x hx)
        · split at hp
          · cases hp
          · exact h.size _ _ hp
    · intro j x hj hx
      have h1 : own x ≠ some .arg := by rcases hx with hx | hx <;> rw [hx] <;> simp
      have h2 : own x ≠ some (.cell id) := by rcases hx with hx | hx <;> rw [hx] <;> simp <;> omega
      have h3 : own x ≠ some (.obj id) := by rcases hx with hx | hx <;> rw [hx] <;> simp <;> omega
      exact ⟨setRow_other w b x c' (hbs x h3), fun _ => rfl, hkeep x h1 h2⟩
    · refine ⟨b, c', e, bl', by rw [hsz]; exact hloc, ?_, setRow_heap w b c c' e (0, 0) hw, hn0, hle, ?_, hn, fun x hx => ?_⟩
      · rw [hkeep b (by rw [hown]; simp) (by rw [hown]; simp)]; exact hown
      · refine hr.mono (fun _ _ _ h => h) (loc_refl G) fun x hx => ⟨setRow_other w b x c' (hbs x ?_), fun _ => rfl⟩
        rcases ho x hx with h' | h' <;> rw [h'] <;> simp
      · simp only [own']; rw [if_pos hx]
  · refine ⟨by rw [setRow_size]; exact Nat.le_refl _, fun _ _ _ h => h, loc_refl G, fun x hx => ?_, rfl, rfl, rfl⟩
    exact ⟨setRow_other w b x c' (hbs x (by rw [hx]; simp)), fun _ => rfl, by rw [hkeep x (by rw [hx]; simp) (by rw [hx]; simp)]; exact hx⟩
  · intro x hx; simp only [own']; rw [if_neg (hd x hx), if_pos hx]

/-! ### Cells of objects and of lists -/

theorem getCells_some {H : Heap} {id ver : Nat} {cs : List V} (h : getCells H id ver = some cs) : H[id]? = some (.cells ver cs) := by
  unfold getCells at h
  split at h
  · rename_i v c e
    split at h
    · rename_i hv; subst hv; cases h; exact e
    · cases h
  · cases h

theorem cut_some {cs l : List V} {off n : Nat} (h : cut cs off n = some l) : off + n ≤ cs.length ∧ l = (cs.drop off).take n ∧ l.length = n ∧ cs = cs.take off ++ l ++ cs.drop (off + n) := by
  unfold cut at h
  split at h
  · rename_i hl
    cases h
    refine ⟨hl, rfl, by simp; omega, ?_⟩
    rw [List.append_assoc, ← List.drop_drop, List.take_append_drop, List.take_append_drop]
  · cases h

def mkC : Bool → List Value → Value
  | true, l => .agg l.toArray
  | false, l => l.headD undef

theorem mk_rep {w : World} {G : Gh} {agg : Bool} {l : List V} {cs : List Value} {bl : List Nat} {v : V} (h : RepL w G l cs bl) (e : mk agg l = some v) : RepL w G [v] [mkC agg cs] bl := by
  unfold mk at e
  split at e
  · cases e; simpa [mkC] using RepL.agg h (RepL.nil (w := w) (G := G))
  · cases e; obtain ⟨c, rfl⟩ := h.single; exact h
  · cases e

theorem mk_repI {imm : Nat → Nat → Option Value} {agg : Bool} {l : List V} {cs : List Value} {v : V} (h : RepI imm l cs) (e : mk agg l = some v) (ha : agg = false) : RepI imm [v] [mkC agg cs] := by
  unfold mk at e
  split at e
  · cases ha
  · cases e; have := h.length
    match cs, this with
    | [c], _ => exact h
  · cases e

def aggOf (P : Program) (t : TypeId) : Bool := match P.underlying t with
  | some (.struct _) | some (.array _ _) => true
  | _ => false

section
variable {P : Program}
theorem run_isAgg {t : TypeId} {d : TypeDesc} (hu : P.underlying t = some d) (w : World) : (isAgg t).run P w = .ok (aggOf P t) w := by
  unfold isAgg aggOf
  simp only [Sem.run_bind, run_underlying hu, Result.andThen_ok, hu]
  cases d <;> rfl

theorem run_sizeOf {t : TypeId} {n : Nat} (hs : (P.info? t).map (·.size) = some n) (w : World) : (sizeOf t).run P w = .ok n w := by
  cases hi : P.info? t with
  | none => rw [hi] at hs; cases hs
  | some i => rw [hi] at hs; cases hs; simp [sizeOf, typeInfo, hi]

theorem run_loadVar {w : World} {t : TypeId} {d : TypeDesc} {n : Nat} (hu : P.underlying t = some d) (hs : (P.info? t).map (·.size) = some n) (a : Addr) (cs : List Value) (hl : cs.length = n)
    (hc : ∀ j v, cs[j]? = some v → w.cell? (a.add j) = some v) (hg : aggOf P t = false → n = 1) : (loadVar t a).run P w = .ok (mkC (aggOf P t) cs) w := by
  unfold loadVar
  simp only [Sem.run_bind, run_isAgg hu, Result.andThen_ok]
  cases hagg : aggOf P t with
  | true =>
    simp only [if_true, Sem.run_bind, run_sizeOf hs, Result.andThen_ok]
    rw [← hl, run_loadCells_list w a cs hc]; rfl
  | false =>
    have h1 := hg hagg
    subst h1
    match cs, hl with
    | [c], _ =>
      have := hc 0 c rfl
      rw [show a.add 0 = a from rfl] at this
      simp [this, mkC]
end

theorem cell_of_heap {w : World} {b off : Nat} {c : Array Value} {e : TypeId} {z : Nat × Nat} (hw : w.heap[b]? = some (.cells c e z)) {cs : List Value} (hc : ∀ j v, cs[j]? = some v → c[off + j]? = some v) :
    ∀ j v, cs[j]? = some v → w.cell? ((⟨b, off, none⟩ : Addr).add j) = some v := by
  intro j v hv
  have : (⟨b, off, none⟩ : Addr).add j = ⟨b, off + j, none⟩ := by unfold Addr.add; split <;> simp_all
  rw [this]
  simp only [World.cell?, hw]
  simpa using hc j v hv

/-- Parts of an object's cells, as they lie in memory. -/
theorem obj_part {w : World} {G : Gh} {cs l : List V} {c : Array Value} {bl : List Nat} {off n : Nat} (hr : RepL w G cs (c.toList.take cs.length) bl) (hle : cs.length ≤ c.size) (hc : cut cs off n = some l) :
    ∃ b1 b2 b3, bl = b1 ++ (b2 ++ b3) ∧ RepL w G (cs.take off) (c.toList.take off) b1 ∧ RepL w G l ((c.toList.drop off).take n) b2 ∧ RepL w G (cs.drop (off + n)) ((c.toList.take cs.length).drop (off + n)) b3 ∧
      ((c.toList.drop off).take n).length = n ∧ (∀ j v, ((c.toList.drop off).take n)[j]? = some v → c[off + j]? = some v) := by
  obtain ⟨h1, h2, h3, h4⟩ := cut_some hc
  have hcl : c.toList.length = c.size := Array.length_toList
  rw [h4, List.append_assoc] at hr
  obtain ⟨b1, b', e1, r1, r'⟩ := RepL.split _ hr
  obtain ⟨b2, b3, e2, r2, r3⟩ := RepL.split _ r'
  have hL : (cs.take off ++ (l ++ cs.drop (off + n))).length = cs.length := by rw [← List.append_assoc, ← h4]
  have ht : (cs.take off).length = off := by rw [List.length_take]; omega
  rw [hL, ht] at r1 r2 r3
  rw [h3] at r2 r3
  refine ⟨b1, b2, b3, by rw [e1, e2], ?_, ?_, ?_, ?_, ?_⟩
  · rw [List.take_take, Nat.min_eq_left (by omega)] at r1; exact r1
  · rw [List.drop_take, List.take_take, Nat.min_eq_left (by omega)] at r2; exact r2
  · rw [List.drop_drop] at r3; exact r3
  · rw [List.length_take, List.length_drop, hcl]; omega
  · intro j v hv
    rw [List.getElem?_take] at hv
    split at hv
    · rw [List.getElem?_drop, Array.getElem?_toList] at hv; exact hv
    · cases hv

end Go.Proofs.Ytglemgdlkddjhaa.Vm
