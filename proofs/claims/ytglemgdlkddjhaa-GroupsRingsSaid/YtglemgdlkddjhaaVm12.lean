/-
The value machine, part 12: parts of lists, lists that are made, appended to.
-/
import Derived.Test.YtglemgdlkddjhaaVm11
namespace Go.Proofs.Ytglemgdlkddjhaa.Vm
open Go

section
variable {P : Program} {w : World} {G : Gh} {own : Nat → Option Place} {H : Heap}

theorem sliceBound_run {k : IntKind} {i : Int} {y : Nat} {code : BoundsCode} (h0 : 0 ≤ i) (h1 : i ≤ y) : (Instr.sliceBound (.int k i) y code).run P w = .ok i.toNat w := by
  simp [Instr.sliceBound, asIntOf, h0, h1]

/-- The bounds as they stand: l and h, where they are given. -/
def Bnd (v : Option Value) (n : Nat) (d : Nat) : Prop := (v = none ∧ n = d) ∨ ∃ k i, v = some (.int k i) ∧ 0 ≤ i ∧ i.toNat = n

theorem sliceBounds_run {isSlice : Bool} {len cap l h : Nat} {lo hi : Option Value} (hl : Bnd lo l 0) (hh : Bnd hi h len) (h1 : l ≤ h) (h2 : h ≤ cap) :
    (Instr.sliceBounds isSlice len cap lo hi none).run P w = .ok (l, h, cap) w := by
  rcases hl with ⟨rfl, rfl⟩ | ⟨k, i, rfl, hi0, hi1⟩ <;> rcases hh with ⟨rfl, rfl⟩ | ⟨k', i', rfl, hj0, hj1⟩
  · simp [Instr.sliceBounds]
  · have : i' ≤ (cap : Int) := by omega
    simp [Instr.sliceBounds, sliceBound_run hj0 this, hj1]
  · have : i ≤ (h : Int) := by omega
    simp [Instr.sliceBounds, sliceBound_run hi0 this, hi1]
  · have a1 : i' ≤ (cap : Int) := by omega
    have a2 : i ≤ (h : Int) := by omega
    simp [Instr.sliceBounds, sliceBound_run hj0 a1, hj1, sliceBound_run hi0 a2, hi1]

theorem slice_str_post (hok : Ok w G own H) {t : TypeId} (hu : P.underlying t = some .string) {s : List UInt8} {c : Value} {bl : List Nat} (hr : RepL w G [.str s] [c] bl) {lo hi : Option Value} {l h : Nat} (hl : Bnd lo l 0) (hh : Bnd hi h s.length) (h1 : l ≤ h) (h2 : h ≤ s.length) :
    DoneV ((Instr.sliceAt t c lo hi none).run P w) (Post w G own (.str ((s.take h).drop l)) H) := by
  obtain ⟨b, cs', rfl, hcs, _⟩ := hr.str_inv
  cases hcs
  have hs : b.data.toList.length = b.size := by rw [Array.length_toList]; rfl
  rw [hs] at hh h2
  refine ⟨.string (b.extract l h), w, ?_, post_plain hok (.mkStr _ ?_)⟩
  · simp only [Instr.sliceAt, Sem.run_bind, run_underlying hu, Result.andThen_ok, Instr.slice, Option.isSome_none, Bool.false_eq_true, if_false, sliceBounds_run hl hh h1 h2, Sem.run_pure]
  · rw [ByteArray.data_extract, Array.toList_extract]; simp [List.extract, List.drop_take]

theorem slice_sl_post (hok : Ok w G own H) {t e : TypeId} {sz : Nat} (hu : P.underlying t = some (.slice e)) (hsz : (P.info? e).map (·.size) = some sz)
    {o : Bool} {xs : List (List V)} {c : Value} {bl : List Nat} (hr : RepL w G [.sl o sz xs] [c] bl) {lo hi : Option Value} {l h : Nat} (hl : Bnd lo l 0) (hh : Bnd hi h xs.length) (h1 : l ≤ h) (h2 : h ≤ xs.length) :
    DoneV ((Instr.sliceAt t c lo hi none).run P w) (Post w G own (.sl false sz ((xs.take h).drop l)) H) := by
  obtain ⟨c', cs', b1, b2, hcs, _, _, _, hcase⟩ := hr.sl_inv
  cases hcs
  rcases hcase with ⟨rfl, rfl⟩ | ⟨a, cap, acs, rfl, hcap, hia, hri, hz⟩
  · have : h = 0 := by simpa using h2
    subst this
    have : l = 0 := by omega
    subst this
    refine ⟨.slice none 0 0, w, ?_, post_plain hok (by simpa using RepI.slnil sz .nil)⟩
    have hh' : Bnd hi 0 0 := hh
    simp only [Instr.sliceAt, Sem.run_bind, run_underlying hu, Result.andThen_ok, Instr.slice, sliceBounds_run hl hh' h1 (Nat.le_refl 0), Sem.run_pure, run_sizeOf hsz]
    simp
  · have hrun : ∀ r, r = (if cap = l then some a else some (a.add (l * sz))) → (Instr.sliceAt t (.slice (some a) xs.length cap) lo hi none).run P w = .ok (.slice r (h - l) (cap - l)) w := by
      intro r hrr
      simp only [Instr.sliceAt, Sem.run_bind, run_underlying hu, Result.andThen_ok, Instr.slice, sliceBounds_run hl hh h1 (Nat.le_trans h2 hcap), Sem.run_pure, run_sizeOf hsz]
      rw [hrr]; simp
    have hlen : ((xs.take h).drop l).length = h - l := by simp; omega
    by_cases hc : cap = l
    · refine ⟨_, w, hrun (some a) (by rw [if_pos hc]), post_plain hok ?_⟩
      have hnil : (xs.take h).drop l = [] := List.eq_nil_of_length_eq_zero (by rw [hlen]; omega)
      rw [← hlen, hnil]
      exact .sl (acs := []) sz [] a _ (by simp) ⟨fun h => absurd rfl h, fun i v hv => by simp at hv⟩ .nil (by simp) .nil
    · refine ⟨_, w, hrun (some (a.add (l * sz))) (by rw [if_neg hc]), post_plain hok ?_⟩
      rw [← hlen]
      refine .sl (acs := (acs.take (h * sz)).drop (l * sz)) sz _ _ _ (fun x hx => hz x (List.mem_of_mem_take (List.mem_of_mem_drop hx))) ((hia.take _).drop _) ?_ (by rw [hlen]; omega) .nil
      rw [flat_cut l h hz]
      exact (hri.take _).drop _

theorem slice_hsl_post (hok : Ok w G own H) {t e : TypeId} {sz : Nat} (hu : P.underlying t = some (.slice e)) (hsz : (P.info? e).map (·.size) = some sz)
    {id ver off len : Nat} {c : Value} {bl : List Nat} (hr : RepL w G [.hsl id ver off len sz] [c] bl) {lo hi : Option Value} {l h : Nat} (hl : Bnd lo l 0) (hh : Bnd hi h len) (h1 : l ≤ h) (h2 : h ≤ len) :
    DoneV ((Instr.sliceAt t c lo hi none).run P w) (Post w G own (if l = len ∧ 0 < len then .sl false sz [] else .hsl id ver (off + l * sz) (h - l) sz) H) := by
  obtain ⟨b, ver', n, bb, cap, cs', hcs, hloc, hv, hc, hb, _⟩ := hr.hsl_inv
  cases hcs
  have hrun : ∀ r, r = (if cap = l then (⟨bb, off, none⟩ : Addr) else ⟨bb, off + l * sz, none⟩) → (Instr.sliceAt t (.slice (some ⟨bb, off, none⟩) len cap) lo hi none).run P w = .ok (.slice (some r) (h - l) (cap - l)) w := by
    intro r hrr
    simp only [Instr.sliceAt, Sem.run_bind, run_underlying hu, Result.andThen_ok, Instr.slice, sliceBounds_run hl hh h1 (Nat.le_trans h2 hc), Sem.run_pure, run_sizeOf hsz, Option.map_some, add_none]
    rw [hrr]; split <;> rfl
  refine ⟨_, w, hrun _ rfl, ?_⟩
  split
  · rename_i hx
    obtain ⟨rfl, hpos⟩ := hx
    have : h - l = 0 := by omega
    rw [this]
    refine post_plain hok (.sl (acs := []) sz [] _ _ (by simp) ⟨fun h => absurd rfl h, fun i v hv => by simp at hv⟩ .nil (by simp) .nil)
  · rename_i hx
    have hcl : cap = l → l * sz = 0 := by
      intro hcl
      have : len = 0 := by
        rcases Nat.eq_zero_or_pos len with h0 | h0
        · exact h0
        · exact absurd ⟨by omega, h0⟩ hx
      have : l = 0 := by omega
      rw [this]; simp
    have haddr : (if cap = l then (⟨bb, off, none⟩ : Addr) else ⟨bb, off + l * sz, none⟩) = ⟨bb, off + l * sz, none⟩ := by
      split
      · rename_i h'; rw [hcl h']; rfl
      · rfl
    rw [haddr]
    refine post_same hok (.hsl id ver _ (h - l) sz b ver' n bb (cap - l) hloc hv (by omega) (fun e => ?_) .nil)
    obtain ⟨q1, q2⟩ := hb e
    refine ⟨q1, ?_⟩
    have : (cap - l) * sz + l * sz = cap * sz := by rw [← Nat.add_mul]; congr 1; omega
    omega

theorem slice_nilh_post (hok : Ok w G own H) {t e : TypeId} {sz : Nat} (hu : P.underlying t = some (.slice e)) (hsz : ∃ n, (P.info? e).map (·.size) = some n)
    {c : Value} {bl : List Nat} (hr : RepL w G [.nilh sz] [c] bl) {lo hi : Option Value} {l h : Nat} (hl : Bnd lo l 0) (hh : Bnd hi h 0) (h1 : l ≤ h) (h2 : h ≤ 0) :
    DoneV ((Instr.sliceAt t c lo hi none).run P w) (Post w G own (.nilh sz) H) := by
  obtain ⟨n, hsz⟩ := hsz
  cases hr with
  | imm _ _ h1 _ => cases h1
  | nilh _ _ =>
    have : h = 0 := by omega
    subst this
    have : l = 0 := by omega
    subst this
    refine ⟨.slice none 0 0, w, ?_, post_same hok (.nilh sz .nil)⟩
    simp only [Instr.sliceAt, Sem.run_bind, run_underlying hu, Result.andThen_ok, Instr.slice, sliceBounds_run hl hh h1 (Nat.le_refl 0), Sem.run_pure, run_sizeOf hsz]
    simp

theorem rep_flat {imm : Nat → Nat → Option Value} {zs : List V} {cz : List Value} (h : RepI imm zs cz) : ∀ n, RepI imm (List.replicate n zs).flatten (List.replicate n cz).flatten
  | 0 => .nil
  | n + 1 => by
    simp only [List.replicate_succ, List.flatten_cons]
    exact RepI.append (rep_flat h n) h

theorem zero_cells (z : Array Value) (n : Nat) : ((Array.range (n * z.size)).map (z[· % z.size]!)).toList = (List.replicate n z.toList).flatten := by
  apply List.ext_getElem?
  intro i
  have hfl : ((List.replicate n z.toList).flatten).length = n * z.size := by simp
  by_cases hi : i < n * z.size
  · have hz : 0 < z.size := by
      rcases Nat.eq_zero_or_pos z.size with h | h
      · rw [h] at hi; simp at hi
      · exact h
    have hm : i % z.size < z.size := Nat.mod_lt _ hz
    have e1 : ((Array.range (n * z.size)).map (z[· % z.size]!)).toList[i]? = some z[i % z.size] := by
      simp [hi]
      rw [getElem!_pos z _ hm]
    rw [e1]
    have : ∀ (n i : Nat), i < n * z.size → ((List.replicate n z.toList).flatten)[i]? = some (z[i % z.size]'(Nat.mod_lt _ hz)) := by
      intro n
      induction n with
      | zero => intro i hi; simp at hi
      | succ n ih =>
        intro i hi
        simp only [List.replicate_succ, List.flatten_cons]
        rcases Nat.lt_or_ge i z.size with h | h
        · rw [List.getElem?_append_left (by simpa using h)]
          simp [Nat.mod_eq_of_lt h, h]
        · rw [List.getElem?_append_right (by simpa using h)]
          simp only [Array.length_toList]
          rw [ih (i - z.size) (by rw [Nat.add_mul] at hi; omega)]
          congr 2
          rw [Nat.mod_eq_sub_mod h]
    rw [this n i hi]
  · rw [List.getElem?_eq_none (by simp; omega), List.getElem?_eq_none (by rw [hfl]; omega)]

theorem makeSl_post (hok : Ok w G own H) {t e : TypeId} {ie : TypeInfo} {z : Value} {zs : List V} (hu : P.underlying t = some (.slice e)) (hi : P.info? e = some ie) (hz : ie.zero = some z) (hzs : z.cells.size = ie.size) (hzp : 0 < ie.size)
    (hzr : RepI G.imm zs z.cells.toList) (k : IntKind) {n : Int} (h0 : 0 ≤ n) (hb : ie.bytes * n ≤ 281474976710656) (h63 : n ≤ 9223372036854775807) (k' : IntKind) :
    DoneV ((Instr.makeSlice t (.int k n) (.int k' n)).run P w) (Post w G own (.fr ie.size (List.replicate n.toNat zs)) H) := by
  have hwrap : IntKind.i64.wrap n = n := by
    simp [IntKind.wrap, IntKind.bits, IntKind.signed]
    omega
  have hzl : zs.length = ie.size := by rw [hzr.length, ← hzs]; rfl
  let cells := (Array.range (n.toNat * ie.size)).map (z.cells[· % z.cells.size]!)
  have hcells : cells.toList = (List.replicate n.toNat z.cells.toList).flatten := by
    have := zero_cells z.cells n.toNat
    rw [hzs] at this
    rw [← this]
    simp only [cells]; rw [hzs]
  have hrun : (Instr.makeSlice t (.int k n) (.int k' n)).run P w = .ok (.slice (some ⟨w.heap.size, 0, none⟩) n.toNat n.toNat) (w.alloc (.cells cells e)) := by
    have hnb : ¬ (281474976710656 < ie.bytes * n) := by omega
    have hng : ¬ n < 0 := by omega
    unfold Instr.makeSlice
    have hti : (typeInfo e).run P w = .ok ie w := by simp [typeInfo, hi]
    simp only [Sem.run_bind, run_underlying hu, Result.andThen_ok, asInt, asIntOf, Sem.run_pure, hti, hwrap, Sem.run_ite, run_askRoom, run_sizeOf (show (P.info? e).map (·.size) = some ie.size by rw [hi]; rfl)]
    rw [if_neg (by simp [hng]; omega)]
    by_cases hn0 : n.toNat * ie.size = 0
    · rw [if_pos hn0]
      have : cells = (Array.range (n.toNat * ie.size)).map (fun x => (#[] : Array Value)[x % (#[] : Array Value).size]!) := by
        simp only [cells]; rw [hn0]; apply Array.ext'; simp
      rw [this]
      simp [newRow, hn0]
    · rw [if_neg hn0]
      simp [zeroValue, typeInfo, hi, hz, newRow, cells]
  have hnew : (w.alloc (.cells cells e)).heap = w.heap.push (.cells cells e) := rfl
  refine ⟨_, _, hrun, ?_⟩
  have hflat := rep_flat hzr n.toNat
  refine ⟨_, _, [w.heap.size], hok.pushed (w' := w.alloc (.cells cells e)) hnew (fun _ => none) (fun _ _ h => by cases h) (some .res), ?_, by simp, fun b hb => ?_, ?_⟩
  · have himm : addImm G.imm w.heap.size (fun _ => none) = G.imm := by
      funext b o
      by_cases hb : b = w.heap.size
      · subst hb; rw [addImm_same, hok.fresh]
      · rw [addImm_ne _ _ _ hb]
    rw [himm]
    have hlen : (List.replicate n.toNat zs).length = n.toNat := List.length_replicate
    have := RepL.fr (w := w.alloc (.cells cells e)) (G := ⟨G.imm, G.loc⟩) (vs := []) (cs := []) (bl := []) ie.size (List.replicate n.toNat zs) w.heap.size n.toNat cells e
      (by intro x hx; rw [List.eq_of_mem_replicate hx]; exact hzl) (heap_new hnew) (fun o => hok.fresh o) ⟨[], by rw [hcells, List.append_nil]⟩ hflat (by rw [hlen]; exact Nat.le_refl _)
      (by simp [cells]) .nil
    rwa [hlen] at this
  · rw [List.mem_singleton.1 hb, setO_same]
  · have := Ext.pushed hok (w' := w.alloc (.cells cells e)) hnew rfl rfl rfl (fun _ => none) (some .res) []
    rwa [List.append_nil] at this

theorem Post.slice {v0 : Nat} {w' : World} {b : Nat} {vs : List V} {k sz : Nat} (h : Post w G own (.ptr v0 0 0) (H ++ [.cells 0 vs]) (.pointer (some ⟨b, 0, none⟩)) w') (hv : v0 = H.length) (hk : vs.length = k * sz) :
    Post w G own (.hsl v0 0 0 k sz) (H ++ [.cells 0 vs]) (.slice (some ⟨b, 0, none⟩) k k) w' := by
  subst hv
  obtain ⟨G', own', bl, h1, h2, h3, h4, h5⟩ := h
  obtain ⟨b', ver', n', bb, cs', hcs, hl, hv, hb, hr2⟩ := h2.ptr_inv
  have hbl := hr2
  obtain ⟨hc0, rfl⟩ := List.cons.inj hcs
  have hbb : bb = b := by
    have := congrArg (fun c : Value => match c with | .pointer (some a) => a.block | _ => 0) hc0
    exact this.symm
  subst hbb
  obtain ⟨b1, c, e, bl1, k1, k2, k3, k4, k5, k6⟩ := h1.obj H.length (.cells 0 vs) (by simp)
  rw [hl] at k1
  obtain ⟨rfl, rfl, rfl⟩ : b' = b1 ∧ ver' = 0 ∧ n' = c.size := by
    simp only [Option.some.injEq, Prod.mk.injEq] at k1; exact k1
  have := hb rfl
  subst this
  exact ⟨G', own', bl, h1, .hsl H.length 0 0 k sz bb 0 c.size bb k hl (Nat.le_refl _) (Nat.le_refl _) (fun _ => ⟨rfl, by omega⟩) hr2, h3, h4, h5⟩

theorem makeH_post (hok : Ok w G own H) {t e : TypeId} {ie : TypeInfo} {z : Value} {zs : List V} (hu : P.underlying t = some (.slice e)) (hi : P.info? e = some ie) (hz : ie.zero = some z) (hzs : z.cells.size = ie.size) (hzp : 0 < ie.size)
    (hzr : ∀ w G, RepL w G zs z.cells.toList []) (k : IntKind) {n : Int} (h0 : 0 ≤ n) (hb : ie.bytes * n ≤ 281474976710656) (h63 : n ≤ 9223372036854775807) (k' : IntKind) :
    DoneV ((Instr.makeSlice t (.int k n) (.int k' n)).run P w) (Post w G own (.hsl H.length 0 0 n.toNat ie.size) (H ++ [.cells 0 (List.replicate n.toNat zs).flatten])) := by
  have hwrap : IntKind.i64.wrap n = n := by
    simp [IntKind.wrap, IntKind.bits, IntKind.signed]
    omega
  have hzl : zs.length = ie.size := by rw [(hzr w G).length, ← hzs]; rfl
  let cells := (Array.range (n.toNat * ie.size)).map (z.cells[· % z.cells.size]!)
  have hcells : cells.toList = (List.replicate n.toNat z.cells.toList).flatten := by
    have := zero_cells z.cells n.toNat
    rw [hzs] at this
    rw [← this]
    simp only [cells]; rw [hzs]
  have hrun : (Instr.makeSlice t (.int k n) (.int k' n)).run P w = .ok (.slice (some ⟨w.heap.size, 0, none⟩) n.toNat n.toNat) (w.alloc (.cells cells e)) := by
    have hnb : ¬ (281474976710656 < ie.bytes * n) := by omega
    have hng : ¬ n < 0 := by omega
    unfold Instr.makeSlice
    have hti : (typeInfo e).run P w = .ok ie w := by simp [typeInfo, hi]
    simp only [Sem.run_bind, run_underlying hu, Result.andThen_ok, asInt, asIntOf, Sem.run_pure, hti, hwrap, Sem.run_ite, run_askRoom, run_sizeOf (show (P.info? e).map (·.size) = some ie.size by rw [hi]; rfl)]
    rw [if_neg (by simp [hng]; omega)]
    by_cases hn0 : n.toNat * ie.size = 0
    · rw [if_pos hn0]
      have : cells = (Array.range (n.toNat * ie.size)).map (fun x => (#[] : Array Value)[x % (#[] : Array Value).size]!) := by
        simp only [cells]; rw [hn0]; apply Array.ext'; simp
      rw [this]
      simp [newRow, hn0]
    · rw [if_neg hn0]
      simp [zeroValue, typeInfo, hi, hz, newRow, cells]
  refine ⟨_, _, hrun, ?_⟩
  have hrep : ∀ m : Nat, RepL w G (List.replicate m zs).flatten (List.replicate m z.cells.toList).flatten [] := by
    intro m
    induction m with
    | zero => exact .nil
    | succ m ih =>
      rw [List.replicate_succ, List.replicate_succ, List.flatten_cons, List.flatten_cons]
      have := RepL.append ih (hzr w G)
      simpa using this
  refine Post.slice (post_obj (w' := w.alloc (.cells cells e)) hok (cs := (List.replicate n.toNat z.cells.toList).flatten) (t := e) (by rw [← hcells]; rfl) rfl rfl rfl (hrep n.toNat) List.nodup_nil (fun _ h => by cases h)) rfl ?_
  rw [List.length_flatten, List.map_replicate, List.sum_replicate_nat, hzl]

theorem post_fr {w w' : World} {G : Gh} {own : Nat → Option Place} {H : Heap} (hok : Ok w G own H) {sz : Nat} {xs : List (List V)} {acs : List Value} {t : TypeId} {cap : Nat}
    (e : w'.heap = w.heap.push (.cells acs.toArray t)) (ht : w'.tape = w.tape) (hos : w'.os = w.os) (hout : w'.output = w.output)
    (hz : ∀ x ∈ xs, x.length = sz) (hr : RepI G.imm xs.flatten acs) (hc : xs.length ≤ cap) (hcap : cap * sz ≤ acs.length) :
    Post w G own (.fr sz xs) H (.slice (some ⟨w.heap.size, 0, none⟩) xs.length cap) w' := by
  refine ⟨_, _, [w.heap.size], hok.pushed (w' := w') e (fun _ => none) (fun _ _ h => by cases h) (some .res), ?_, by simp, fun b hb => ?_, ?_⟩
  · have himm : addImm G.imm w.heap.size (fun _ => none) = G.imm := by
      funext b o
      by_cases hb : b = w.heap.size
      · subst hb; rw [addImm_same, hok.fresh]
      · rw [addImm_ne _ _ _ hb]
    rw [himm]
    exact RepL.fr (w := w') (G := ⟨G.imm, G.loc⟩) (vs := []) (cs := []) (bl := []) sz xs w.heap.size cap acs.toArray t
      hz (heap_new e) (fun o => hok.fresh o) ⟨[], by simp⟩ hr hc (by simpa using hcap) .nil
  · rw [List.mem_singleton.1 hb, setO_same]
  · have := Ext.pushed hok (w' := w') e ht hos hout (fun _ => none) (some .res) []
    rwa [List.append_nil] at this

theorem buildFr_post (hok : Ok w G own H) {t e : TypeId} {ie : TypeInfo} {z : Value} (hu : P.underlying t = some (.slice e)) (hi : P.info? e = some ie) (hz : ie.zero = some z) (hzs : 0 < ie.size)
    {vs : List V} {xs : List (List V)} {cs : List Value} {bl : List Nat} (hr : RepL w G vs cs bl) (he : elems ie.size vs = some xs) (hsm : cs.length * ie.size ≤ 2 ^ 24) (hpos : 0 < xs.length) :
    DoneV ((Instr.buildSlice t cs.length ((cs.zipIdx 0).map fun x => (x.2, x.1)).toArray).run P w) (Post w G own (.fr ie.size xs) H) := by
  obtain ⟨h1, h2, h3, h4⟩ := elems_rep hr he
  have hpos : ¬ cs.length = 0 := by omega
  have hfill := Great.fill_whole hzs cs ((Array.range (cs.length * ie.size)).map (z.cells[· % z.cells.size]!)) h3 (by simp)
  have hrun := run_buildSlice (P := P) w t e cs.length ((cs.zipIdx 0).map fun x => (x.2, x.1)).toArray _ ie z hu hi hz (by omega) (by
    intro h0; rcases Nat.mul_eq_zero.1 h0 with h | h <;> omega) hfill
  refine ⟨_, _, hrun, ?_⟩
  have := post_fr (w := w) (w' := w.alloc (.cells (cs.flatMap fun v => v.cells.toList).toArray e)) hok (sz := ie.size) (xs := xs) (acs := cs.flatMap fun v => v.cells.toList) (t := e) (cap := cs.length)
    rfl rfl rfl rfl h2 h1 (by omega) (by rw [← h1.length, flat_len h2, h4]; exact Nat.le_refl _)
  rwa [h4] at this
end
end Go.Proofs.Ytglemgdlkddjhaa.Vm
