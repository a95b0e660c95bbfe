/-
Programs as the language has them, part 8: the program's functions that take the places away.
Programs as the language has them, part 9: Strip.
ParseStrips: the law, walked.
Values as a law is handed them: structs and slices.
Readers of structs, as a law is handed them. By a program (mkrd.py).
-/
import Derived.Test.YtpamkokbajmjkaaZ3
set_option linter.unusedVariables false
set_option linter.unusedSimpArgs false
set_option linter.constructorNameAsVariable false
namespace Go.Proofs.Ytpamkokbajmjkaa.Vm
open Go
set_option linter.unusedSimpArgs false

theorem fits_one {n b : Nat} (h : n * b ≤ 140737488355328) (hb : 0 < b := by decide) : fits n b := by
  refine ⟨h, ?_⟩
  have : n * 1 ≤ n * b := Nat.mul_le_mul_left _ hb
  omega
theorem map_take_next {α β : Type} {f : α → β} {l : List α} {i : Nat} {x : α} (h : l[i]? = some x) : (l.take (i + 1)).map f = (l.take i).map f ++ [f x] := by
  rw [List.take_add_one, h]; simp
theorem take_full {α : Type} {l : List α} {i : Nat} (h : l.length ≤ i) : l.take i = l := List.take_of_length_le h
theorem Has.set_same {G : Heap} {a v : Nat} {cs : List V} (h : a < G.length) : Has (G.set a (.cells v cs)) a v cs := ⟨by simpa using h, gc_same h⟩
theorem Has.set_ne {G : Heap} {a b v : Nat} {cs : List V} {o : Obj} (h : Has G b v cs) (hn : a ≠ b) : Has (G.set a o) b v cs := ⟨by simpa using h.lt, by rw [gc_ne hn]; exact h.get⟩
theorem Has.gcs {G : Heap} {a v : Nat} {cs : List V} (h : Has G a v cs) (u : Nat) (ds : List V) : getCells (G.set a (.cells u ds)) a u = some ds := gc_same h.lt
def paZ (x : Pa) : List V := paC (paN false x)
def rhZ (x : Rh) : List V := rhC (rhN false x)
def clZ (x : Cl) : List V := clC (clN false x)
def biZ (x : Bi) : List V := biC (biN false x)
def alZ (x : Al) : List V := alC (alN false x)
def exZ (x : Ex) : List V := exC (exN false x)

@[go_sem] theorem paZ_len {x : Pa} : (paZ x).length = 6 := paC_len
@[go_sem] theorem paZ_take {x : Pa} : List.take 6 (paZ x) = paZ x := paC_take
@[go_sem] theorem paZ_takeA {x : Pa} {l : List V} : List.take 6 (paZ x ++ l) = paZ x := paC_takeA
@[go_sem] theorem paZ_dropA {x : Pa} {l : List V} : List.drop 6 (paZ x ++ l) = l := paC_dropA
@[go_sem] theorem paZ_inl {x : Pa} : (paZ x).map inl0 = paZ x := paC_inl
@[go_sem] theorem paZ_strip {x : Pa} : (paZ x).map strip0 = paZ x := paC_strip
@[go_sem] theorem paZ_p1 {x : Pa} : (paZ x).all plain1 = true := paC_p1
@[go_sem] theorem paC_take7 {x : Pa} {v : V} : List.take 7 (paC x ++ [v]) = paC x ++ [v] := List.take_of_length_le (by rw [List.length_append, paC_len]; exact Nat.le_refl _)
@[go_sem] theorem paC_get6 {x : Pa} {v : V} : (paC x ++ [v])[6]? = some v := by rw [List.getElem?_append_right (by rw [paC_len]; exact Nat.le_refl _), paC_len]; rfl
@[go_sem] theorem paZ_pc {x : Pa} : (paZ x).all plainC = true := paC_pc
@[go_sem] theorem paZ_set {x : Pa} {u v : V} : (paZ x ++ [u]).set 6 v = paZ x ++ [v] := by rw [List.set_append_right _ _ (by rw [paZ_len]; exact Nat.le_refl _), paZ_len]; rfl
theorem paZ_eq (k : Int) (s : Str) (n : Int) (xs : List Pa) (l c : Int) : paZ (.mk k s n xs l c) = [.int .i64 k, .str s, .int .i64 n, .sl false 6 (xs.map paZ), .int .i64 0, .int .i64 0] := by
  unfold paZ; rw [paN_eq, paC_eq, List.map_map]; rfl
theorem barePats_T (n : Nat) : ∀ (xs : List Pa), SizeOf.sizeOf xs ≤ n → LB 72 PaB xs → Pu 48 [.sl false 6 (xs.map paC)] (.sl true 6 (xs.map paZ)) := by
  induction n with
  | zero => intro xs h; cases xs <;> simp at h
  | succ n ih =>
    intro xs hn hx
    refine ⟨?_, rfl⟩
    refine T.of0 mix c_parse_barePats rfl ?_
    unfold v_parse_barePats
    simp only [go_sem, ↓reduceIte]
    have hb := hx.lt
    refine WP.range (n := xs.length) (fun i E F => ∃ ex, E = ⟨(3, .sl true 6 ((xs.take i).map paZ)) :: (6, .sl false 6 (xs.map paC)) :: (7, .int .i64 xs.length) :: (8, .int .i64 i) :: ex, .u⟩) ⟨_, rfl⟩ ?_
    rintro i E F hi ⟨ex, rfl⟩
    have hw := inc64 (i := i) (by omega)
    simp only [go_sem, ↓reduceIte, ↓ex_map, ↓run_addW, hw, lt_len]
    refine ⟨fun hlt => ?_, fun hge => by rw [take_full (by omega)]⟩
    obtain ⟨⟨k, s, m, as', l, c⟩, hg, hxm⟩ := get_lt hlt
    have hsz := size_get hg
    simp only [Pa.mk.sizeOf_spec] at hsz
    cases hx.2 _ hxm with | mk h1 h2 =>
    have hT := ih as' (by omega) ⟨h1, h2⟩
    simp only [paC_eq, go_sem, ↓reduceIte, ↓ex_map, ↓run_addW, hw, lt_len, hg, gc_app0, gc_appN, set_app0, set_appN, put]
    refine ⟨_, _, hT.at rfl _, ?_⟩
    simp only [paC_eq, go_sem, ↓reduceIte, ↓ex_map, ↓run_addW, hw, lt_len, hg, gc_app0, gc_appN, set_app0, set_appN, put]
    have hfit : fits (i + 1) 72 := fits_one (by have := hx.1; have : (i + 1) * 72 ≤ xs.length * 72 := Nat.mul_le_mul_right _ (by omega); omega)
    refine ⟨by rwa [List.length_take, Nat.min_eq_left (by omega)], hlt, ?_⟩
    rw [map_take_next hg, paZ_eq]
    exact ⟨_, rfl⟩

theorem alZ_eq (q : Pa) (rs : List Rh) : alZ (.mk q rs) = paZ q ++ [.sl false 10 (rs.map rhZ)] := by
  unfold alZ; rw [alN_eq, alC_eq, List.map_map]; rfl
theorem rhZ_eq (g : List Ex) (b : Ex) : rhZ (.mk g b) = .sl false 9 (g.map exZ) :: exZ b := by
  unfold rhZ; rw [rhN_eq, rhC_eq, List.map_map]; rfl
theorem clZ_eq (ps : List Pa) (rs : List Rh) : clZ (.mk ps rs) = [.sl false 6 (ps.map paZ), .sl false 10 (rs.map rhZ)] := by
  unfold clZ; rw [clN_eq, clC_eq, List.map_map, List.map_map]; rfl
theorem biZ_eq (s : Str) (cs : List Cl) (l c : Int) : biZ (.mk s cs l c) = [.str s, .sl false 2 (cs.map clZ), .int .i64 0, .int .i64 0] := by
  unfold biZ; rw [biN_eq, biC_eq, List.map_map]; rfl
theorem exZ_eq (k : Int) (s : Str) (n : Int) (ps : List Str) (xs : List Ex) (al : List Al) (bs : List Bi) (l c : Int) : exZ (.mk k s n ps xs al bs l c) =
    [.int .i64 k, .str s, .int .i64 n, .sl false 1 (ps.map stC), .sl false 9 (xs.map exZ), .sl false 7 (al.map alZ), .sl false 4 (bs.map biZ), .int .i64 0, .int .i64 0] := by
  unfold exZ; rw [exN_eq, exC_eq, List.map_map, List.map_map, List.map_map]; rfl
/-- What a struct without places is answered as. -/
def exR : Ex → V
  | .mk k s n ps xs al bs _ _ => .agg [.int .i64 k, .str s, .int .i64 n, .sl false 1 (ps.map stC), .sl true 9 (xs.map exZ), .sl true 7 (al.map alZ), .sl true 4 (bs.map biZ), .int .i64 0, .int .i64 0]
def PB1 (n : Nat) : Prop := ∀ (x : Ex), SizeOf.sizeOf x ≤ n → ExB x → Pu 20 [.agg (exC x)] (exR x)
def PBR (n : Nat) : Prop := ∀ (xs : List Rh), SizeOf.sizeOf xs ≤ n → LB 168 RhB xs → Pu 49 [.sl false 10 (xs.map rhC)] (.sl true 10 (xs.map rhZ))
def PBB (n : Nat) : Prop := ∀ (xs : List Bi), SizeOf.sizeOf xs ≤ n → LB 56 BiB xs → Pu 47 [.sl false 4 (xs.map biC)] (.sl true 4 (xs.map biZ))
theorem exR_cells (x : Ex) : ∃ cs, exR x = .agg cs ∧ cs.length = 9 ∧ cs.all plain1 = true ∧ cs.map inl0 = exZ x ∧ cs.all plainC = true ∧ cs.all fixP = true := by
  cases x with
  | mk k s n ps xs al bs l c =>
    refine ⟨_, rfl, rfl, rfl, ?_, rfl, rfl⟩
    rw [exZ_eq]; rfl
theorem pb_fit {α : Type} {b : Nat} {p : α → Prop} {l : List α} {i : Nat} (h : LB b p l) (hi : i < l.length) (hb : 0 < b) : fits (i + 1) b :=
  fits_one (by have := h.1; have : (i + 1) * b ≤ l.length * b := Nat.mul_le_mul_right _ (by omega); omega) hb

set_option maxRecDepth 4000 in
theorem pbR_step {n : Nat} (h1 : PB1 n) : PBR (n + 1) := by
  intro xs hn hx
  refine ⟨?_, rfl⟩
  refine T.of0 mix c_parse_bareRhs rfl ?_
  unfold v_parse_bareRhs
  simp only [go_sem, ↓reduceIte]
  have hb := hx.lt
  refine WP.range (n := xs.length) (fun i E F => ∃ ex, E = ⟨(3, .sl true 10 ((xs.take i).map rhZ)) :: (9, .sl false 10 (xs.map rhC)) :: (10, .int .i64 xs.length) :: (11, .int .i64 i) :: ex, .u⟩) ⟨_, rfl⟩ ?_
  rintro i E F hi ⟨ex, rfl⟩
  have hw := inc64 (i := i) (by omega)
  simp only [go_sem, ↓reduceIte, ↓ex_map, ↓run_addW, hw, lt_len]
  refine ⟨fun hlt => ?_, fun hge => by rw [take_full (by omega)]⟩
  obtain ⟨⟨g, b⟩, hg, hxm⟩ := get_lt hlt
  have hsz := size_get hg
  simp only [Rh.mk.sizeOf_spec] at hsz
  cases hx.2 _ hxm with | mk a1 a2 a3 =>
  have hT2 := h1 b (by have := size_pos g; omega) a3
  obtain ⟨cs, e1, e2, e3, e4, e5, e6⟩ := exR_cells b
  rw [e1] at hT2
  simp only [rhC_eq, go_sem, ↓reduceIte, ↓ex_map, ↓run_addW, hw, lt_len, hg, gc_app0, gc_appN, set_app0, set_appN, put]
  refine WP.range (n := g.length) (fun j E G => Has G F.length 0 (rhC (.mk g b)) ∧ ∃ ex, E = ⟨(3, .sl true 10 ((xs.take i).map rhZ)) :: (5, .ptr F.length 0 0) :: (6, .sl true 9 ((g.take j).map exZ)) :: (9, .sl false 10 (xs.map rhC)) :: (10, .int .i64 xs.length) :: (11, .int .i64 i) ::
    (16, .sl false 9 (g.map exC)) :: (17, .int .i64 g.length) :: (18, .int .i64 j) :: ex, .u⟩) ⟨by rw [rhC_eq]; exact has_app0, _, rfl⟩ ?_
  rintro j E G hj ⟨hA, ex, rfl⟩
  have hw2 := inc64 (i := j) (by omega)
  have hA0 := hA.get
  have hA1 := hA.app
  have hAl := hA.lt
  simp only [rhC_eq] at hA0 hA1
  simp only [go_sem, ↓reduceIte, ↓ex_map, ↓run_addW, hw, hw2, lt_len, hA0]
  refine ⟨fun hlj => ?_, fun hgj => ⟨_, _, hT2.at (by simp only [go_sem]) _, ?_⟩⟩
  · obtain ⟨e, kg, hm⟩ := get_lt hlj
    have hT := h1 e (by have := size_get kg; omega) (a2 _ hm)
    obtain ⟨cs', f1, f2, f3, f4, f5, f6⟩ := exR_cells e
    rw [f1] at hT
    simp only [go_sem, ↓reduceIte, ↓ex_map, ↓run_addW, hw2, lt_len, kg, gc_app0, gc_appN, set_app0, set_appN, put]
    refine ⟨_, _, hT.at (by simp only [go_sem]) _, ?_⟩
    simp only [go_sem, ↓reduceIte, ↓run_addW, hw2, elems_cons f3 f2, f4]
    refine ⟨by rw [List.length_take, Nat.min_eq_left (by omega)]; exact pb_fit ⟨a1, a2⟩ hlj (by decide), hlj, hA.more _, ?_⟩
    rw [map_take_next kg]
    exact ⟨_, rfl⟩
  · have hgt : g.take j = g := take_full (by omega)
    rw [hgt]
    simp only [go_sem, ↓reduceIte, ↓run_addW, hw, fillV_agg, e2, e3, e4, List.all_cons, Bool.true_and]
    refine ⟨by rw [List.length_take, Nat.min_eq_left (by omega)]; exact pb_fit hx hlt (by decide), hlt, ?_⟩
    rw [map_take_next hg, rhZ_eq]
    exact ⟨_, rfl⟩
set_option maxRecDepth 4000 in
theorem pbB_step {n : Nat} (hR : PBR n) : PBB (n + 1) := by
  intro xs hn hx
  refine ⟨?_, rfl⟩
  refine T.of0 mix c_parse_bareBinds rfl ?_
  unfold v_parse_bareBinds
  simp only [go_sem, ↓reduceIte]
  have hb := hx.lt
  refine WP.range (n := xs.length) (fun i E F => ∃ ex, E = ⟨(3, .sl true 4 ((xs.take i).map biZ)) :: (9, .sl false 4 (xs.map biC)) :: (10, .int .i64 xs.length) :: (11, .int .i64 i) :: ex, .u⟩) ⟨_, rfl⟩ ?_
  rintro i E F hi ⟨ex, rfl⟩
  have hw := inc64 (i := i) (by omega)
  simp only [go_sem, ↓reduceIte, ↓ex_map, ↓run_addW, hw, lt_len]
  refine ⟨fun hlt => ?_, fun hge => by rw [take_full (by omega)]⟩
  obtain ⟨⟨s, cs, l, c⟩, hg, hxm⟩ := get_lt hlt
  have hsz := size_get hg
  simp only [Bi.mk.sizeOf_spec] at hsz
  cases hx.2 _ hxm with | mk b1 b2 =>
  simp only [biC_eq, go_sem, ↓reduceIte, ↓ex_map, ↓run_addW, hw, lt_len, hg, gc_app0, gc_appN, set_app0, set_appN, put]
  refine WP.range (n := cs.length) (fun j E G => Has G F.length 0 [.str s, .sl false 2 (cs.map clC), .int .i64 0, .int .i64 0] ∧ ∃ ex, E = ⟨(3, .sl true 4 ((xs.take i).map biZ)) :: (5, .ptr F.length 0 0) :: (6, .sl true 2 ((cs.take j).map clZ)) :: (9, .sl false 4 (xs.map biC)) :: (10, .int .i64 xs.length) :: (11, .int .i64 i) ::
    (18, .sl false 2 (cs.map clC)) :: (19, .int .i64 cs.length) :: (20, .int .i64 j) :: ex, .u⟩) ⟨has_app0, _, rfl⟩ ?_
  rintro j E G hj ⟨hA, ex, rfl⟩
  have hw2 := inc64 (i := j) (by omega)
  have hA0 := hA.get
  have hA1 := hA.app
  have hAl := hA.lt
  simp only [go_sem, ↓reduceIte, ↓ex_map, ↓run_addW, hw, hw2, lt_len, hA0]
  refine ⟨fun hlj => ?_, fun hgj => ?_⟩
  · obtain ⟨⟨q, rs⟩, kg, hm⟩ := get_lt hlj
    have hsz2 := size_get kg
    simp only [Cl.mk.sizeOf_spec] at hsz2
    cases b2 _ hm with | mk c1 c2 c3 c4 =>
    have hT := barePats_T _ q (Nat.le_refl _) ⟨c1, c2⟩
    have hT2 := hR rs (by omega) ⟨c3, c4⟩
    simp only [clC_eq, go_sem, ↓reduceIte, ↓ex_map, ↓run_addW, hw2, lt_len, kg, gc_app0, gc_appN, set_app0, set_appN, put]
    refine ⟨_, hT.al rfl, rfl, ?_⟩
    simp only [go_sem, ↓reduceIte, ↓run_addW, hw2, gc_app0, gc_appN]
    refine ⟨_, hT2.al rfl, rfl, ?_⟩
    simp only [go_sem, ↓reduceIte, ↓run_addW, hw2]
    refine ⟨by rw [List.length_take, Nat.min_eq_left (by omega)]; exact pb_fit ⟨b1, b2⟩ hlj (by decide), hlj, hA.more _, ?_⟩
    rw [map_take_next kg, clZ_eq]
    exact ⟨_, rfl⟩
  · have hgt : cs.take j = cs := take_full (by omega)
    rw [hgt]
    have hS : ∀ (cs : List V) (v : Nat), getCells (G.set F.length (.cells v cs)) F.length v = some cs := fun cs v => gc_same hAl
    simp only [go_sem, ↓reduceIte, ↓run_addW, hw, hS, put]
    refine ⟨by rw [List.length_take, Nat.min_eq_left (by omega)]; exact pb_fit hx hlt (by decide), hlt, ?_⟩
    rw [map_take_next hg, biZ_eq]
    exact ⟨_, rfl⟩
set_option maxRecDepth 4000 in
theorem pb1_step {n : Nat} (h1 : PB1 n) (hR : PBR n) (hB : PBB n) : PB1 (n + 1) := by
  rintro ⟨k, s, m, ps, xs, al, bs, l, c⟩ hn hx
  simp only [Ex.mk.sizeOf_spec] at hn
  cases hx with | mk a1 a2 a3 a4 a5 a6 a7 =>
  have hTB := hB bs (by omega) ⟨a4, a7⟩
  refine ⟨?_, by simp only [idsL, idsV, exC_ids, Bool.and_self]⟩
  refine T.of0 mix c_parse_Bare rfl ?_
  unfold v_parse_Bare
  simp only [exC_eq, exR, go_sem, ↓reduceIte, put]
  refine WP.range (n := xs.length) (fun i E G => Has G 0 0 [.int .i64 k, .str s, .int .i64 m, .sl false 1 (ps.map stC), .sl false 9 (xs.map exC), .sl false 7 (al.map alC), .sl false 4 (bs.map biC), .int .i64 0, .int .i64 0] ∧ (∃ cs, Has G 1 0 cs ∧ cs.length = 9) ∧
    ∃ ex, E = ⟨(1, .ptr 0 0 0) :: (2, .ptr 1 0 0) :: (3, .sl true 9 ((xs.take i).map exZ)) :: (12, .sl false 9 (xs.map exC)) :: (13, .int .i64 xs.length) :: (14, .int .i64 i) :: ex, .u⟩) ⟨⟨by simp, rfl⟩, ⟨_, ⟨by simp, rfl⟩, rfl⟩, _, rfl⟩ ?_
  rintro i E G hi ⟨hA, ⟨cz, hZ, hzl⟩, ex, rfl⟩
  have hw := inc64 (i := i) (by omega)
  have hA0 := hA.get
  have hA1 := hA.app
  have hAl := hA.lt
  have hZl := hZ.lt
  simp only [go_sem, ↓reduceIte, ↓ex_map, ↓run_addW, hw, lt_len, hA0]
  refine ⟨fun hlt => ?_, fun hge => ?_⟩
  · obtain ⟨e, kg, hm⟩ := get_lt hlt
    have hT := h1 e (by have := size_get kg; omega) (a5 _ hm)
    obtain ⟨cs', f1, f2, f3, f4, f5, f6⟩ := exR_cells e
    rw [f1] at hT
    simp only [go_sem, ↓reduceIte, ↓ex_map, ↓run_addW, hw, lt_len, kg, gc_app0, gc_appN, set_app0, set_appN, put]
    refine ⟨_, _, hT.at (by simp only [go_sem]) _, ?_⟩
    simp only [go_sem, ↓reduceIte, ↓run_addW, hw, elems_cons f3 f2, f4]
    refine ⟨by rw [List.length_take, Nat.min_eq_left (by omega)]; exact pb_fit ⟨a2, a5⟩ hlt (by decide), hlt, hA.more _, ⟨_, hZ.more _, hzl⟩, ?_⟩
    rw [map_take_next kg]
    exact ⟨_, rfl⟩
  · have hgt : xs.take i = xs := take_full (by omega)
    rw [hgt]
    have hS := hA.gcs
    simp only [go_sem, ↓reduceIte, ↓run_addW, hw, hS, put]
    have hA' : Has (G.set 0 (.cells 0 [.int .i64 k, .str s, .int .i64 m, .sl false 1 (ps.map stC), .sl true 9 (xs.map exZ), .sl false 7 (al.map alC), .sl false 4 (bs.map biC), .int .i64 0, .int .i64 0])) 0 0 _ := Has.set_same hAl
    have hZ' : Has (G.set 0 (.cells 0 [.int .i64 k, .str s, .int .i64 m, .sl false 1 (ps.map stC), .sl true 9 (xs.map exZ), .sl false 7 (al.map alC), .sl false 4 (bs.map biC), .int .i64 0, .int .i64 0])) 1 0 cz := hZ.set_ne (by decide)
    clear hA hA0 hA1 hAl hS hZ hZl
    generalize G.set 0 _ = G at hA' hZ' ⊢
    refine WP.range (n := al.length) (fun i E G => Has G 0 0 [.int .i64 k, .str s, .int .i64 m, .sl false 1 (ps.map stC), .sl true 9 (xs.map exZ), .sl false 7 (al.map alC), .sl false 4 (bs.map biC), .int .i64 0, .int .i64 0] ∧ (∃ cs, Has G 1 0 cs ∧ cs.length = 9) ∧
      ∃ ex, E = ⟨(1, .ptr 0 0 0) :: (2, .ptr 1 0 0) :: (6, .sl true 7 ((al.take i).map alZ)) :: (27, .sl false 7 (al.map alC)) :: (28, .int .i64 al.length) :: (29, .int .i64 i) :: ex, .u⟩) ⟨hA', ⟨_, hZ', hzl⟩, _, rfl⟩ ?_
    clear hA' hZ' G hw hzl cz
    rintro i E G hi ⟨hA, ⟨cz, hZ, hzl⟩, ex, rfl⟩
    have hw := inc64 (i := i) (by omega)
    have hA0 := hA.get
    have hA1 := hA.app
    have hAl := hA.lt
    have hZl := hZ.lt
    simp only [go_sem, ↓reduceIte, ↓ex_map, ↓run_addW, hw, lt_len, hA0]
    refine ⟨fun hlt => ?_, fun hge => ?_⟩
    · obtain ⟨⟨q, rs⟩, kg, hm⟩ := get_lt hlt
      have hsz := size_get kg
      simp only [Al.mk.sizeOf_spec] at hsz
      cases a6 _ hm with | mk c1 c2 c3 =>
      have hT := barePats_T _ [q] (Nat.le_refl _) ⟨by simp, by simpa using c1⟩
      have hT2 := hR rs (by omega) ⟨c2, c3⟩
      simp only [alC_eq, go_sem, ↓reduceIte, ↓ex_map, ↓run_addW, hw, lt_len, kg, gc_app0, gc_appN, set_app0, set_appN, put]
      refine ⟨_, hT.al (by simp only [go_sem]), by simp only [idsL, idsV, Bool.and_self], ?_⟩
      simp only [go_sem, ↓reduceIte, ↓run_addW, hw, gc_app0, gc_appN, Int.toNat_zero]
      refine ⟨Int.le_refl _, ?_⟩
      refine ⟨_, hT2.al rfl, rfl, ?_⟩
      simp only [go_sem, ↓reduceIte, ↓run_addW, hw, fillV_agg, put, List.all_append, List.map_append, Bool.and_self]
      refine ⟨by rw [List.length_take, Nat.min_eq_left (by omega)]; exact pb_fit ⟨a3, a6⟩ hlt (by decide), hlt, hA.more _, ⟨_, hZ.more _, hzl⟩, ?_⟩
      rw [map_take_next kg, alZ_eq]
      exact ⟨_, rfl⟩
    · have hgt : al.take i = al := take_full (by omega)
      rw [hgt]
      have hS := hA.gcs
      simp only [go_sem, ↓reduceIte, ↓run_addW, hw, hS, put]
      refine ⟨_, _, hTB.at rfl _, ?_⟩
      have hA' : ∀ cs, Has (G.set 0 (.cells 0 cs)) 0 0 cs := fun cs => Has.set_same hAl
      have hZ' : ∀ o, Has (G.set 0 o) 1 0 cz := fun o => hZ.set_ne (by decide)
      have hl : ∀ o, 0 < (G.set 0 o).length := fun o => by simpa using hAl
      have hS2 : ∀ o u ds, getCells ((G.set 0 o).set 0 (.cells u ds)) 0 u = some ds := fun o u ds => gc_same (hl o)
      have hZ2 : ∀ o o', getCells ((G.set 0 o).set 0 o') 1 0 = some cz := fun o o' => ((hZ.set_ne (by decide)).set_ne (by decide)).get
      have hZ3 : ∀ (o o' o2 : Obj), getCells (((G.set 0 o).set 0 o').set 0 o2) 1 0 = some cz := fun o o' o2 => (((hZ.set_ne (by decide)).set_ne (by decide)).set_ne (by decide)).get
      have hz9 : cz.drop 9 = [] := List.drop_of_length_le (by omega)
      have hS4 : ∀ (o o' o2 : Obj) u ds, getCells ((((G.set 0 o).set 0 o').set 0 o2).set 1 (.cells u ds)) 1 u = some ds := fun o o' o2 u ds => gc_same (by simpa using hZ.lt)
      simp only [go_sem, ↓reduceIte, hS, hS2, hZ2, hZ3, hS4, put, hzl, hz9]
end Go.Proofs.Ytpamkokbajmjkaa.Vm
namespace Go.Proofs.Ytpamkokbajmjkaa.Vm
open Go
set_option linter.unusedSimpArgs false

theorem pb_all (n : Nat) : PB1 n ∧ PBR n ∧ PBB n := by
  induction n with
  | zero =>
    refine ⟨?_, ?_, ?_⟩
    · intro x h; cases x; simp at h
    · intro xs h; cases xs <;> simp at h
    · intro xs h; cases xs <;> simp at h
  | succ n ih => exact ⟨pb1_step ih.1 ih.2.1 ih.2.2, pbR_step ih.1, pbB_step ih.2.1⟩
theorem Bare_T (x : Ex) (hx : ExB x) : Pu 20 [.agg (exC x)] (exR x) := (pb_all _).1 x (Nat.le_refl _) hx
theorem bareBinds_T (xs : List Bi) (hx : LB 56 BiB xs) : Pu 47 [.sl false 4 (xs.map biC)] (.sl true 4 (xs.map biZ)) := (pb_all _).2.2 xs (Nat.le_refl _) hx
def coZ (x : Co) : List V := coC (coN false x)
def daZ (x : Da) : List V := daC (daN false x)
def fxZ (x : Fx) : List V := fxC (fxN false x)
theorem daZ_eq (s : Str) (ps : List Str) (cs : List Co) (l c : Int) : daZ ⟨s, ps, cs, l, c⟩ = [.str s, .sl false 1 (ps.map stC), .sl false 4 (cs.map coZ), .int .i64 0, .int .i64 0] := by
  unfold daZ daC daN; simp only [List.map_map]; rfl
theorem coZ_eq (s : Str) (fs : List Ty) (l c : Int) : coZ ⟨s, fs, l, c⟩ = [.str s, .sl false 4 (fs.map tyC), .int .i64 0, .int .i64 0] := rfl
theorem fxZ_eq (s : Str) (a v l c : Int) : fxZ ⟨s, a, v, l, c⟩ = [.str s, .int .i64 a, .int .i64 v, .int .i64 0, .int .i64 0] := rfl
/-- A list that grows, as an object: nil, or its rows. -/
def Grown (G : Heap) (z : Nat) (v : V) (xs : List (List V)) : Prop := (xs = [] ∧ v = .nilh z) ∨ ∃ q ver, v = .hsl q ver 0 xs.length z ∧ 2 < q ∧ xs ≠ [] ∧ Has G q ver xs.flatten
theorem Grown.more {G : Heap} {z : Nat} {v : V} {xs : List (List V)} (h : Grown G z v xs) (l : Heap) : Grown (G ++ l) z v xs := by
  rcases h with h | ⟨q, ver, h1, h2, h4, h3⟩
  · exact .inl h
  · exact .inr ⟨q, ver, h1, h2, h4, h3.more l⟩

theorem rows_p1 {α : Type} {f : α → List V} {l : List α} (h : ∀ x, (f x).all plain1 = true) : (l.map f).flatten.all plain1 = true := by
  induction l with
  | nil => rfl
  | cons x l ih => rw [List.map_cons, List.flatten_cons, List.all_append, h x, ih]; rfl
theorem rows_inl {α : Type} {f : α → List V} {l : List α} (h : ∀ x, (f x).map inl0 = f x) : (l.map f).flatten.map inl0 = (l.map f).flatten := by
  induction l with
  | nil => rfl
  | cons x l ih => rw [List.map_cons, List.flatten_cons, List.map_append, h x, ih]
set_option maxRecDepth 4000 in
theorem Strip_T (x : Pr) (hx : PrB x) : ∃ v0, T Try.prog 19 [.agg (prC x)] [] (.agg [v0, .sl true 5 (x.fs.map fxZ), .sl true 4 (x.bs.map biZ)]) [] ∧ ((x.ds = [] ∧ v0 = .nilh 5) ∨ v0 = .sl false 5 (x.ds.map daZ)) := by
  obtain ⟨ds, fs, bs⟩ := x
  obtain ⟨a1, a2, a3⟩ := hx
  simp only at a1 a2 a3
  refine ⟨if ds = [] then .nilh 5 else .sl false 5 (ds.map daZ), ?_, by by_cases h : ds = [] <;> simp [h]⟩
  have hTB := bareBinds_T bs a3
  have hbd := a1.lt
  have hbf := a2.lt
  refine T.of0 mix c_parse_Strip rfl ?_
  unfold v_parse_Strip
  simp only [prC, go_sem, ↓reduceIte]
  refine WP.range (n := ds.length) (fun i E G => Has G 0 0 (prC ⟨ds, fs, bs⟩) ∧ (∃ cz, Has G 1 0 cz ∧ cz.length = 3) ∧ (∃ v, Has G 2 0 [v, .sl true 5 [], .nilh 4] ∧ Grown G 5 v ((ds.take i).map daZ)) ∧
    ∃ ex, E = ⟨(1, .ptr 0 0 0) :: (2, .ptr 1 0 0) :: (3, .ptr 2 0 0) :: (12, .sl false 5 (ds.map daC)) :: (13, .int .i64 ds.length) :: (14, .int .i64 i) :: ex, .u⟩)
    ⟨⟨by simp, rfl⟩, ⟨_, ⟨by simp, rfl⟩, rfl⟩, ⟨_, ⟨by simp, rfl⟩, .inl ⟨rfl, rfl⟩⟩, _, rfl⟩ ?_
  rintro i E G hi ⟨hA, ⟨cz, hZ, hzl⟩, ⟨v, hO, hgr⟩, ex, rfl⟩
  have hw := inc64 (i := i) (by omega)
  have hA0 := hA.get
  simp only [prC] at hA0
  simp only [go_sem, ↓reduceIte, ↓ex_map, ↓run_addW, hw, lt_len, hA0]
  refine ⟨fun hlt => ?_, fun hge => ?_⟩
  · obtain ⟨⟨s, ps, cs, l, c⟩, kg, hm⟩ := get_lt hlt
    obtain ⟨b1, b2⟩ := a1.2 _ hm
    have hbc := b2.lt
    simp only at b1 b2 hbc
    simp only [daC, go_sem, ↓reduceIte, ↓ex_map, ↓run_addW, hw, lt_len, kg, gc_app0, gc_appN, set_app0, set_appN, put]
    have hA' := hA.more [.cells 0 [.str s, .sl false 1 (ps.map stC), .sl false 4 (cs.map coC), .int .i64 0, .int .i64 0]]
    have hZ' := hZ.more [.cells 0 [.str s, .sl false 1 (ps.map stC), .sl false 4 (cs.map coC), .int .i64 0, .int .i64 0]]
    have hO' := hO.more [.cells 0 [.str s, .sl false 1 (ps.map stC), .sl false 4 (cs.map coC), .int .i64 0, .int .i64 0]]
    have hgr' := hgr.more [.cells 0 [.str s, .sl false 1 (ps.map stC), .sl false 4 (cs.map coC), .int .i64 0, .int .i64 0]]
    have hD' : Has (G ++ [.cells 0 [.str s, .sl false 1 (ps.map stC), .sl false 4 (cs.map coC), .int .i64 0, .int .i64 0]]) G.length 0 _ := has_app0
    have hGl : 3 ≤ G.length := hO.lt
    have hqd : ∀ q ver n, v = .hsl q ver 0 n 5 → q < G.length := by
      rintro q ver n rfl
      rcases hgr with ⟨_, h⟩ | ⟨q', ver', h, _, _, h3⟩
      · cases h
      · cases h; exact h3.lt
    generalize hd : G.length = dd at hD' hGl hqd ⊢
    generalize G ++ _ = G1 at hA' hZ' hO' hgr' hD' ⊢
    clear hA hZ hO hgr hA0 hd G
    refine WP.range (n := cs.length) (fun j E G => Has G 0 0 (prC ⟨ds, fs, bs⟩) ∧ Has G 1 0 cz ∧ Has G 2 0 [v, .sl true 5 [], .nilh 4] ∧ Grown G 5 v ((ds.take i).map daZ) ∧ (∀ q ver n, v = .hsl q ver 0 n 5 → q < dd) ∧ Has G dd 0 [.str s, .sl false 1 (ps.map stC), .sl false 4 (cs.map coC), .int .i64 0, .int .i64 0] ∧
      ∃ ex, E = ⟨(1, .ptr 0 0 0) :: (2, .ptr 1 0 0) :: (3, .ptr 2 0 0) :: (5, .ptr dd 0 0) :: (6, .sl true 4 ((cs.take j).map coZ)) :: (12, .sl false 5 (ds.map daC)) :: (13, .int .i64 ds.length) :: (14, .int .i64 i) ::
        (21, .sl false 4 (cs.map coC)) :: (22, .int .i64 cs.length) :: (23, .int .i64 j) :: ex, .u⟩) ⟨hA', hZ', hO', hgr', hqd, hD', _, rfl⟩ ?_
    clear hA' hZ' hO' hgr' hD' G1
    rintro j E G hj ⟨hA, hZ, hO, hgr, _, hD, ex, rfl⟩
    have hw2 := inc64 (i := j) (by omega)
    have hO0 := hO.get
    have hD0 := hD.get
    have hS := hD.gcs
    simp only [go_sem, ↓reduceIte, ↓ex_map, ↓run_addW, hw2, lt_len, hD0]
    refine ⟨fun hlj => ?_, fun hgj => ?_⟩
    · obtain ⟨⟨q, ty, a, b⟩, kg2, hm2⟩ := get_lt hlj
      simp only [coC, go_sem, ↓reduceIte, ↓ex_map, ↓run_addW, hw2, lt_len, kg2, gc_app0, gc_appN, set_app0, set_appN, put]
      refine ⟨by rw [List.length_take, Nat.min_eq_left (by omega)]; exact pb_fit b2 hlj (by decide), hlj, hA.more _, hZ.more _, hO.more _, hgr.more _, hqd, hD.more _, ?_⟩
      rw [map_take_next kg2, coZ_eq]
      exact ⟨_, rfl⟩
    · have hgt : cs.take j = cs := take_full (by omega)
      rw [hgt]
      have hO2 : ∀ o, getCells (G.set dd o) 2 0 = some [v, .sl true 5 [], .nilh 4] := fun o => (hO.set_ne (by omega)).get
      have hf80 : fits (i + 1) 80 := pb_fit a1 hlt (by decide)
      have hsrc : daZ ⟨s, ps, cs, l, c⟩ = [.str s, .sl false 1 (ps.map stC), .sl false 4 (cs.map coZ), .int .i64 0, .int .i64 0] := daZ_eq s ps cs l c
      have k0 : ∀ o, Has (G.set dd o) 0 0 (prC ⟨ds, fs, bs⟩) := fun o => hA.set_ne (by omega)
      have k1 : ∀ o, Has (G.set dd o) 1 0 cz := fun o => hZ.set_ne (by omega)
      have k2 : ∀ o, Has (G.set dd o) 2 0 [v, .sl true 5 [], .nilh 4] := fun o => hO.set_ne (by omega)
      have m0 : ∀ o o', Has ((G.set dd o).set dd o') 0 0 (prC ⟨ds, fs, bs⟩) := fun o o' => (k0 o).set_ne (by omega)
      have m1 : ∀ o o', Has ((G.set dd o).set dd o') 1 0 cz := fun o o' => (k1 o).set_ne (by omega)
      have m2 : ∀ o o', Has ((G.set dd o).set dd o') 2 0 [v, .sl true 5 [], .nilh 4] := fun o o' => (k2 o).set_ne (by omega)
      rcases hgr with ⟨g1, rfl⟩ | ⟨q, ver, rfl, g2, gn, g3⟩
      · have hi0 : i = 0 := by
          have := congrArg List.length g1
          simp only [List.length_map, List.length_take, List.length_nil] at this
          omega
        subst hi0
        simp only [go_sem, ↓reduceIte, ↓run_addW, hw, hS, hO2, put]
        refine ⟨hf80, _, (m2 _ _).get, by simp, hlt, ?_⟩
        generalize hG2 : (G.set dd _).set dd _ = G2
        have n0 : Has G2 0 0 (prC ⟨ds, fs, bs⟩) := by rw [← hG2]; exact m0 _ _
        have n1 : Has G2 1 0 cz := by rw [← hG2]; exact m1 _ _
        have n2 : Has G2 2 0 [.nilh 5, .sl true 5 [], .nilh 4] := by rw [← hG2]; exact m2 _ _
        have n2l := n2.lt
        refine ⟨(n0.more _).set_ne (by decide), ⟨_, (n1.more _).set_ne (by decide), hzl⟩, ⟨_, Has.set_same (by simp; omega), .inr ⟨G2.length, 0, ?_, n2l, by rw [map_take_next kg]; simp, ?_⟩⟩, _, rfl⟩
        · rw [List.length_map, List.length_take, Nat.min_eq_left (by omega)]
        · have e : (ds.take 1).map daZ = [daZ ⟨s, ps, cs, l, c⟩] := by rw [map_take_next (i := 0) kg]; rfl
          rw [e, hsrc]
          exact has_app0.set_ne (by omega)
      · have mq : ∀ o o', Has ((G.set dd o).set dd o') q ver ((ds.take i).map daZ).flatten := fun o o' => (g3.set_ne (by have := hqd q ver _ rfl; omega)).set_ne (by have := hqd q ver _ rfl; omega)
        have mq0 : ∀ o o', getCells ((G.set dd o).set dd o') q ver = some ((ds.take i).map daZ).flatten := fun o o' => (mq o o').get
        have mo0 : ∀ o o' o2, getCells (((G.set dd o).set dd o').set q o2) 2 0 = some [.hsl q ver 0 ((ds.take i).map daZ).length 5, .sl true 5 [], .nilh 4] := fun o o' o2 => ((m2 o o').set_ne (by omega)).get
        have hln : ((ds.take i).map daZ).length = i := by rw [List.length_map, List.length_take, Nat.min_eq_left (by omega)]
        have hz : ∀ x ∈ (ds.take i).map daZ, x.length = 5 := by
          intro x hx
          obtain ⟨d, _, rfl⟩ := List.mem_map.1 hx
          exact (daC_ok _).len
        have hfl : ((ds.take i).map daZ).flatten.length = i * 5 := by rw [flat_len hz, hln]
        rw [hln] at mo0 m2 hO2
        simp only [go_sem, ↓reduceIte, ↓run_addW, hw, hS, hO2, mq0, mo0, put, hfl]
        refine ⟨hf80, hlt, ?_⟩
        generalize hG2 : (G.set dd _).set dd _ = G2
        have n0 : Has G2 0 0 (prC ⟨ds, fs, bs⟩) := by rw [← hG2]; exact m0 _ _
        have n1 : Has G2 1 0 cz := by rw [← hG2]; exact m1 _ _
        have n2 : Has G2 2 0 [.hsl q ver 0 i 5, .sl true 5 [], .nilh 4] := by rw [← hG2]; exact m2 _ _
        have nq : Has G2 q ver ((ds.take i).map daZ).flatten := by rw [← hG2]; exact mq _ _
        have n2l := n2.lt
        refine ⟨(n0.set_ne (by omega)).set_ne (by decide), ⟨_, (n1.set_ne (by omega)).set_ne (by decide), hzl⟩, ⟨_, Has.set_same (by simpa using n2l), .inr ⟨q, ver + 1, ?_, g2, by rw [map_take_next kg]; simp, ?_⟩⟩, _, rfl⟩
        · rw [List.length_map, List.length_take, Nat.min_eq_left (by omega)]
        · have e : ((ds.take (i + 1)).map daZ).flatten = ((ds.take i).map daZ).flatten.take (i * 5) ++ [daZ ⟨s, ps, cs, l, c⟩].flatten := by
            rw [map_take_next kg, List.flatten_append, List.take_of_length_le (l := ((ds.take i).map daZ).flatten) (by omega)]
          rw [e, hsrc]
          exact (Has.set_same nq.lt).set_ne (by omega)
  · have hgt : ds.take i = ds := take_full (by omega)
    rw [hgt] at hgr
    clear hw hge hgt
    -- what the first list is at the end
    refine WP.range (n := fs.length) (fun i E G => Has G 0 0 (prC ⟨ds, fs, bs⟩) ∧ Has G 1 0 cz ∧ Has G 2 0 [v, .sl true 5 ((fs.take i).map fxZ), .nilh 4] ∧ Grown G 5 v (ds.map daZ) ∧
      ∃ ex, E = ⟨(1, .ptr 0 0 0) :: (2, .ptr 1 0 0) :: (3, .ptr 2 0 0) :: (44, .sl false 5 (fs.map fxC)) :: (45, .int .i64 fs.length) :: (46, .int .i64 i) :: ex, .u⟩)
      ⟨hA, hZ, hO, hgr, _, rfl⟩ ?_
    clear hA hZ hO hgr hA0 G i hi
    rintro i E G hi ⟨hA, hZ, hO, hgr, ex, rfl⟩
    have hw := inc64 (i := i) (by omega)
    have hA0 := hA.get
    simp only [prC] at hA0
    have hO0 := hO.get
    have hS := hO.gcs
    simp only [go_sem, ↓reduceIte, ↓ex_map, ↓run_addW, hw, lt_len, hA0]
    refine ⟨fun hlt => ?_, fun hge => ⟨_, _, hTB.at rfl _, ?_⟩⟩
    · obtain ⟨⟨q, u, w, a, b⟩, kg, hm2⟩ := get_lt hlt
      have hO1 := hO.app
      have hOl := hO.lt
      have hF : ∀ (l : Heap) (o : Obj), getCells ((G ++ l).set 2 o) G.length 0 = getCells l 0 0 := fun l o => by rw [gc_ne (by omega), gc_app0]
      have hS' : ∀ (l : Heap) (u : Nat) (cs : List V), getCells ((G ++ l).set 2 (.cells u cs)) 2 u = some cs := fun l u cs => gc_same (by simp; omega)
      simp only [fxC, go_sem, ↓reduceIte, ↓ex_map, ↓run_addW, hw, lt_len, kg, hO1, hF, hS', gc_app0, gc_appN, set_app0, set_appN, put]
      refine ⟨by rw [List.length_take, Nat.min_eq_left (by omega)]; exact pb_fit a2 hlt (by decide), hlt, ?_⟩
      have m0 := hA.more [.cells 0 [.str q, .int .i64 u, .int .i64 w, .int .i64 0, .int .i64 0]]
      have m1 := hZ.more [.cells 0 [.str q, .int .i64 u, .int .i64 w, .int .i64 0, .int .i64 0]]
      have m3 := hgr.more [.cells 0 [.str q, .int .i64 u, .int .i64 w, .int .i64 0, .int .i64 0]]
      have hgl : 2 < (G ++ [Obj.cells 0 [.str q, .int .i64 u, .int .i64 w, .int .i64 0, .int .i64 0]]).length := by simp; omega
      generalize G ++ _ = G1 at m0 m1 m3 hgl ⊢
      rw [map_take_next kg, fxZ_eq]
      refine ⟨(m0.set_ne (by decide)).set_ne (by decide), (m1.set_ne (by decide)).set_ne (by decide), Has.set_same (by simpa using hgl), ?_, _, rfl⟩
      rcases m3 with h | ⟨q', ver, h1, h2, h4, h3⟩
      · exact .inl h
      · exact .inr ⟨q', ver, h1, h2, h4, (h3.set_ne (by omega)).set_ne (by omega)⟩
    · have hgt : fs.take i = fs := take_full (by omega)
      have hZ1 : ∀ o, getCells (G.set 2 o) 1 0 = some cz := fun o => (hZ.set_ne (by decide)).get
      have hZ2 : ∀ o o', getCells ((G.set 2 o).set 2 o') 1 0 = some cz := fun o o' => ((hZ.set_ne (by decide)).set_ne (by decide)).get
      have hz3 : cz.drop 3 = [] := List.drop_of_length_le (by omega)
      have hlt1 := hZ.lt
      have hS4 : ∀ (o o' : Obj) u ds, getCells (((G.set 2 o).set 2 o').set 1 (.cells u ds)) 1 u = some ds := fun o o' u ds => gc_same (by simpa using hZ.lt)
      rw [hgt] at hO0
      rcases hgr with ⟨g1, rfl⟩ | ⟨q, ver, rfl, g2, gn, g3⟩
      · have hds : ds = [] := by cases ds with
          | nil => rfl
          | cons d ds => cases g1
        rw [if_pos hds]
        simp only [go_sem, ↓reduceIte, hO0, hS, hZ1, hZ2, hS4, put, hzl, hz3]
      · have hds : ds ≠ [] := by
          rintro rfl
          exact gn rfl
        rw [if_neg hds]
        simp only [go_sem, ↓reduceIte, hO0, hS, hZ1, hZ2, hS4, put, hzl, hz3]
        have hq := ((g3.set_ne (o := .cells 0 [.hsl q ver 0 ds.length 5, .sl true 5 (fs.map fxZ), .sl true 4 (bs.map biZ)]) (a := 2) (by omega)).set_ne (o := .cells 0 [.hsl q ver 0 ds.length 5, .sl false 5 (fs.map fxZ), .sl false 4 (bs.map biZ)]) (a := 2) (by omega)).set_ne
          (o := .cells 0 [.hsl q ver 0 ds.length 5, .sl true 5 (fs.map fxZ), .sl true 4 (bs.map biZ)]) (a := 1) (by omega)
        generalize ((G.set 2 _).set 2 _).set 1 _ = G2 at hq ⊢
        have hz : ∀ x ∈ ds.map daZ, x.length = 5 := by
          intro x hx
          obtain ⟨d, _, rfl⟩ := List.mem_map.1 hx
          exact (daC_ok _).len
        have hfix := fix_rows (m := 0) (d := 5) (H := G2) (sz := 5) (xs := ds.map daZ) (Nat.zero_le _) hq.get hz (rows_p1 fun d => (daC_ok _).p1) (rows_inl fun d => (daC_ok _).inl)
        rw [List.length_map] at hfix
        refine ⟨_, ?_, rfl⟩
        show (List.mapM (fixV 0 G2 7) [V.hsl q ver 0 ds.length 5, V.sl true 5 (fs.map fxZ), V.sl true 4 (bs.map biZ)]).map V.agg = _
        rw [List.mapM_cons, hfix]
        rfl
end Go.Proofs.Ytpamkokbajmjkaa.Vm
namespace Go.Proofs.Ytpamkokbajmjkaa.Vm
open Go
set_option linter.unusedSimpArgs false

theorem map_idem {α : Type} {f : α → α} {l : List α} (h : ∀ x ∈ l, f (f x) = f x) : (l.map f).map f = l.map f := by
  rw [List.map_map]; exact List.map_congr_left h
theorem plN_idem (l : Int) : plN false (plN false l) = plN false l := rfl
theorem paN_idem (n : Nat) : ∀ x : Pa, SizeOf.sizeOf x ≤ n → paN false (paN false x) = paN false x := by
  induction n with
  | zero => intro x h; cases x; simp at h
  | succ n ih =>
    rintro ⟨k, s, m, xs, l, c⟩ h
    simp only [Pa.mk.sizeOf_spec] at h
    rw [paN_eq, paN_eq, map_idem fun x hx => ih x (by have := List.sizeOf_lt_of_mem hx; omega)]
    rfl
theorem exN_idem (n : Nat) : (∀ x : Ex, SizeOf.sizeOf x ≤ n → exN false (exN false x) = exN false x) ∧ (∀ x : Al, SizeOf.sizeOf x ≤ n → alN false (alN false x) = alN false x) ∧ (∀ x : Rh, SizeOf.sizeOf x ≤ n → rhN false (rhN false x) = rhN false x) ∧
    (∀ x : Cl, SizeOf.sizeOf x ≤ n → clN false (clN false x) = clN false x) ∧ (∀ x : Bi, SizeOf.sizeOf x ≤ n → biN false (biN false x) = biN false x) := by
  induction n with
  | zero => refine ⟨?_, ?_, ?_, ?_, ?_⟩ <;> (intro x h; cases x; simp at h)
  | succ n ih =>
    obtain ⟨i1, i2, i3, i4, i5⟩ := ih
    refine ⟨?_, ?_, ?_, ?_, ?_⟩
    · rintro ⟨k, s, m, ps, xs, al, bs, l, c⟩ h
      simp only [Ex.mk.sizeOf_spec] at h
      rw [exN_eq, exN_eq, map_idem fun x hx => i1 x (by have := List.sizeOf_lt_of_mem hx; omega), map_idem fun x hx => i2 x (by have := List.sizeOf_lt_of_mem hx; omega), map_idem fun x hx => i5 x (by have := List.sizeOf_lt_of_mem hx; omega)]
      rfl
    · rintro ⟨q, rs⟩ h
      simp only [Al.mk.sizeOf_spec] at h
      rw [alN_eq, alN_eq, paN_idem _ q (Nat.le_refl _), map_idem fun x hx => i3 x (by have := List.sizeOf_lt_of_mem hx; omega)]
    · rintro ⟨g, b⟩ h
      simp only [Rh.mk.sizeOf_spec] at h
      rw [rhN_eq, rhN_eq, i1 b (by have := size_pos g; omega), map_idem fun x hx => i1 x (by have := List.sizeOf_lt_of_mem hx; omega)]
    · rintro ⟨ps, rs⟩ h
      simp only [Cl.mk.sizeOf_spec] at h
      rw [clN_eq, clN_eq, map_idem fun x _ => paN_idem _ x (Nat.le_refl _), map_idem fun x hx => i3 x (by have := List.sizeOf_lt_of_mem hx; omega)]
    · rintro ⟨s, cs, l, c⟩ h
      simp only [Bi.mk.sizeOf_spec] at h
      rw [biN_eq, biN_eq, map_idem fun x hx => i4 x (by have := List.sizeOf_lt_of_mem hx; omega)]
      rfl
theorem prN_idem (x : Pr) : prN false (prN false x) = prN false x := by
  obtain ⟨ds, fs, bs⟩ := x
  simp only [prN]
  rw [map_idem fun x _ => (exN_idem _).2.2.2.2 x (Nat.le_refl _), map_idem fun x _ => show fxN false (fxN false x) = fxN false x from rfl, map_idem (f := daN false)]
  rintro ⟨s, ps, cs, l, c⟩ _
  simp only [daN]
  rw [map_idem fun x _ => show coN false (coN false x) = coN false x from rfl]
  rfl
/-! Bounds stay. -/
theorem paB_N (n : Nat) : ∀ x : Pa, SizeOf.sizeOf x ≤ n → PaB x → PaB (paN false x) := by
  induction n with
  | zero => intro x h; cases x; simp at h
  | succ n ih =>
    rintro ⟨k, s, m, xs, l, c⟩ h hb
    simp only [Pa.mk.sizeOf_spec] at h
    cases hb with | mk h1 h2 =>
    rw [paN_eq]
    refine .mk (by simpa using h1) fun y hy => ?_
    obtain ⟨x, hx, rfl⟩ := List.mem_map.1 hy
    exact ih x (by have := List.sizeOf_lt_of_mem hx; omega) (h2 x hx)
theorem exB_N (n : Nat) : (∀ x : Ex, SizeOf.sizeOf x ≤ n → ExB x → ExB (exN false x)) ∧ (∀ x : Al, SizeOf.sizeOf x ≤ n → AlB x → AlB (alN false x)) ∧ (∀ x : Rh, SizeOf.sizeOf x ≤ n → RhB x → RhB (rhN false x)) ∧
    (∀ x : Cl, SizeOf.sizeOf x ≤ n → ClB x → ClB (clN false x)) ∧ (∀ x : Bi, SizeOf.sizeOf x ≤ n → BiB x → BiB (biN false x)) := by
  induction n with
  | zero => refine ⟨?_, ?_, ?_, ?_, ?_⟩ <;> (intro x h; cases x; simp at h)
  | succ n ih =>
    obtain ⟨i1, i2, i3, i4, i5⟩ := ih
    have mm : ∀ {α : Type} [SizeOf α] {p : α → Prop} {f : α → α} {l : List α}, (∀ x : α, SizeOf.sizeOf x ≤ n → p x → p (f x)) → SizeOf.sizeOf l ≤ n + 1 → (∀ x ∈ l, p x) → ∀ y ∈ l.map f, p y := by
      intro α _ p f l hf hs hp y hy
      obtain ⟨x, hx, rfl⟩ := List.mem_map.1 hy
      exact hf x (by have := List.sizeOf_lt_of_mem hx; omega) (hp x hx)
    refine ⟨?_, ?_, ?_, ?_, ?_⟩
    · rintro ⟨k, s, m, ps, xs, al, bs, l, c⟩ h hb
      simp only [Ex.mk.sizeOf_spec] at h
      cases hb with | mk h1 h2 h3 h4 h5 h6 h7 =>
      rw [exN_eq]
      exact .mk h1 (by simpa using h2) (by simpa using h3) (by simpa using h4) (mm i1 (by omega) h5) (mm i2 (by omega) h6) (mm i5 (by omega) h7)
    · rintro ⟨q, rs⟩ h hb
      simp only [Al.mk.sizeOf_spec] at h
      cases hb with | mk h1 h2 h3 =>
      rw [alN_eq]
      exact .mk (paB_N _ q (Nat.le_refl _) h1) (by simpa using h2) (mm i3 (by omega) h3)
    · rintro ⟨g, b⟩ h hb
      simp only [Rh.mk.sizeOf_spec] at h
      cases hb with | mk h1 h2 h3 =>
      rw [rhN_eq]
      exact .mk (by simpa using h1) (mm i1 (by omega) h2) (i1 b (by have := size_pos g; omega) h3)
    · rintro ⟨ps, rs⟩ h hb
      simp only [Cl.mk.sizeOf_spec] at h
      cases hb with | mk h1 h2 h3 h4 =>
      rw [clN_eq]
      refine .mk (by simpa using h1) (fun y hy => ?_) (by simpa using h3) (mm i3 (by omega) h4)
      obtain ⟨x, hx, rfl⟩ := List.mem_map.1 hy
      exact paB_N _ x (Nat.le_refl _) (h2 x hx)
    · rintro ⟨s, cs, l, c⟩ h hb
      simp only [Bi.mk.sizeOf_spec] at h
      cases hb with | mk h1 h2 =>
      rw [biN_eq]
      exact .mk (by simpa using h1) (mm i4 (by omega) h2)
theorem prB_N (x : Pr) (h : PrB x) : PrB (prN false x) := by
  obtain ⟨ds, fs, bs⟩ := x
  obtain ⟨h1, h2, h3⟩ := h
  refine ⟨⟨by simpa [prN] using h1.1, fun y hy => ?_⟩, ⟨by simpa [prN] using h2.1, fun _ _ => True.intro⟩, ⟨by simpa [prN] using h3.1, fun y hy => ?_⟩⟩
  · obtain ⟨d, hd, rfl⟩ := List.mem_map.1 hy
    obtain ⟨k1, k2⟩ := h1.2 d hd
    refine ⟨k1, by simpa [daN] using k2.1, fun z hz => ?_⟩
    obtain ⟨w, hw, rfl⟩ := List.mem_map.1 hz
    exact ⟨(k2.2 w hw).h⟩
  · obtain ⟨b, hb, rfl⟩ := List.mem_map.1 hy
    exact (exB_N _).2.2.2.2 b (Nat.le_refl _) (h3.2 b hb)

set_option maxRecDepth 6000 in
theorem strips_T (x : Pr) (e : Ex) (hx : PrB x) (he : ExB e) : T Try.prog 6 [.agg (prC x), .agg (exC e)] [] (.bool true) [] := by
  obtain ⟨v0, hS, hv⟩ := Strip_T x hx
  have hB := Bare_T e he
  obtain ⟨cs, c1, c2, c3, c4, c5, c6⟩ := exR_cells e
  rw [c1] at hB
  have hq : PrB (prN false x) := prB_N x hx
  have hz : ExB (exN false e) := (exB_N _).1 e (Nat.le_refl _) he
  have h1 := SamePrograms_T x (prN false x) false hx hq
  have h2 := rBare_T (prN false x) hq
  have h3 := SameExpr_T e (exN false e) false he hz
  have h4 := rBareExprs_T [exN false e] ⟨by simp, by simpa using hz⟩
  rw [eqB_true (prN_idem x).symm] at h1
  rw [eqB_true (prN_idem x)] at h2
  rw [eqB_true ((exN_idem _).1 e (Nat.le_refl _)).symm] at h3
  have e4 : [exN false e].map (exN false) = [exN false e] := by rw [List.map_cons, (exN_idem _).1 e (Nat.le_refl _)]; rfl
  rw [eqB_true e4] at h4
  refine T.of0 mix c_l06_ParseStrips rfl ?_
  unfold v_l06_ParseStrips
  obtain ⟨ds, fs, bs⟩ := x
  have qe : prC (prN false ⟨ds, fs, bs⟩) = [.sl false 5 (ds.map daZ), .sl false 5 (fs.map fxZ), .sl false 4 (bs.map biZ)] := by
    simp only [prC, prN, List.map_map]; rfl
  have hv' : norm0 v0 = .sl false 5 (ds.map daZ) ∧ plainC v0 = true ∧ strip0 v0 = strip0 v0 := by
    rcases hv with ⟨h, rfl⟩ | rfl
    · simp only at h; subst h; exact ⟨rfl, rfl, rfl⟩
    · exact ⟨rfl, rfl, rfl⟩
  rw [qe] at h1 h2
  have k4 : cs.take 9 = cs := List.take_of_length_le (by omega)
  have k3 : (cs.map strip0).map inl0 = exC (exN false e) := by
    rw [List.map_map]
    exact (List.map_congr_left fun v _ => by cases v <;> rfl).trans c4
  have k5 : cs.map inl0 = exC (exN false e) := c4
  rcases hv with ⟨hd, rfl⟩ | rfl
  · simp only at hd
    subst hd
    simp only [prC, go_sem, ↓reduceIte]
    refine ⟨_, hS, rfl, ?_⟩
    simp only [go_sem, ↓reduceIte]
    refine ⟨_, hB.al (by simp only [go_sem]), by simp only [idsL, idsV, exC_ids, Bool.and_self], ?_⟩
    simp only [go_sem, ↓reduceIte, storeP_agg c5 c2.symm, c2]
    refine ⟨_, _, h1.at (by simp only [prC, go_sem]) _, ?_⟩
    simp only [go_sem, ↓reduceIte]
    refine ⟨_, _, h2.at (by simp only [prC, go_sem]) _, ?_⟩
    simp only [go_sem, ↓reduceIte, c2, k4]
    refine ⟨_, _, h3.at (by simp only [go_sem, k3]) _, ?_⟩
    simp only [go_sem, ↓reduceIte, c2, k4, c3, k5]
    refine ⟨_, _, h4.at (by simp only [go_sem]) _, ?_⟩
    simp only [go_sem, ↓reduceIte]
    refine ⟨_, _, known_H _, ?_⟩
    simp only [go_sem, ↓reduceIte]
  · simp only [prC, go_sem, ↓reduceIte]
    refine ⟨_, hS, rfl, ?_⟩
    simp only [go_sem, ↓reduceIte]
    refine ⟨_, hB.al (by simp only [go_sem]), by simp only [idsL, idsV, exC_ids, Bool.and_self], ?_⟩
    simp only [go_sem, ↓reduceIte, storeP_agg c5 c2.symm, c2]
    refine ⟨_, _, h1.at (by simp only [prC, go_sem]) _, ?_⟩
    simp only [go_sem, ↓reduceIte]
    refine ⟨_, _, h2.at (by simp only [prC, go_sem]) _, ?_⟩
    simp only [go_sem, ↓reduceIte, c2, k4]
    refine ⟨_, _, h3.at (by simp only [go_sem, k3]) _, ?_⟩
    simp only [go_sem, ↓reduceIte, c2, k4, c3, k5]
    refine ⟨_, _, h4.at (by simp only [go_sem]) _, ?_⟩
    simp only [go_sem, ↓reduceIte]
    refine ⟨_, _, known_H _, ?_⟩
    simp only [go_sem, ↓reduceIte]
end Go.Proofs.Ytpamkokbajmjkaa.Vm
namespace Go.Proofs.Ytpamkokbajmjkaa.Vm
open Go Go.RowKit Go.WideShapes
set_option maxRecDepth 4000

theorem T.belowL {P : Program} {w : World} {f : Nat} {vs : List V} (h : T P f vs [] (.bool true) []) {cs : Array Value} (hr : RepL w (gh0 w) vs cs.toList []) : Calls P f cs w fun e w' => e = .returned (.bool true) ∧ Below w.heap.size w w' := by
  refine (h.2 w (gh0 w) (own0 w) cs [] (ok0 w) hr List.nodup_nil (fun _ h => by cases h)).mono ?_
  rintro e w' ⟨c, rfl, G', own', bl, _, h2, _, _, h5⟩
  obtain ⟨cs', hcs, _⟩ := h2.bool_inv
  obtain ⟨rfl, _⟩ := List.cons.inj hcs
  refine ⟨rfl, h5.os, h5.tape, h5.out, h5.size, fun k hk => ?_⟩
  exact (h5.fixed k (by simp only [own0, if_pos hk])).1
theorem RepL.cons0 {w : World} {G : Gh} {v : V} {c : Value} {vs : List V} {cs : List Value} (h : RepL w G [v] [c] []) (k : RepL w G vs cs []) : RepL w G (v :: vs) (c :: cs) [] := RepL.cons h k
theorem RepI.toL0 {w : World} {vs : List V} {cs : List Value} (h : RepI (immW w) vs cs) : RepL w (gh0 w) vs cs [] := RepI.toL h

/-- What is read of a value that is not too heavy. -/
abbrev Qo {H : Type} (t : TypeId) (P : List V → Prop) : DataW H → List V → Prop := fun d vs => Light Try.prog t d → P vs
def AllF : List (List V → Prop) → List V → Prop
  | [], vs => vs = []
  | P :: Ps, vs => ∃ a b, vs = a ++ b ∧ P a ∧ AllF Ps b
def PI : List V → Prop := fun vs => ∃ n : Int, vs = [.int .i64 n]
def PS : List V → Prop := fun vs => ∃ s : Str, vs = [.str s]
def PBo : List V → Prop := fun vs => ∃ b : Bool, vs = [.bool b]
def PPos : List V → Prop := fun vs => ∃ l c : Int, vs = [.int .i64 l, .int .i64 c]
def PX {α : Type} (C : α → List V) (B : α → Prop) : List V → Prop := fun vs => ∃ x, vs = C x ∧ B x
def PL {α : Type} (n b : Nat) (C : α → List V) (B : α → Prop) : List V → Prop := fun vs => ∃ l : List α, vs = [.sl false n (l.map C)] ∧ LB b B l

section
variable {w : World} {H : Type} {enc : TypeId × Value → H} {sp : Nat → Bool} {held : Bool}
def RdAll (enc : TypeId × Value → H) (sp : Nat → Bool) (held : Bool) (w : World) (fuel : Nat) : List TypeId → List (List V → Prop) → Prop
  | [], [] => True
  | t :: ts, P :: Ps => ReadsF Try.prog enc sp held w fuel t (Qo t P) ∧ RdAll enc sp held w fuel ts Ps
  | _, _ => False
theorem rdAll_get {fuel : Nat} : ∀ {ts : List TypeId} {Ps : List (List V → Prop)}, RdAll enc sp held w fuel ts Ps → ts.length = Ps.length ∧ ∀ (i : Nat) t P, ts[i]? = some t → Ps[i]? = some P → ReadsF Try.prog enc sp held w fuel t (Qo t P)
  | [], [], _ => ⟨rfl, fun i t P h => by cases h⟩
  | t :: ts, P :: Ps, h => by
    obtain ⟨h1, h2⟩ := rdAll_get h.2
    refine ⟨congrArg (· + 1) h1, fun i t' P' hi hp => ?_⟩
    cases i with
    | zero => obtain rfl := Option.some.inj hi; obtain rfl := Option.some.inj hp; exact h.1
    | succ i => exact h2 i _ _ hi hp
  | [], _ :: _, h => h.elim
  | _ :: _, [], h => h.elim
theorem allF_of {fs : List Field} {t : TypeId} {ds : List (DataW H)} (hl : ∀ (j : Nat) (f : Field) (d : DataW H), fs[j]? = some f → ds[j]? = some d → Light Try.prog f.type d) : ∀ {ts : List TypeId} {Ps : List (List V → Prop)} {ds' : List (DataW H)} {vss : List (List V)} {k : Nat},
    ts = (fs.map (·.type)).drop k → ds' = ds.drop k → ds'.length = Ps.length → vss.length = Ps.length → ts.length = Ps.length →
    (∀ (i : Nat) (t : TypeId) (P : List V → Prop) (d : DataW H) (vs : List V), ts[i]? = some t → Ps[i]? = some P → ds'[i]? = some d → vss[i]? = some vs → Qo t P d vs) → AllF Ps vss.flatten
  | _, [], _, vss, _, _, _, _, hv, _, _ => by obtain rfl := List.length_eq_zero_iff.1 hv; exact rfl
  | [], _ :: _, _, _, _, _, _, _, _, ht, _ => by cases ht
  | t :: ts, P :: Ps, [], _, _, _, _, hd, _, _, _ => by cases hd
  | t :: ts, P :: Ps, d :: ds', [], _, _, _, _, hv, _, _ => by cases hv
  | t :: ts, P :: Ps, d :: ds', v :: vss, k, e1, e2, h1, h2, h3, h => by
    have g1 : (fs.map (·.type))[k]? = some t := by
      have := congrArg (·[0]?) e1
      rw [List.getElem?_drop] at this; exact this.symm
    have g2 : ds[k]? = some d := by
      have := congrArg (·[0]?) e2
      rw [List.getElem?_drop] at this; exact this.symm
    rw [List.getElem?_map] at g1
    obtain ⟨f, g3, rfl⟩ := Option.map_eq_some_iff.1 g1
    refine ⟨v, vss.flatten, by simp, h 0 _ P d v rfl rfl rfl rfl (hl k f d g3 g2), allF_of (t := f.type) hl (k := k + 1) ?_ ?_ ?_ ?_ ?_ fun i t P d vs a b c e => h (i + 1) t P d vs a b c e⟩
    · have := congrArg List.tail e1; rwa [List.tail_drop] at this
    · have := congrArg List.tail e2; rwa [List.tail_drop] at this
    · exact Nat.succ.inj h1
    · exact Nat.succ.inj h2
    · exact Nat.succ.inj h3
theorem rdStruct {t : TypeId} {fs : Array Field} {fuel : Nat} {ts : List TypeId} {Ps : List (List V → Prop)} (hu : Try.prog.underlying t = some (.struct fs)) (hc : contig Try.prog 0 fs.toList = some (Try.prog.cellsOf t)) (ht : fs.toList.map (·.type) = ts)
    (h : RdAll enc sp held w fuel ts Ps) : ReadsF Try.prog enc sp held w (fuel + 1) t (Qo t (AllF Ps)) := by
  obtain ⟨hlen, hg⟩ := rdAll_get h
  have hl1 : fs.toList.length = ts.length := by rw [← ht, List.length_map]
  refine readsF_mono (readsF_struct hu hc (Qs := (ts.zip Ps).map fun p => Qo p.1 p.2) (by rw [List.length_map, List.length_zip, hl1]; omega) ?_) ?_
  · intro i f Q hf hQ
    rw [List.getElem?_map] at hQ
    obtain ⟨⟨t', P⟩, hz, rfl⟩ := Option.map_eq_some_iff.1 hQ
    obtain ⟨h1, h2⟩ := List.getElem?_zip_eq_some.1 hz
    have : ts[i]? = some f.type := by rw [← ht, List.getElem?_map, hf]; rfl
    rw [this] at h1
    obtain rfl := Option.some.inj h1
    exact hg i _ P this h2
  · rintro d vs ⟨ds, vss, rfl, rfl, h1, h2, h3⟩ hl
    rw [List.length_map, List.length_zip] at h1 h2
    refine allF_of (t := t) (fs := fs.toList) (ds := ds) (fun j f d hf hd => light_part hu hl hf hd) (ts := ts) (ds' := ds) (k := 0) ht.symm rfl (by omega) (by omega) hlen fun i t' P d vs a b c e => ?_
    refine h3 i _ d vs ?_ c e
    rw [List.getElem?_map, (List.getElem?_zip_eq_some (z := (t', P))).2 ⟨a, b⟩]; rfl
theorem rdSlice {t e : TypeId} {fuel n b : Nat} {α : Type} {C : α → List V} {B : α → Prop} (hu : Try.prog.underlying t = some (.slice e)) (hn : Try.prog.cellsOf e = n) (hb : Try.prog.bytesOf e = b) (h : ReadsF Try.prog enc sp held w fuel e (Qo e (PX C B))) :
    ReadsF Try.prog enc sp held w (fuel + 1) t (Qo t (PL n b C B)) := by
  refine readsF_mono (readsF_slice hu h) ?_
  rintro d vs ⟨xs, rfl, h2⟩ hl
  rw [hn]
  rcases h2 with ⟨rfl, rfl⟩ | ⟨elems, spare, rfl, h3, h4⟩
  · exact ⟨[], rfl, by simp [LB], fun _ h => by cases h⟩
  · obtain ⟨k1, k2⟩ := light_slice hu hl
    obtain ⟨l, rfl, hp⟩ := ex_list (f := C) (p := B) (xs := xs) fun x hx => by
      obtain ⟨i, hi⟩ := List.mem_iff_getElem?.1 hx
      have hil : i < elems.length := by rw [← h3]; exact (List.getElem?_eq_some_iff.1 hi).1
      have hd := List.getElem?_eq_getElem hil
      exact h4 i _ x hd hi (k2 _ (List.getElem_mem hil))
    refine ⟨l, rfl, ?_, hp⟩
    rw [List.length_map] at h3
    rw [h3]
    rw [hb] at k1
    unfold reachBytes at k1
    omega
theorem rdI {t : TypeId} (hu : Try.prog.underlying t = some (.int .i64)) (fuel : Nat) : ReadsF Try.prog enc sp held w fuel t (Qo t PI) :=
  readsF_mono (reads_int hu fuel) fun _ _ ⟨n, _, _, h⟩ _ => ⟨n, h⟩
theorem rdS {t : TypeId} (hu : Try.prog.underlying t = some .string) (fuel : Nat) : ReadsF Try.prog enc sp held w fuel t (Qo t PS) :=
  readsF_mono (reads_str hu fuel) fun _ _ ⟨n, _, h⟩ _ => ⟨n, h⟩
theorem rdS1 {t : TypeId} (hu : Try.prog.underlying t = some .string) (fuel : Nat) : ReadsF Try.prog enc sp held w fuel t (Qo t (PX stC fun _ => True)) :=
  readsF_mono (reads_str hu fuel) fun _ _ ⟨n, _, h⟩ _ => ⟨n, h, trivial⟩
theorem rdMono {t : TypeId} {P Q : List V → Prop} {fuel : Nat} (h : ReadsF Try.prog enc sp held w fuel t (Qo t P)) (hpq : ∀ vs, P vs → Q vs) : ReadsF Try.prog enc sp held w fuel t (Qo t Q) :=
  readsF_mono h fun _ vs h hl => hpq vs (h hl)
theorem rd0 {t : TypeId} {Q : DataW H → List V → Prop} : ReadsF Try.prog enc sp held w 0 t Q := by intro cs d ps h; cases h

/-- A struct that is handed in. -/
theorem open_structP {t : TypeId} {fs : Array Field} {r : Reach} {b0 : Nat} {v : Value} {d : DataW H} {ps : List MemPlace} (hu : Try.prog.underlying t = some (.struct fs)) (hval : Value.okWide Try.prog w r b0 t v) {P : List V → Prop} (hr : ∀ fuel, ReadsF Try.prog enc sp held w fuel t (Qo t P))
    (hd : DataW.Trod enc Try.prog w 0 sp held t v d ps) : ∃ vs, RepL w (gh0 w) [.agg vs] [v] [] ∧ (Light Try.prog t d → P vs) := by
  unfold Value.okWide at hval
  rw [hu] at hval
  obtain ⟨cs, rfl, _, _⟩ := hval
  obtain ⟨fuel, h⟩ := hd
  obtain ⟨vs, h1, h2⟩ := hr fuel _ d ps h
  exact ⟨vs, .agg (acs := cs.toList) (b1 := []) (bl := []) (RepI.toL h1) .nil, h2⟩
end
end Go.Proofs.Ytpamkokbajmjkaa.Vm
namespace Go.Proofs.Ytpamkokbajmjkaa.Vm
open Go Go.RowKit Go.WideShapes
set_option maxRecDepth 4000
theorem under4 : Try.prog.underlying 4 = some (.bool) := by kernel_rfl
theorem under3 : Try.prog.underlying 3 = some (.int .i64) := by kernel_rfl
theorem under2 : Try.prog.underlying 2 = some (.int .i64) := by kernel_rfl
theorem under9 : Try.prog.underlying 9 = some (.string) := by kernel_rfl
theorem under44 : Try.prog.underlying 44 = some (.slice 115) := by kernel_rfl
theorem under27 : Try.prog.underlying 27 = some (.slice 40) := by kernel_rfl
theorem under38 : Try.prog.underlying 38 = some (.slice 77) := by kernel_rfl
theorem under106 : Try.prog.underlying 106 = some (.slice 111) := by kernel_rfl
theorem under25 : Try.prog.underlying 25 = some (.slice 108) := by kernel_rfl
theorem under43 : Try.prog.underlying 43 = some (.slice 46) := by kernel_rfl
theorem under26 : Try.prog.underlying 26 = some (.slice 58) := by kernel_rfl
theorem under74 : Try.prog.underlying 74 = some (.slice 113) := by kernel_rfl
theorem under75 : Try.prog.underlying 75 = some (.slice 79) := by kernel_rfl
theorem under109 : Try.prog.underlying 109 = some (.slice 156) := by kernel_rfl
theorem under22 : Try.prog.underlying 22 = some (.slice 9) := by kernel_rfl
noncomputable def fsTy : Array Field := match Try.prog.underlying 156 with | some (.struct fs) => fs | _ => #[]
theorem under156 : Try.prog.underlying 156 = some (.struct fsTy) := by kernel_rfl
theorem contigTy : contig Try.prog 0 fsTy.toList = some (Try.prog.cellsOf 156) := by kernel_rfl
theorem typesTy : fsTy.toList.map (·.type) = [3, 3, 9, 109] := by kernel_rfl
theorem cellsTy : Try.prog.cellsOf 156 = 4 := by kernel_rfl
theorem bytesTy : Try.prog.bytesOf 156 = 56 := by kernel_rfl
noncomputable def fsCo : Array Field := match Try.prog.underlying 111 with | some (.struct fs) => fs | _ => #[]
theorem under111 : Try.prog.underlying 111 = some (.struct fsCo) := by kernel_rfl
theorem contigCo : contig Try.prog 0 fsCo.toList = some (Try.prog.cellsOf 111) := by kernel_rfl
theorem typesCo : fsCo.toList.map (·.type) = [9, 109, 32] := by kernel_rfl
theorem cellsCo : Try.prog.cellsOf 111 = 4 := by kernel_rfl
theorem bytesCo : Try.prog.bytesOf 111 = 56 := by kernel_rfl
noncomputable def fsDa : Array Field := match Try.prog.underlying 108 with | some (.struct fs) => fs | _ => #[]
theorem under108 : Try.prog.underlying 108 = some (.struct fsDa) := by kernel_rfl
theorem contigDa : contig Try.prog 0 fsDa.toList = some (Try.prog.cellsOf 108) := by kernel_rfl
theorem typesDa : fsDa.toList.map (·.type) = [9, 22, 106, 32] := by kernel_rfl
theorem cellsDa : Try.prog.cellsOf 108 = 5 := by kernel_rfl
theorem bytesDa : Try.prog.bytesOf 108 = 80 := by kernel_rfl
noncomputable def fsFx : Array Field := match Try.prog.underlying 58 with | some (.struct fs) => fs | _ => #[]
theorem under58 : Try.prog.underlying 58 = some (.struct fsFx) := by kernel_rfl
theorem contigFx : contig Try.prog 0 fsFx.toList = some (Try.prog.cellsOf 58) := by kernel_rfl
theorem typesFx : fsFx.toList.map (·.type) = [9, 3, 3, 32] := by kernel_rfl
theorem cellsFx : Try.prog.cellsOf 58 = 5 := by kernel_rfl
theorem bytesFx : Try.prog.bytesOf 58 = 48 := by kernel_rfl
noncomputable def fsPa : Array Field := match Try.prog.underlying 113 with | some (.struct fs) => fs | _ => #[]
theorem under113 : Try.prog.underlying 113 = some (.struct fsPa) := by kernel_rfl
theorem contigPa : contig Try.prog 0 fsPa.toList = some (Try.prog.cellsOf 113) := by kernel_rfl
theorem typesPa : fsPa.toList.map (·.type) = [3, 9, 2, 74, 32] := by kernel_rfl
theorem cellsPa : Try.prog.cellsOf 113 = 6 := by kernel_rfl
theorem bytesPa : Try.prog.bytesOf 113 = 72 := by kernel_rfl
noncomputable def fsEx : Array Field := match Try.prog.underlying 46 with | some (.struct fs) => fs | _ => #[]
theorem under46 : Try.prog.underlying 46 = some (.struct fsEx) := by kernel_rfl
theorem contigEx : contig Try.prog 0 fsEx.toList = some (Try.prog.cellsOf 46) := by kernel_rfl
theorem typesEx : fsEx.toList.map (·.type) = [3, 9, 2, 22, 43, 44, 27, 32] := by kernel_rfl
theorem cellsEx : Try.prog.cellsOf 46 = 9 := by kernel_rfl
theorem bytesEx : Try.prog.bytesOf 46 = 144 := by kernel_rfl
noncomputable def fsAl : Array Field := match Try.prog.underlying 115 with | some (.struct fs) => fs | _ => #[]
theorem under115 : Try.prog.underlying 115 = some (.struct fsAl) := by kernel_rfl
theorem contigAl : contig Try.prog 0 fsAl.toList = some (Try.prog.cellsOf 115) := by kernel_rfl
theorem typesAl : fsAl.toList.map (·.type) = [113, 75] := by kernel_rfl
theorem cellsAl : Try.prog.cellsOf 115 = 7 := by kernel_rfl
theorem bytesAl : Try.prog.bytesOf 115 = 96 := by kernel_rfl
noncomputable def fsRh : Array Field := match Try.prog.underlying 79 with | some (.struct fs) => fs | _ => #[]
theorem under79 : Try.prog.underlying 79 = some (.struct fsRh) := by kernel_rfl
theorem contigRh : contig Try.prog 0 fsRh.toList = some (Try.prog.cellsOf 79) := by kernel_rfl
theorem typesRh : fsRh.toList.map (·.type) = [43, 46] := by kernel_rfl
theorem cellsRh : Try.prog.cellsOf 79 = 10 := by kernel_rfl
theorem bytesRh : Try.prog.bytesOf 79 = 168 := by kernel_rfl
noncomputable def fsCl : Array Field := match Try.prog.underlying 77 with | some (.struct fs) => fs | _ => #[]
theorem under77 : Try.prog.underlying 77 = some (.struct fsCl) := by kernel_rfl
theorem contigCl : contig Try.prog 0 fsCl.toList = some (Try.prog.cellsOf 77) := by kernel_rfl
theorem typesCl : fsCl.toList.map (·.type) = [74, 75] := by kernel_rfl
theorem cellsCl : Try.prog.cellsOf 77 = 2 := by kernel_rfl
theorem bytesCl : Try.prog.bytesOf 77 = 48 := by kernel_rfl
noncomputable def fsBi : Array Field := match Try.prog.underlying 40 with | some (.struct fs) => fs | _ => #[]
theorem under40 : Try.prog.underlying 40 = some (.struct fsBi) := by kernel_rfl
theorem contigBi : contig Try.prog 0 fsBi.toList = some (Try.prog.cellsOf 40) := by kernel_rfl
theorem typesBi : fsBi.toList.map (·.type) = [9, 38, 32] := by kernel_rfl
theorem cellsBi : Try.prog.cellsOf 40 = 4 := by kernel_rfl
theorem bytesBi : Try.prog.bytesOf 40 = 56 := by kernel_rfl
noncomputable def fsPr : Array Field := match Try.prog.underlying 29 with | some (.struct fs) => fs | _ => #[]
theorem under29 : Try.prog.underlying 29 = some (.struct fsPr) := by kernel_rfl
theorem contigPr : contig Try.prog 0 fsPr.toList = some (Try.prog.cellsOf 29) := by kernel_rfl
theorem typesPr : fsPr.toList.map (·.type) = [25, 26, 27] := by kernel_rfl
theorem cellsPr : Try.prog.cellsOf 29 = 3 := by kernel_rfl
theorem bytesPr : Try.prog.bytesOf 29 = 72 := by kernel_rfl
noncomputable def fsPos : Array Field := match Try.prog.underlying 32 with | some (.struct fs) => fs | _ => #[]
theorem under32 : Try.prog.underlying 32 = some (.struct fsPos) := by kernel_rfl
theorem contigPos : contig Try.prog 0 fsPos.toList = some (Try.prog.cellsOf 32) := by kernel_rfl
theorem typesPos : fsPos.toList.map (·.type) = [3, 3] := by kernel_rfl
theorem cellsPos : Try.prog.cellsOf 32 = 2 := by kernel_rfl
theorem bytesPos : Try.prog.bytesOf 32 = 16 := by kernel_rfl
theorem cellsStr : Try.prog.cellsOf 9 = 1 := by kernel_rfl
theorem bytesStr : Try.prog.bytesOf 9 = 16 := by kernel_rfl
section
variable {w : World} {H : Type} {enc : TypeId × Value → H} {sp : Nat → Bool} {held : Bool}
theorem rdStrs : ∀ fuel, ReadsF Try.prog enc sp held w fuel 22 (Qo 22 (PL 1 16 stC fun _ => True))
  | 0 => rd0
  | fuel + 1 => rdSlice under22 cellsStr bytesStr (rdS1 under9 fuel)
theorem rdPos : ∀ fuel, ReadsF Try.prog enc sp held w fuel 32 (Qo 32 PPos)
  | 0 => rd0
  | fuel + 1 => rdMono (rdStruct (Ps := [PI, PI]) under32 contigPos typesPos ⟨rdI under3 _, rdI under3 _, trivial⟩) fun vs h => by
    obtain ⟨_, _, rfl, ⟨l, rfl⟩, _, _, rfl, ⟨c, rfl⟩, rfl⟩ := h
    exact ⟨l, c, rfl⟩
structure RdTy (enc : TypeId × Value → H) (sp : Nat → Bool) (held : Bool) (w : World) (fuel : Nat) : Prop where
  xTy : ReadsF Try.prog enc sp held w fuel 156 (Qo 156 (PX tyC TyB))
  lTy : ReadsF Try.prog enc sp held w fuel 109 (Qo 109 (PL 4 56 tyC TyB))
theorem allTy : ∀ fuel, RdTy enc sp held w fuel
  | 0 => ⟨rd0, rd0⟩
  | fuel + 1 => by
    have ih : RdTy enc sp held w fuel := allTy fuel
    refine ⟨?_, ?_⟩
    · exact rdMono (rdStruct (Ps := [PI, PI, PS, PL 4 56 tyC TyB]) under156 contigTy typesTy ⟨rdI under3 fuel, rdI under3 fuel, rdS under9 fuel, ih.lTy, trivial⟩) fun vs h => by
        obtain ⟨_, _, rfl, ⟨k, rfl⟩, _, _, rfl, ⟨n, rfl⟩, _, _, rfl, ⟨s, rfl⟩, _, _, rfl, ⟨xs, rfl, xs1, xs2⟩, rfl⟩ := h
        exact ⟨.mk k n s xs, by rw [tyC_eq]; simp, .mk xs1 xs2⟩
    · exact rdSlice (by kernel_rfl) cellsTy bytesTy ih.xTy
theorem rdTy (fuel : Nat) : ReadsF Try.prog enc sp held w fuel 156 (Qo 156 (PX tyC TyB)) := (allTy fuel).xTy
theorem rdTys (fuel : Nat) : ReadsF Try.prog enc sp held w fuel 109 (Qo 109 (PL 4 56 tyC TyB)) := (allTy fuel).lTy
structure RdPa (enc : TypeId × Value → H) (sp : Nat → Bool) (held : Bool) (w : World) (fuel : Nat) : Prop where
  xPa : ReadsF Try.prog enc sp held w fuel 113 (Qo 113 (PX paC PaB))
  lPa : ReadsF Try.prog enc sp held w fuel 74 (Qo 74 (PL 6 72 paC PaB))
theorem allPa : ∀ fuel, RdPa enc sp held w fuel
  | 0 => ⟨rd0, rd0⟩
  | fuel + 1 => by
    have ih : RdPa enc sp held w fuel := allPa fuel
    refine ⟨?_, ?_⟩
    · exact rdMono (rdStruct (Ps := [PI, PS, PI, PL 6 72 paC PaB, PPos]) under113 contigPa typesPa ⟨rdI under3 fuel, rdS under9 fuel, rdI under2 fuel, ih.lPa, rdPos fuel, trivial⟩) fun vs h => by
        obtain ⟨_, _, rfl, ⟨k, rfl⟩, _, _, rfl, ⟨s, rfl⟩, _, _, rfl, ⟨n, rfl⟩, _, _, rfl, ⟨xs, rfl, xs1, xs2⟩, _, _, rfl, ⟨l, c, rfl⟩, rfl⟩ := h
        exact ⟨.mk k s n xs l c, by rw [paC_eq]; simp, .mk xs1 xs2⟩
    · exact rdSlice (by kernel_rfl) cellsPa bytesPa ih.xPa
theorem rdPa (fuel : Nat) : ReadsF Try.prog enc sp held w fuel 113 (Qo 113 (PX paC PaB)) := (allPa fuel).xPa
theorem rdPas (fuel : Nat) : ReadsF Try.prog enc sp held w fuel 74 (Qo 74 (PL 6 72 paC PaB)) := (allPa fuel).lPa
structure RdEx (enc : TypeId × Value → H) (sp : Nat → Bool) (held : Bool) (w : World) (fuel : Nat) : Prop where
  xEx : ReadsF Try.prog enc sp held w fuel 46 (Qo 46 (PX exC ExB))
  lEx : ReadsF Try.prog enc sp held w fuel 43 (Qo 43 (PL 9 144 exC ExB))
  xAl : ReadsF Try.prog enc sp held w fuel 115 (Qo 115 (PX alC AlB))
  lAl : ReadsF Try.prog enc sp held w fuel 44 (Qo 44 (PL 7 96 alC AlB))
  xRh : ReadsF Try.prog enc sp held w fuel 79 (Qo 79 (PX rhC RhB))
  lRh : ReadsF Try.prog enc sp held w fuel 75 (Qo 75 (PL 10 168 rhC RhB))
  xCl : ReadsF Try.prog enc sp held w fuel 77 (Qo 77 (PX clC ClB))
  lCl : ReadsF Try.prog enc sp held w fuel 38 (Qo 38 (PL 2 48 clC ClB))
  xBi : ReadsF Try.prog enc sp held w fuel 40 (Qo 40 (PX biC BiB))
  lBi : ReadsF Try.prog enc sp held w fuel 27 (Qo 27 (PL 4 56 biC BiB))
theorem allEx : ∀ fuel, RdEx enc sp held w fuel
  | 0 => ⟨rd0, rd0, rd0, rd0, rd0, rd0, rd0, rd0, rd0, rd0⟩
  | fuel + 1 => by
    have ih : RdEx enc sp held w fuel := allEx fuel
    refine ⟨?_, ?_, ?_, ?_, ?_, ?_, ?_, ?_, ?_, ?_⟩
    · exact rdMono (rdStruct (Ps := [PI, PS, PI, PL 1 16 stC fun _ => True, PL 9 144 exC ExB, PL 7 96 alC AlB, PL 4 56 biC BiB, PPos]) under46 contigEx typesEx ⟨rdI under3 fuel, rdS under9 fuel, rdI under2 fuel, rdStrs fuel, ih.lEx, ih.lAl, ih.lBi, rdPos fuel, trivial⟩) fun vs h => by
        obtain ⟨_, _, rfl, ⟨k, rfl⟩, _, _, rfl, ⟨s, rfl⟩, _, _, rfl, ⟨n, rfl⟩, _, _, rfl, ⟨ps, rfl, ps1, ps2⟩, _, _, rfl, ⟨xs, rfl, xs1, xs2⟩, _, _, rfl, ⟨al, rfl, al1, al2⟩, _, _, rfl, ⟨bs, rfl, bs1, bs2⟩, _, _, rfl, ⟨l, c, rfl⟩, rfl⟩ := h
        exact ⟨.mk k s n ps xs al bs l c, by rw [exC_eq]; simp, .mk ps1 xs1 al1 bs1 xs2 al2 bs2⟩
    · exact rdSlice (by kernel_rfl) cellsEx bytesEx ih.xEx
    · exact rdMono (rdStruct (Ps := [PX paC PaB, PL 10 168 rhC RhB]) under115 contigAl typesAl ⟨rdPa fuel, ih.lRh, trivial⟩) fun vs h => by
        obtain ⟨_, _, rfl, ⟨q, rfl, qB⟩, _, _, rfl, ⟨rs, rfl, rs1, rs2⟩, rfl⟩ := h
        exact ⟨.mk q rs, by rw [alC_eq]; simp, .mk qB rs1 rs2⟩
    · exact rdSlice (by kernel_rfl) cellsAl bytesAl ih.xAl
    · exact rdMono (rdStruct (Ps := [PL 9 144 exC ExB, PX exC ExB]) under79 contigRh typesRh ⟨ih.lEx, ih.xEx, trivial⟩) fun vs h => by
        obtain ⟨_, _, rfl, ⟨g, rfl, g1, g2⟩, _, _, rfl, ⟨b, rfl, bB⟩, rfl⟩ := h
        exact ⟨.mk g b, by rw [rhC_eq]; simp, .mk g1 g2 bB⟩
    · exact rdSlice (by kernel_rfl) cellsRh bytesRh ih.xRh
    · exact rdMono (rdStruct (Ps := [PL 6 72 paC PaB, PL 10 168 rhC RhB]) under77 contigCl typesCl ⟨rdPas fuel, ih.lRh, trivial⟩) fun vs h => by
        obtain ⟨_, _, rfl, ⟨ps, rfl, ps1, ps2⟩, _, _, rfl, ⟨rs, rfl, rs1, rs2⟩, rfl⟩ := h
        exact ⟨.mk ps rs, by rw [clC_eq]; simp, .mk ps1 ps2 rs1 rs2⟩
    · exact rdSlice (by kernel_rfl) cellsCl bytesCl ih.xCl
    · exact rdMono (rdStruct (Ps := [PS, PL 2 48 clC ClB, PPos]) under40 contigBi typesBi ⟨rdS under9 fuel, ih.lCl, rdPos fuel, trivial⟩) fun vs h => by
        obtain ⟨_, _, rfl, ⟨s, rfl⟩, _, _, rfl, ⟨cs, rfl, cs1, cs2⟩, _, _, rfl, ⟨l, c, rfl⟩, rfl⟩ := h
        exact ⟨.mk s cs l c, by rw [biC_eq]; simp, .mk cs1 cs2⟩
    · exact rdSlice (by kernel_rfl) cellsBi bytesBi ih.xBi
theorem rdEx (fuel : Nat) : ReadsF Try.prog enc sp held w fuel 46 (Qo 46 (PX exC ExB)) := (allEx fuel).xEx
theorem rdExs (fuel : Nat) : ReadsF Try.prog enc sp held w fuel 43 (Qo 43 (PL 9 144 exC ExB)) := (allEx fuel).lEx
theorem rdAl (fuel : Nat) : ReadsF Try.prog enc sp held w fuel 115 (Qo 115 (PX alC AlB)) := (allEx fuel).xAl
theorem rdAls (fuel : Nat) : ReadsF Try.prog enc sp held w fuel 44 (Qo 44 (PL 7 96 alC AlB)) := (allEx fuel).lAl
theorem rdRh (fuel : Nat) : ReadsF Try.prog enc sp held w fuel 79 (Qo 79 (PX rhC RhB)) := (allEx fuel).xRh
theorem rdRhs (fuel : Nat) : ReadsF Try.prog enc sp held w fuel 75 (Qo 75 (PL 10 168 rhC RhB)) := (allEx fuel).lRh
theorem rdCl (fuel : Nat) : ReadsF Try.prog enc sp held w fuel 77 (Qo 77 (PX clC ClB)) := (allEx fuel).xCl
theorem rdCls (fuel : Nat) : ReadsF Try.prog enc sp held w fuel 38 (Qo 38 (PL 2 48 clC ClB)) := (allEx fuel).lCl
theorem rdBi (fuel : Nat) : ReadsF Try.prog enc sp held w fuel 40 (Qo 40 (PX biC BiB)) := (allEx fuel).xBi
theorem rdBis (fuel : Nat) : ReadsF Try.prog enc sp held w fuel 27 (Qo 27 (PL 4 56 biC BiB)) := (allEx fuel).lBi
structure RdCo (enc : TypeId × Value → H) (sp : Nat → Bool) (held : Bool) (w : World) (fuel : Nat) : Prop where
  xCo : ReadsF Try.prog enc sp held w fuel 111 (Qo 111 (PX coC CoB))
  lCo : ReadsF Try.prog enc sp held w fuel 106 (Qo 106 (PL 4 56 coC CoB))
theorem allCo : ∀ fuel, RdCo enc sp held w fuel
  | 0 => ⟨rd0, rd0⟩
  | fuel + 1 => by
    have ih : RdCo enc sp held w fuel := allCo fuel
    refine ⟨?_, ?_⟩
    · exact rdMono (rdStruct (Ps := [PS, PL 4 56 tyC TyB, PPos]) under111 contigCo typesCo ⟨rdS under9 fuel, rdTys fuel, rdPos fuel, trivial⟩) fun vs h => by
        obtain ⟨_, _, rfl, ⟨s, rfl⟩, _, _, rfl, ⟨fs, rfl, fs1, fs2⟩, _, _, rfl, ⟨l, c, rfl⟩, rfl⟩ := h
        exact ⟨⟨s, fs, l, c⟩, by simp [coC], ⟨fs1, fs2⟩⟩
    · exact rdSlice (by kernel_rfl) cellsCo bytesCo ih.xCo
theorem rdCo (fuel : Nat) : ReadsF Try.prog enc sp held w fuel 111 (Qo 111 (PX coC CoB)) := (allCo fuel).xCo
theorem rdCos (fuel : Nat) : ReadsF Try.prog enc sp held w fuel 106 (Qo 106 (PL 4 56 coC CoB)) := (allCo fuel).lCo
structure RdDa (enc : TypeId × Value → H) (sp : Nat → Bool) (held : Bool) (w : World) (fuel : Nat) : Prop where
  xDa : ReadsF Try.prog enc sp held w fuel 108 (Qo 108 (PX daC DaB))
  lDa : ReadsF Try.prog enc sp held w fuel 25 (Qo 25 (PL 5 80 daC DaB))
theorem allDa : ∀ fuel, RdDa enc sp held w fuel
  | 0 => ⟨rd0, rd0⟩
  | fuel + 1 => by
    have ih : RdDa enc sp held w fuel := allDa fuel
    refine ⟨?_, ?_⟩
    · exact rdMono (rdStruct (Ps := [PS, PL 1 16 stC fun _ => True, PL 4 56 coC CoB, PPos]) under108 contigDa typesDa ⟨rdS under9 fuel, rdStrs fuel, rdCos fuel, rdPos fuel, trivial⟩) fun vs h => by
        obtain ⟨_, _, rfl, ⟨s, rfl⟩, _, _, rfl, ⟨ps, rfl, ps1, ps2⟩, _, _, rfl, ⟨cs, rfl, cs1, cs2⟩, _, _, rfl, ⟨l, c, rfl⟩, rfl⟩ := h
        exact ⟨⟨s, ps, cs, l, c⟩, by simp [daC], ⟨ps1, cs1, cs2⟩⟩
    · exact rdSlice (by kernel_rfl) cellsDa bytesDa ih.xDa
theorem rdDa (fuel : Nat) : ReadsF Try.prog enc sp held w fuel 108 (Qo 108 (PX daC DaB)) := (allDa fuel).xDa
theorem rdDas (fuel : Nat) : ReadsF Try.prog enc sp held w fuel 25 (Qo 25 (PL 5 80 daC DaB)) := (allDa fuel).lDa
structure RdFx (enc : TypeId × Value → H) (sp : Nat → Bool) (held : Bool) (w : World) (fuel : Nat) : Prop where
  xFx : ReadsF Try.prog enc sp held w fuel 58 (Qo 58 (PX fxC (fun _ => True)))
  lFx : ReadsF Try.prog enc sp held w fuel 26 (Qo 26 (PL 5 48 fxC (fun _ => True)))
theorem allFx : ∀ fuel, RdFx enc sp held w fuel
  | 0 => ⟨rd0, rd0⟩
  | fuel + 1 => by
    have ih : RdFx enc sp held w fuel := allFx fuel
    refine ⟨?_, ?_⟩
    · exact rdMono (rdStruct (Ps := [PS, PI, PI, PPos]) under58 contigFx typesFx ⟨rdS under9 fuel, rdI under3 fuel, rdI under3 fuel, rdPos fuel, trivial⟩) fun vs h => by
        obtain ⟨_, _, rfl, ⟨s, rfl⟩, _, _, rfl, ⟨a, rfl⟩, _, _, rfl, ⟨v, rfl⟩, _, _, rfl, ⟨l, c, rfl⟩, rfl⟩ := h
        exact ⟨⟨s, a, v, l, c⟩, by simp [fxC], trivial⟩
    · exact rdSlice (by kernel_rfl) cellsFx bytesFx ih.xFx
theorem rdFx (fuel : Nat) : ReadsF Try.prog enc sp held w fuel 58 (Qo 58 (PX fxC (fun _ => True))) := (allFx fuel).xFx
theorem rdFxs (fuel : Nat) : ReadsF Try.prog enc sp held w fuel 26 (Qo 26 (PL 5 48 fxC (fun _ => True))) := (allFx fuel).lFx
structure RdPr (enc : TypeId × Value → H) (sp : Nat → Bool) (held : Bool) (w : World) (fuel : Nat) : Prop where
  xPr : ReadsF Try.prog enc sp held w fuel 29 (Qo 29 (PX prC PrB))
theorem allPr : ∀ fuel, RdPr enc sp held w fuel
  | 0 => ⟨rd0⟩
  | fuel + 1 => by
    have ih : RdPr enc sp held w fuel := allPr fuel
    refine ⟨?_⟩
    · exact rdMono (rdStruct (Ps := [PL 5 80 daC DaB, PL 5 48 fxC (fun _ => True), PL 4 56 biC BiB]) under29 contigPr typesPr ⟨rdDas fuel, rdFxs fuel, rdBis fuel, trivial⟩) fun vs h => by
        obtain ⟨_, _, rfl, ⟨ds, rfl, ds1, ds2⟩, _, _, rfl, ⟨fs, rfl, fs1, fs2⟩, _, _, rfl, ⟨bs, rfl, bs1, bs2⟩, rfl⟩ := h
        exact ⟨⟨ds, fs, bs⟩, by simp [prC], ⟨⟨ds1, ds2⟩, ⟨fs1, fs2⟩, ⟨bs1, bs2⟩⟩⟩
theorem rdPr (fuel : Nat) : ReadsF Try.prog enc sp held w fuel 29 (Qo 29 (PX prC PrB)) := (allPr fuel).xPr
end
end Go.Proofs.Ytpamkokbajmjkaa.Vm
