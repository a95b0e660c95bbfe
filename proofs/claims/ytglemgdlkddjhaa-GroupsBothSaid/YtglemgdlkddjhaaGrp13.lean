/-
The groups, part 13: the finder's methods: look.
-/
import Derived.Test.YtglemgdlkddjhaaGrp12
namespace Go.Proofs.Ytglemgdlkddjhaa.Vm
open Go

def nbU (uses : List (List Int)) (k : Nat) : List Nat := (uses.getD k []).map Int.toNat
theorem nbU_eq {uses : List (List Int)} {k : Nat} {r : List Int} (h : uses[k]? = some r) : nbU uses k = r.map Int.toNat := by
  unfold nbU; rw [List.getD_eq_getElem?_getD, h]; rfl
theorem nbU_at {uses : List (List Int)} (hok : wrongE uses = 0) {k u : Nat} {r : List Int} (h : uses[k]? = some r) (hu : u < r.length) : ∃ t : Nat, r[u]? = some (t : Int) ∧ (nbU uses k)[u]? = some t ∧ t < uses.length := by
  obtain ⟨t, h1, h2⟩ := row_ok hok h (List.getElem_mem hu)
  have h3 : r[u]? = some (t : Int) := by rw [List.getElem?_eq_getElem hu, h1]
  exact ⟨t, h3, by rw [nbU_eq h, List.getElem?_map, h3]; rfl, h2⟩

def frN (fr : List (Nat × Nat)) : List Nat := fr.reverse.flatMap fun p => [p.1, p.2]
theorem frN_cons (k u : Nat) (fr : List (Nat × Nat)) : frN ((k, u) :: fr) = frN fr ++ [k, u] := by simp [frN]
theorem frN_len : ∀ fr : List (Nat × Nat), (frN fr).length = fr.length * 2
  | [] => rfl
  | (k, u) :: fr => by rw [frN_cons, List.length_append, frN_len fr]; simp; omega
theorem nV_get (l : List Nat) (i : Nat) : (nV l)[i]? = l[i]?.map fun (k : Nat) => V.int .i64 (k : Int) := by simp [nV]
theorem fr_at0 {fr : List (Nat × Nat)} {k u : Nat} {rf : List Nat} : (nV (frN ((k, u) :: fr) ++ rf))[fr.length * 2]? = some (.int .i64 k) := by
  rw [nV_get, frN_cons, List.append_assoc, List.getElem?_append_right (by rw [frN_len]; omega), frN_len, Nat.sub_self]; rfl
theorem fr_at1 {fr : List (Nat × Nat)} {k u : Nat} {rf : List Nat} : (nV (frN ((k, u) :: fr) ++ rf))[fr.length * 2 + 1]? = some (.int .i64 u) := by
  rw [nV_get, frN_cons, List.append_assoc, List.getElem?_append_right (by rw [frN_len]; omega), frN_len, show fr.length * 2 + 1 - fr.length * 2 = 1 by omega]; rfl
theorem fr_set {fr : List (Nat × Nat)} {k u : Nat} {rf : List Nat} (x : Nat) : (nV (frN ((k, u) :: fr) ++ rf)).set (fr.length * 2 + 1) (.int .i64 x) = nV (frN ((k, x) :: fr) ++ rf) := by
  rw [frN_cons, frN_cons]
  unfold nV
  rw [List.append_assoc, List.map_append, List.set_append_right _ _ (by rw [List.length_map, frN_len]; omega), List.length_map, frN_len, show fr.length * 2 + 1 - fr.length * 2 = 1 by omega]
  simp
theorem fr_take {fr : List (Nat × Nat)} {rf : List Nat} : (nV (frN fr ++ rf)).take (fr.length * 2) = nV (frN fr) := by
  unfold nV
  rw [← List.map_take, List.take_append_of_le_length (by rw [frN_len]; omega), List.take_of_length_le (by rw [frN_len]; omega)]
theorem fr_len {fr : List (Nat × Nat)} {rf : List Nat} : (nV (frN fr ++ rf)).length = fr.length * 2 + rf.length := by
  rw [nV_len, List.length_append, frN_len]

section
variable {P : Program} {K : KK} {s : List Fr} {E : En} {H : Heap} {tk : List Nat} {dst : Option Nat} {os : List VOp} {keep : List Nat}
@[go_sem] theorem run_min {j k : IntKind} {a b : Int} : runAct P .min [.int j a, .int k b] tk dst os keep s E H K = (j = k ∧ runOps P os keep s ((stripEn tk E).setO dst (.int j (if b < a then b else a))) H K) := (rfl)
def exX (x : Option (List (List V))) (F : List (List V) → Prop) : Prop := ∃ cs, x = some cs ∧ F cs
theorem exX_some {cs : List (List V)} {F : List (List V) → Prop} : exX (some cs) F = F cs := by
  apply propext
  constructor
  · rintro ⟨_, h, k⟩; cases h; exact k
  · intro k; exact ⟨_, rfl, k⟩
theorem run_buildSlG {sz : Nat} {vs : List V} : runAct P (.buildSl sz) vs tk dst os keep s E H K = exX (elems sz vs) fun xs => nextV P (.sl true sz xs) tk dst os keep s E H K := by
  show (∃ r H', sBuildSl sz vs H = some (r, H') ∧ _) = _
  apply propext
  constructor
  · rintro ⟨r, H', h, k⟩
    obtain ⟨cs, h1, h2⟩ := Option.map_eq_some_iff.1 h
    cases h2; exact ⟨cs, h1, k⟩
  · rintro ⟨cs, h1, k⟩
    exact ⟨_, _, by unfold sBuildSl; rw [h1]; rfl, k⟩
theorem run_buildFrG {sz : Nat} {vs : List V} : runAct P (.buildFr sz) vs tk dst os keep s E H K = exX (elems sz vs) fun xs => 0 < xs.length ∧ nextV P (.fr sz xs) tk dst os keep s E H K := by
  show (∃ r H', sBuildFr sz vs H = some (r, H') ∧ _) = _
  apply propext
  constructor
  · rintro ⟨r, H', h, k⟩
    obtain ⟨cs, h1, h2⟩ := Option.bind_eq_some_iff.1 h
    split at h2
    · cases h2; exact ⟨cs, h1, by assumption, k⟩
    · cases h2
  · rintro ⟨cs, h1, h2, k⟩
    exact ⟨_, _, by unfold sBuildFr; rw [h1, Option.bind_some, if_pos h2], k⟩
end
theorem elems_ii (a b : Int) : elems 2 [.agg [.int .i64 a, .int .i64 b]] = some [[.int .i64 a, .int .i64 b]] := by simp [elems, solid, V.cells, inl, plain0, strip0]
theorem min_cast (a b : Nat) : (if ((b : Nat) : Int) < (a : Int) then (b : Int) else (a : Int)) = ((min a b : Nat) : Int) := by
  split <;> omega
theorem ids_nVO (m v : Nat) (l : List Nat) : idsO m (.cells v (nV l)) = true := ids_nV m l

/-- What was looked into stays so. -/
def More (s0 s : FS) : Prop := ∀ x, s0.ord x ≠ 0 → s.ord x ≠ 0

theorem Inv.cutOp {n : Nat} {nb : Nat → List Nat} {s : FS} {fr : List (Nat × Nat)} {k u : Nat} (h : Inv n nb s ((k, u) :: fr)) : ∃ a b, s.op = a ++ k :: b ∧ k ∉ b := by
  obtain ⟨a, b, e⟩ := List.append_of_mem (h.fro _ (List.mem_cons_self ..)).1
  refine ⟨a, b, e, fun hb => ?_⟩
  have := h.rise
  rw [e] at this
  exact Nat.lt_irrefl _ ((List.pairwise_cons.1 (List.pairwise_append.1 this).2.1).1 k hb)
theorem nV_app (a b : List Nat) : nV a ++ nV b = nV (a ++ b) := by simp [nV]
theorem fr_atN {fr : List (Nat × Nat)} {k u k1 u1 : Nat} {rf : List Nat} : (nV (frN ((k, u) :: (k1, u1) :: fr) ++ rf))[fr.length * 2]? = some (.int .i64 k1) := by
  rw [frN_cons, List.append_assoc]; exact fr_at0
theorem look_T {uses : List (List Int)} (hok : wrongE uses = 0) (hr : ∀ r ∈ uses, Big r.length) {s0 : FS} {k0 : Nat} (hinv0 : Inv uses.length (nbU uses) s0 []) (hk0 : k0 < uses.length) (h00 : s0.ord k0 = 0) {H0 : Heap} (hH : H0.length ≤ 7) {ver0 : Nat} {rl0 jl : List Nat}
    (hent : T Try.prog 25 [.ptr 4 0 0, .int .i64 k0] H0 (.agg [.int .i64 k0, .int .i64 0]) (HB uses.length (rows false uses) (enterS s0 k0) ver0 (nV rl0) (nV jl) [])) :
    ∃ r H', T Try.prog 23 [.ptr 4 0 0, .int .i64 k0] H0 r H' ∧ ∃ s ver rl, r = .tup [] ∧ H' = HB uses.length (rows false uses) s ver (nV rl) (nV jl) [] ∧ Inv uses.length (nbU uses) s [] ∧ More (enterS s0 k0) s := by
  refine T.of_ex mix c23 7 rfl ?_
  have hn := len_ok hok
  generalize hK : endX _ _ _ _ = K
  unfold v23
  simp only [go_sem, ↓reduceIte]
  refine ⟨_, _, hent, ?_⟩
  simp only [go_sem, ↓reduceIte, run_buildFrG, elems_ii, exX_some, HB]
  refine WP.loop' (fun m E H => ∃ s fr ver rl v rf ex, Inv uses.length (nbU uses) s fr ∧ More (enterS s0 k0) s ∧ fr.length + zeros uses.length s.ord ≤ uses.length ∧ m = 2 * zeros uses.length s.ord + fr.length ∧
      E = ⟨(0, .ptr 4 0 0) :: (4, .hsl 7 v 0 fr.length 2) :: ex, .u⟩ ∧ H = HB uses.length (rows false uses) s ver (nV rl) (nV jl) [.cells v (nV (frN fr ++ rf))]) (n := 2 * zeros uses.length (enterS s0 k0).ord + 1)
    ⟨enterS s0 k0, [(k0, 0)], ver0, rl0, 0, [], [], ?_, ?_, ?_, rfl, rfl, ?_⟩ ?_
  · exact hinv0.enter hk0 h00 (.inl rfl) (fun _ => rfl)
  · exact fun x hx => hx
  · have h1 := zeros_updN (y := s0.nx + 1) hk0 h00 (by omega)
    have h2 := hinv0.cnt
    have : zeros uses.length (enterS s0 k0).ord = zeros uses.length (updN s0.ord k0 (s0.nx + 1)) := rfl
    rw [this]; simp; omega
  · simp [HB, nV, frN]
  rintro m E H ⟨s, fr, ver, rl, v, rf, ex, inv, more, hfz, rfl, rfl, rfl⟩
  have hnx : s.nx ≤ 2048 := by have := inv.cnt; omega
  have hmny : s.mny ≤ 2048 := by have := inv.mny; omega
  have hopl : s.op.length ≤ 2048 := by have := inv.mny; omega
  match fr, inv, hfz with
  | [], inv, hfz =>
    simp only [go_sem, ↓reduceIte]
    refine ⟨fun h => absurd h (by simp), fun _ => ?_⟩
    rw [← hK]
    refine endX_of trivial hH (by simp [HB]) ?_ (r0 := .tup []) rfl rfl ⟨s, ver, rl, rfl, rfl, inv, more⟩
    exact ids_HB (tl := []) (Nat.le_refl _) rfl (ids_nV _ _) (ids_nV _ _) rfl
  | (k, u) :: fr, inv, hfz =>
    have hd : fr.length + 1 ≤ 2048 := by simp at hfz; omega
    have hw1 : IntKind.i64.wrap (((fr.length + 1 : Nat) : Int) - 1) = ((fr.length : Nat) : Int) := by rw [wrap64 (by omega) (by omega)]; omega
    have hk : k < uses.length := (inv.opn k (inv.fro _ (List.mem_cons_self ..)).1).1
    have hrow : uses[k]? = some uses[k] := List.getElem?_eq_getElem hk
    have hbig := hr _ (List.getElem_mem hk)
    have hdeg : (nbU uses k).length = uses[k].length := by rw [nbU_eq hrow]; simp
    have hu0 : u ≤ uses[k].length := by rw [← hdeg]; exact (inv.fro _ (List.mem_cons_self ..)).2
    simp only [go_sem, ↓reduceIte, ↓run_subW, hw1, Int.toNat_natCast]
    refine ⟨fun _ => ⟨by omega, by omega, ?_⟩, fun h => absurd h (by omega)⟩
    refine WP.loop' (fun m E H => ∃ s1 u ex, Inv uses.length (nbU uses) s1 ((k, u) :: fr) ∧ More (enterS s0 k0) s1 ∧ zeros uses.length s1.ord = zeros uses.length s.ord ∧ m + u = uses[k].length ∧
        E = ⟨(0, .ptr 4 0 0) :: (4, .hsl 7 v 0 (fr.length + 1) 2) :: (5, .ptr 7 v (fr.length * 2)) :: ex, .u⟩ ∧ H = HB uses.length (rows false uses) s1 ver (nV rl) (nV jl) [.cells v (nV (frN ((k, u) :: fr) ++ rf))]) (n := uses[k].length - u)
      ⟨s, u, [], inv, more, rfl, by omega, rfl, rfl⟩ ?_
    clear inv more hu0 hnx hmny hopl
    rintro m E H ⟨s1, u, ex, inv, more, hz, hmu, rfl, rfl⟩
    have hnx : s1.nx ≤ 2048 := by have := inv.cnt; omega
    have hmny : s1.mny ≤ 2048 := by have := inv.mny; omega
    have hopl : s1.op.length ≤ 2048 := by have := inv.mny; omega
    have hg0 := fr_at0 (fr := fr) (k := k) (u := u) (rf := rf)
    have hg1 := fr_at1 (fr := fr) (k := k) (u := u) (rf := rf)
    have hl := fr_len (fr := (k, u) :: fr) (rf := rf)
    rw [List.length_cons] at hl
    have hs := fun x => fr_set (fr := fr) (k := k) (u := u) (rf := rf) x
    have hwu := inc64 (i := u) (by omega)
    by_cases hu : u < uses[k].length
    · obtain ⟨t, ht1, ht2, ht3⟩ := nbU_at hok hrow hu
      rw [HB_def s1]
      simp only [go_sem, ↓reduceIte, ↓ex_map, rows, ints, Int.toNat_natCast, hg0, hg1, ↓run_addW, hwu, hs]
      refine ⟨by omega, _, hrow, fun _ => ⟨by omega, _, hrow, by omega, _, ht1, by omega, by omega, by omega, ?_⟩, fun h => absurd h (by omega)⟩
      rw [Int.toNat_natCast, Nat.mul_one, cN_get ht3]
      have hg0' := fr_at0 (fr := fr) (k := k) (u := u + 1) (rf := rf)
      simp only [go_sem, ↓reduceIte, ↓ex_map, Int.toNat_natCast, Nat.mul_one, cN_get ht3, cB_get ht3, cN_get hk, cN_len, hg0', min_cast, cN_set]
      refine ⟨fun he => ?_, fun hne => ⟨by omega, by omega, fun hi => ⟨by omega, by omega, by omega, by omega, by omega, by omega, by omega, m - 1, by omega, lowS s1 k (s1.ord t), u + 1, _, inv.look ht2 hi, more, hz, by omega, rfl, rfl⟩,
        fun hi => ⟨m - 1, by omega, s1, u + 1, _, inv.skip ht2 (by simp at hne; omega) hi, more, hz, by omega, rfl, rfl⟩⟩⟩
      have h0 : s1.ord t = 0 := by simp at he; omega
      refine ⟨_, _, enterB_T (.cells v (nV (frN ((k, u + 1) :: fr) ++ rf))) uses.length (rows false uses) s1 ver (nV rl) (nV jl) t ht3 hnx hopl rfl (ids_nV _ _) (ids_nVO _ _ _), ?_⟩
      rw [HB_def (enterS s1 t)]
      have hft := fr_take (fr := (k, u + 1) :: fr) (rf := rf)
      have hfl := fr_len (fr := (k, u + 1) :: fr) (rf := rf)
      rw [List.length_cons] at hft hfl
      simp only [go_sem, ↓reduceIte, run_buildSlG, elems_ii, exX_some, hft, hfl]
      have hz1 := zeros_updN (y := s1.nx + 1) ht3 h0 (by omega)
      have hz2 : zeros uses.length (enterS s1 t).ord + 1 = zeros uses.length s.ord := by rw [← hz]; exact hz1
      rw [List.length_cons] at hfz
      refine ⟨by simp [fits]; omega, by omega, 2 * zeros uses.length (enterS s1 t).ord + (fr.length + 1 + 1), by omega, enterS s1 t, (t, 0) :: (k, u + 1) :: fr, ver + 1, [], v + 1, [], [],
        inv.enter ht3 h0 (.inr ⟨u, k, fr, rfl, rfl, ht2⟩) (fun e => by simp at e), fun x hx => ?_, by simp only [List.length_cons]; omega, rfl, rfl, ?_⟩
      · have := more x hx
        rw [enter_ord (by rintro rfl; exact this h0)]; exact this
      · simp [HB, frN_cons, nV, rows, ints]
    · have hdu : (nbU uses k).length ≤ u := by omega
      match fr, inv, hfz, hd, hw1, hg0, hg1, hl, hs with
      | [], inv, hfz, hd, hw1, hg0, hg1, hl, hs =>
        have hw0 : IntKind.i64.wrap (((1 : Nat) : Int) - 1) = ((0 : Nat) : Int) := rfl
        rw [List.length_nil, Nat.zero_mul] at hg0
        rw [List.length_nil, Nat.zero_mul, Nat.zero_add] at hg1
        rw [HB_def s1]
        simp only [go_sem, ↓reduceIte, ↓ex_map, rows, ints, Int.toNat_natCast, hg0, hg1, ↓run_addW, ↓run_subW, hw0, hs, Nat.zero_mul]
        refine ⟨by omega, _, hrow, fun h => absurd h (by omega), fun _ => ?_⟩
        obtain ⟨a, b, hop, hb⟩ := inv.cutOp
        have hlo := inv.lone
        refine ⟨⟨by omega, by omega⟩, fun h => absurd h (by omega), fun _ => ⟨_, _, leaveY_T (.cells v (nV (frN [(k, u)] ++ rf))) uses.length (rows false uses) s1 ver (nV rl) (nV jl) k hk hlo hop hb (fun x hx => (inv.opn x hx).1) hopl hmny rfl (ids_nV _ _) (ids_nV _ _) (ids_nVO _ _ _), ?_⟩⟩
        simp only [List.length_cons, List.length_nil] at hfz
        refine ⟨2 * zeros uses.length s1.ord, by omega, closeS s1 a (k :: b), [], ver, (k :: b) ++ rl, v, [k, u] ++ rf, [], inv.close hdu hlo hop, more, ?_, rfl, rfl, ?_⟩
        · show 0 + zeros uses.length s1.ord ≤ _
          omega
        · rw [frN_cons, nV_app, List.append_assoc]
          rfl
      | (k1, u1) :: fr, inv, hfz, hd, hw1, hg0, hg1, hl, hs =>
        have hk1 : k1 < uses.length := (inv.opn k1 (inv.fro (k1, u1) (List.mem_cons_of_mem _ (List.mem_cons_self ..))).1).1
        have hne : k ≠ k1 := by
          rintro rfl
          exact Nat.lt_irrefl (s1.ord k) ((List.pairwise_cons.1 inv.frd).1 (k, u1) (List.mem_cons_self ..))
        rw [List.length_cons] at hg0 hg1 hl
        simp only [List.length_cons] at hs hd hw1 hfz
        have hgN := fr_atN (fr := fr) (k := k) (u := u) (k1 := k1) (u1 := u1) (rf := rf)
        have hw2 : IntKind.i64.wrap (((fr.length + 1 : Nat) : Int) - 1) = ((fr.length : Nat) : Int) := by rw [wrap64 (by omega) (by omega)]; omega
        rw [HB_def s1]
        simp only [go_sem, ↓reduceIte, ↓ex_map, rows, ints, Int.toNat_natCast, hg0, hg1, hgN, ↓run_addW, ↓run_subW, hw1, hw2, hs, Nat.mul_one, cN_get hk1, cN_get hk, cN_len, min_cast, cN_set]
        refine ⟨by omega, _, hrow, fun h => absurd h (by omega), fun _ => ?_⟩
        refine ⟨⟨by omega, by omega⟩, fun _ => ⟨by omega, by omega, by omega, by omega, by omega, by omega, by omega, by omega, by omega, ?_⟩, fun h => absurd h (by omega)⟩
        by_cases hlo : s1.low k = s1.ord k
        · obtain ⟨a, b, hop, hb⟩ := inv.cutOp
          have hsame : updN s1.low k1 (min (s1.low k1) (s1.low k)) = s1.low := congrArg FS.low (inv.same hlo)
          rw [hsame]
          refine ⟨_, _, leaveY_T (.cells v (nV (frN ((k, u) :: (k1, u1) :: fr) ++ rf))) uses.length (rows false uses) s1 ver (nV rl) (nV jl) k hk hlo hop hb (fun x hx => (inv.opn x hx).1) hopl hmny rfl (ids_nV _ _) (ids_nV _ _) (ids_nVO _ _ _),
            2 * zeros uses.length s1.ord + (fr.length + 1), by omega, closeS s1 a (k :: b), (k1, u1) :: fr, ver, (k :: b) ++ rl, v, [k, u] ++ rf, [], inv.close hdu hlo hop, more, ?_, rfl, rfl, ?_⟩
          · show fr.length + 1 + zeros uses.length s1.ord ≤ _
            omega
          · rw [frN_cons k u, nV_app, List.append_assoc]
            rfl
        · refine ⟨_, _, leaveN_T (.cells v (nV (frN ((k, u) :: (k1, u1) :: fr) ++ rf))) uses.length (rows false uses) (lowS s1 k1 (s1.low k)) ver (nV rl) (nV jl) k hk ?_,
            2 * zeros uses.length s1.ord + (fr.length + 1), by omega, lowS s1 k1 (s1.low k), (k1, u1) :: fr, ver, rl, v, [k, u] ++ rf, [], inv.stay hdu hlo, more, ?_, rfl, rfl, ?_⟩
          · show updN s1.low k1 _ k ≠ s1.ord k
            rw [updN_other _ _ hne]; exact hlo
          · show fr.length + 1 + zeros uses.length s1.ord ≤ _
            omega
          · rw [frN_cons k u, List.append_assoc]
            rfl
end Go.Proofs.Ytglemgdlkddjhaa.Vm
