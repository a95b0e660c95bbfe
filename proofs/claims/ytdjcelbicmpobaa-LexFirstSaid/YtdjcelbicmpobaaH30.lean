-- LAID BY A PROGRAM OF THIS SESSION (wip/tools/patch_print.py over the print): not trusted; Lean checks it.
import Derived.Test.YtdjcelbicmpobaaH0
import Derived.Test.YtdjcelbicmpobaaH1
import Derived.Test.YtdjcelbicmpobaaH11
import Derived.Test.YtdjcelbicmpobaaH23
import Derived.Test.YtdjcelbicmpobaaH27
namespace Go.Proofs.Ytdjcelbicmpobaa.H
open Go.RowKit Go.Proofs.YtdjcelbicmpobaaW.PrintWords Go.Proofs.YtdjcelbicmpobaaW.PrintLast Go.Proofs.YtdjcelbicmpobaaW.PrintMore
attribute [local go_sem] max2_int min2_int max_two min_two max_three min_three max_four min_four   -- for this text's walks alone
set_option linter.unusedVariables false
set_option linter.unusedSimpArgs false

attribute [local go_sem high] eqA27
/-! ### changelinglaw02_LexFirst: function 7 -/
def changelinglaw02_LexFirst.j0 : Nat → ByteArray → Bool → Int → Int → Int → Option (Bool)
 | 0, _, _, _, _, _ => none
 | k + 1, x0, x20, x323000, x323001, x323002 => if x20 = true then (if x323000 = 0 then ((changelinglaw02_known.f k).bind fun t323 => (some t323)) else (if (x323000 == 2 && ((x323001 == 1 && (x323002 == 1)))) = true then ((changelinglaw02_known.f k).bind fun t324 => (some t324)) else (some false))) else ((changelingref02_Offset.f k x0 x323001 x323002).bind fun t325 => (if t325 ≥ (x0.size : Int) then (some false) else (if 0 ≤ t325 then (if t325 ≤ (x0.size : Int) then ((lex_Tokens.f k (x0.extract 0 (t325 : Int).toNat)).bind fun bt326 => (if (bt326.2.1 == 0 && ((bt326.2.2.1 == 0 && (bt326.2.2.2 == 0)))) = true then ((changelinglaw02_known.f k).bind fun t333 => (some t333)) else (some false))) else (none)) else (none))))
def changelinglaw02_LexFirst.f (k : Nat) (a0 : ByteArray) : Option (Bool) := (lex_Tokens.f k a0).bind fun bt316 => (if bt316.2.1 = 0 then (changelinglaw02_LexFirst.j0 k a0 true bt316.2.1 bt316.2.2.1 bt316.2.2.2) else (changelinglaw02_LexFirst.j0 k a0 (decide ((a0.size : Int) > 8192)) bt316.2.1 bt316.2.2.1 bt316.2.2.2))
theorem changelinglaw02_LexFirst.mono_l : ∀ k, (∀ y0 y1 y2 y3 y4, LeO (changelinglaw02_LexFirst.j0 k y0 y1 y2 y3 y4) (changelinglaw02_LexFirst.j0 (k + 1) y0 y1 y2 y3 y4))
 | 0 => fun _ _ _ _ _ r h => by simp [changelinglaw02_LexFirst.j0] at h
 | k + 1 => by
  have ih0 := changelinglaw02_LexFirst.mono_l k
  ·intro y0 y1 y2 y3 y4
   unfold changelinglaw02_LexFirst.j0
   repeat' first
   | (with_reducible exact ih0 _ _ _ _ _)
   | (with_reducible exact changelinglaw02_known.mono _)
   | (with_reducible exact changelingref02_Offset.mono _ _ _ _)
   | (with_reducible exact lex_Tokens.mono _ _)
   | (with_reducible exact LeO.refl _)
   | (with_reducible exact LeO.none _)
   | (with_reducible refine LeO.ite ?_ ?_)
   | (with_reducible refine LeO.bind ?_ (fun _ => ?_))
   | exact ih0 _ _ _ _ _
   | exact changelinglaw02_known.mono _
   | exact changelingref02_Offset.mono _ _ _ _
   | exact lex_Tokens.mono _ _
   | exact LeO.none _
   | refine LeO.ite ?_ ?_
   | refine LeO.bind ?_ (fun _ => ?_)
theorem changelinglaw02_LexFirst.mono : ∀ a0 k, LeO (changelinglaw02_LexFirst.f k a0) (changelinglaw02_LexFirst.f (k + 1) a0) := by
 intro a0 k
 have ih0 := changelinglaw02_LexFirst.mono_l k
 unfold changelinglaw02_LexFirst.f
 repeat' first
   | (with_reducible exact ih0 _ _ _ _ _)
   | (with_reducible exact changelinglaw02_known.mono _)
   | (with_reducible exact changelingref02_Offset.mono _ _ _ _)
   | (with_reducible exact lex_Tokens.mono _ _)
   | (with_reducible exact LeO.refl _)
   | (with_reducible exact LeO.none _)
   | (with_reducible refine LeO.ite ?_ ?_)
   | (with_reducible refine LeO.bind ?_ (fun _ => ?_))
   | exact ih0 _ _ _ _ _
   | exact changelinglaw02_known.mono _
   | exact changelingref02_Offset.mono _ _ _ _
   | exact lex_Tokens.mono _ _
   | exact LeO.none _
   | refine LeO.ite ?_ ?_
   | refine LeO.bind ?_ (fun _ => ?_)
set_option maxHeartbeats 8000000 in
set_option maxRecDepth 100000 in
theorem changelinglaw02_LexFirst.calls (k : Nat) (a0 : ByteArray) (r : Bool) (w : World) (h : changelinglaw02_LexFirst.f k a0 = some r) :
  Calls Try.prog 7 #[.string a0] w fun e w' => e = .returned (.bool r) ∧ Below w.heap.size w w' := by
 have hu27 := Try.underlying27
 have hu25 := Try.underlying25
 have HB := Aside0.mk (Below.refl w.heap.size w)
 have H : ((lex_Tokens.f k a0).bind fun bt316 => (if bt316.2.1 = 0 then (changelinglaw02_LexFirst.j0 k a0 true bt316.2.1 bt316.2.2.1 bt316.2.2.2) else (changelinglaw02_LexFirst.j0 k a0 (decide ((a0.size : Int) > 8192)) bt316.2.1 bt316.2.2.1 bt316.2.2.2))) = some r := h
 clear h
 replace H := Option.bind_eq_some_iff.mp H
 obtain ⟨⟨t316, t319, t320, t321⟩, A20, H⟩ := H
 replace H : (if t319 = 0 then (changelinglaw02_LexFirst.j0 k a0 true t319 t320 t321) else (changelinglaw02_LexFirst.j0 k a0 (decide ((a0.size : Int) > 8192)) t319 t320 t321)) = some r := H
 have A2 := Aside0.mk A20
 clear A20
 have HC3 := Aside0.mk H
 clear H
 go_enter Try.func7, Try.ntmps7
 go_upto_region 2 with (first | ((with_reducible refine gate_callee (f := 9) rfl ?_); refine goesL_ (some 10) rfl rfl Try.func9 (by kernel_rfl) rfl #[.string a0] rfl (by (try simp only [List.map_toArray, List.map_cons, List.map_nil]); first | done | rfl | (simp only [List.length_drop, List.length_take]; rfl)) ?_; (with_reducible refine (lex_Tokens.calls k a0 t316 t319 t320 t321 _ A2.out).mono ?_); rintro e w4 ⟨v317, rfl, ho0, hb⟩; refine ⟨_, rfl, ?_⟩; have n0_ := Aside0.mk (Kd.R_lower ho0 (below_size (by repeat (first | (with_reducible first | exact HB.out | apply below_alloc | apply pw_below_drewN | apply below_drew1) | exact HB.out)))); have n1_ := Aside0.mk (below_step (by repeat (first | (with_reducible first | exact HB.out | apply below_alloc | apply pw_below_drewN | apply below_drew1) | exact HB.out)) hb); clear HB; have HO318 := n0_; have HB := n1_; clear n0_ n1_; (try clear hb); (try clear hb2); (try clear hk); (try clear hi); (try clear ho0)) | ((with_reducible refine gate_dst (N := 4) rfl ?_); (try (refine gate_guard (by rfl) ?_; dsimp only)); refine box_event ?hg (N := 4) ?hd (cs := #[.int .i64 0, .int .i64 0, .int .i64 0]) (t := 27) ?hr ?_; (case hd => rfl); (case hg => rfl); (case hr => first | (go_simp; done) | (go_simp; rfl)); intro gb322 hg w5 hbox hb; have n0_ := Aside0.mk (Kd.R_below (by (with_reducible repeat (first | apply Kd.R_alloc | apply Kd.R_drewN | apply Kd.R_drew)); exact HO318.out) hb); have n1_ := Aside0.mk (below_step (by repeat (first | (with_reducible first | exact HB.out | apply below_alloc | apply pw_below_drewN | apply below_drew1) | exact HB.out)) hb); have n2_ := Aside0.mk (hbox); have n3_ := Aside0.mk ((by rw [hg]; exact (below_size (by repeat (first | (with_reducible first | exact HB.out | apply below_alloc | apply pw_below_drewN | apply below_drew1) | exact HB.out))) : w.heap.size ≤ gb322)); have n4_ := Aside0.mk ((by rw [hg]; exact (below_size (by repeat (first | (with_reducible first | exact HB.out | apply below_alloc | apply pw_below_drewN | apply below_drew1) | exact HB.out))) : w.heap.size ≤ gb322)); clear HO318; clear HB; have HO318 := n0_; have HB := n1_; have BK322 := n2_; have GW322 := n3_; have GE322 := n4_; clear n0_ n1_ n2_ n3_ n4_; clear hb hbox hg; have hcz6_0 : w5.cell? ⟨gb322, 0, none⟩ = some (.int .i64 0) := (blk_cell BK322.out 0).trans rfl; have hcz6_1 : w5.cell? ⟨gb322, 1, none⟩ = some (.int .i64 0) := (blk_cell BK322.out 1).trans rfl; have hcz6_2 : w5.cell? ⟨gb322, 2, none⟩ = some (.int .i64 0) := (blk_cell BK322.out 2).trans rfl; have hfz6_0 := blk_frozen BK322.out 0; have hfz6_1 := blk_frozen BK322.out 1; have hfz6_2 := blk_frozen BK322.out 2))
 (try simp only [Act.put, List.setIfInBounds_toArray, List.set_cons_zero, List.set_cons_succ])
 go_cut [20] (fun v20 wc => ∃ (kq : Nat) (x20_2 : Bool), v20 = .bool x20_2 ∧ Aside0 (changelinglaw02_LexFirst.j0 kq a0 x20_2 t319 t320 t321 = some r) ∧ Aside0 (kq ≤ k) ∧ Aside0 (wc.heap[gb322]? = some (.cells #[.int .i64 t319, .int .i64 t320, .int .i64 t321] 27 (0, 0))) ∧ Aside0 (Below w.heap.size w wc))
 case first =>
  have H := HC3.out
  clear HC3
  by_cases c7 : t319 = 0
  ·rw [if_pos c7] at H
   have c7b0 : (t319 == 0) = true := beq_iff_eq.mpr c7
   have c7b1 : (t319 != 0) = false := bne_eq_false_iff_eq.mpr c7
   clear c7
   (first | rw [c7b0] | (simp only [i64_w, i32_w]; rw [c7b0]) | skip)
   have H' := Aside0.mk H
   clear H
   have hcz8_0 : w5.cell? ⟨gb322, 0, none⟩ = some (.int .i64 0) := (blk_cell BK322.out 0).trans rfl
   have hcz8_1 : w5.cell? ⟨gb322, 1, none⟩ = some (.int .i64 0) := (blk_cell BK322.out 1).trans rfl
   have hcz8_2 : w5.cell? ⟨gb322, 2, none⟩ = some (.int .i64 0) := (blk_cell BK322.out 2).trans rfl
   have hfz8_0 := blk_frozen BK322.out 0
   have hfz8_1 := blk_frozen BK322.out 1
   have hfz8_2 := blk_frozen BK322.out 2
   go_wp2
   go_meet
   case rel => exact ⟨_, (true), (by first | rfl | (simp; done) | (simp [*]; done)), H', ⟨by first | omega | exact Nat.le_refl _⟩, ⟨by (with_reducible repeat (first | refine blk_drewN ?_ _ | refine blk_drew ?_ | refine blk_alloc ?_ _)); refine blk_put (cs := #[.int .i64 t319, .int .i64 t320, .int .i64 0]) ?_ 2 _ rfl; (with_reducible repeat (first | refine blk_drewN ?_ _ | refine blk_drew ?_ | refine blk_alloc ?_ _)); refine blk_put (cs := #[.int .i64 t319, .int .i64 0, .int .i64 0]) ?_ 1 _ rfl; (with_reducible repeat (first | refine blk_drewN ?_ _ | refine blk_drew ?_ | refine blk_alloc ?_ _)); refine blk_put (cs := #[.int .i64 0, .int .i64 0, .int .i64 0]) ?_ 0 _ rfl; (with_reducible repeat (first | refine blk_drewN ?_ _ | refine blk_drew ?_ | refine blk_alloc ?_ _)); exact BK322.out⟩, ⟨by repeat (first | (with_reducible first | exact HB.out | apply below_alloc | apply pw_below_drewN | apply below_drew1 | refine below_set ?_ GE322.out) | exact HB.out)⟩⟩
  ·rw [if_neg c7] at H
   have c7b0 : (t319 == 0) = false := beq_eq_false_iff_ne.mpr c7
   have c7b1 : (t319 != 0) = true := bne_iff_ne.mpr c7
   (first | rw [c7b0] | (simp only [i64_w, i32_w]; rw [c7b0]) | skip)
   have H' := Aside0.mk H
   clear H
   have hcz9_0 : w5.cell? ⟨gb322, 0, none⟩ = some (.int .i64 0) := (blk_cell BK322.out 0).trans rfl
   have hcz9_1 : w5.cell? ⟨gb322, 1, none⟩ = some (.int .i64 0) := (blk_cell BK322.out 1).trans rfl
   have hcz9_2 : w5.cell? ⟨gb322, 2, none⟩ = some (.int .i64 0) := (blk_cell BK322.out 2).trans rfl
   have hfz9_0 := blk_frozen BK322.out 0
   have hfz9_1 := blk_frozen BK322.out 1
   have hfz9_2 := blk_frozen BK322.out 2
   go_wp2
   go_meet
   case rel => exact ⟨_, (decide ((a0.size : Int) > 8192)), (by first | rfl | (simp; done) | (simp [*]; done)), H', ⟨by first | omega | exact Nat.le_refl _⟩, ⟨by (with_reducible repeat (first | refine blk_drewN ?_ _ | refine blk_drew ?_ | refine blk_alloc ?_ _)); refine blk_put (cs := #[.int .i64 t319, .int .i64 t320, .int .i64 0]) ?_ 2 _ rfl; (with_reducible repeat (first | refine blk_drewN ?_ _ | refine blk_drew ?_ | refine blk_alloc ?_ _)); refine blk_put (cs := #[.int .i64 t319, .int .i64 0, .int .i64 0]) ?_ 1 _ rfl; (with_reducible repeat (first | refine blk_drewN ?_ _ | refine blk_drew ?_ | refine blk_alloc ?_ _)); refine blk_put (cs := #[.int .i64 0, .int .i64 0, .int .i64 0]) ?_ 0 _ rfl; (with_reducible repeat (first | refine blk_drewN ?_ _ | refine blk_drew ?_ | refine blk_alloc ?_ _)); exact BK322.out⟩, ⟨by repeat (first | (with_reducible first | exact HB.out | apply below_alloc | apply pw_below_drewN | apply below_drew1 | refine below_set ?_ GE322.out) | exact HB.out)⟩⟩
 case rest =>
  clear HC3
  try clear p2
  try clear c7
  try clear c7b0
  try clear c7b1
  try clear c9
  try clear hcz6_0
  try clear hcz6_1
  try clear hcz6_2
  try clear hcz8_0
  try clear hcz8_1
  try clear hcz8_2
  try clear hcz9_0
  try clear hcz9_1
  try clear hcz9_2
  try clear hfz6_0
  try clear hfz6_1
  try clear hfz6_2
  try clear hfz8_0
  try clear hfz8_1
  try clear hfz8_2
  try clear hfz9_0
  try clear hfz9_1
  try clear hfz9_2
  obtain ⟨kq, x20_2, rfl, HA, HJ2, BK322, HB⟩ := hcut
  cases kq with
  | zero => exact absurd HA.out (by simp [changelinglaw02_LexFirst.j0])
  | succ kj2 =>
   have H := HA.out
   clear HA
   simp only [changelinglaw02_LexFirst.j0] at H
   by_cases c10 : x20_2 = true
   ·subst c10
    have H1 : (if t319 = 0 then ((changelinglaw02_known.f kj2).bind fun t323 => (some t323)) else (if (t319 == 2 && ((t320 == 1 && (t321 == 1)))) = true then ((changelinglaw02_known.f kj2).bind fun t324 => (some t324)) else (some false))) = some r := by rw [if_pos rfl] at H; exact H
    clear H
    have H := H1
    clear H1
    by_cases c11 : t319 = 0
    ·rw [if_pos c11] at H
     have c11b0 : (t319 == 0) = true := beq_iff_eq.mpr c11
     have c11b1 : (t319 != 0) = false := bne_eq_false_iff_eq.mpr c11
     clear c11
     replace H := Option.bind_eq_some_iff.mp H
     obtain ⟨t323, A120, H⟩ := H
     replace H : (some t323) = some r := H
     have A12 := Aside0.mk A120
     clear A120
     obtain rfl := Option.some.inj H
     have hcz13_0 : wc.cell? ⟨gb322, 0, none⟩ = some (.int .i64 t319) := (blk_cell BK322.out 0).trans rfl
     have hcz13_1 : wc.cell? ⟨gb322, 1, none⟩ = some (.int .i64 t320) := (blk_cell BK322.out 1).trans rfl
     have hcz13_2 : wc.cell? ⟨gb322, 2, none⟩ = some (.int .i64 t321) := (blk_cell BK322.out 2).trans rfl
     have hfz13_0 := blk_frozen BK322.out 0
     have hfz13_1 := blk_frozen BK322.out 1
     have hfz13_2 := blk_frozen BK322.out 2
     go_wp2_with (first | (go_at_call 12; (with_reducible refine (changelinglaw02_known.calls kj2  t323 _ A12.out).mono ?_); rintro e w14 ⟨rfl, hb⟩; have n0_ := Aside0.mk (blk_below (g := gb322) (o := .cells #[.int .i64 t319, .int .i64 t320, .int .i64 t321] 27 (0, 0)) (by (with_reducible repeat (first | refine blk_drewN ?_ _ | refine blk_drew ?_ | refine blk_alloc ?_ _)); exact BK322.out) hb); have n1_ := Aside0.mk (below_step (by repeat (first | (with_reducible first | exact HB.out | apply below_alloc | apply pw_below_drewN | apply below_drew1 | refine below_set ?_ GE322.out) | exact HB.out)) hb); clear BK322; clear HB; have BK322 := n0_; have HB := n1_; clear n0_ n1_; (try clear hb); (try clear hb2); (try clear hk); (try clear hi)))
     go_ret
     exact ⟨by first | rfl | (simp [errW_none, errW_some] <;> rfl) | (simp [*, errW_none, errW_some] <;> rfl), by repeat (first | (with_reducible first | exact HB.out | apply below_alloc | apply pw_below_drewN | apply below_drew1 | refine below_set ?_ GE322.out) | exact HB.out)⟩
    ·rw [if_neg c11] at H
     have c11b0 : (t319 == 0) = false := beq_eq_false_iff_ne.mpr c11
     have c11b1 : (t319 != 0) = true := bne_iff_ne.mpr c11
     by_cases c15 : (t319 == 2 && ((t320 == 1 && (t321 == 1)))) = true
     ·rw [if_pos c15] at H
      have c15b0 : (t319 == 2 && ((t320 == 1 && (t321 == 1)))) = true := c15
      (try (have c15b1 : decide (t319 = 2 && ((t320 == 1 && (t321 == 1)))) = true := by simpa using c15))
      (try (have c15b2 : (t319 == 2 && ((t320 == 1 && (t321 == 1)))) = true := by simpa using c15))
      clear c15
      replace H := Option.bind_eq_some_iff.mp H
      obtain ⟨t324, A160, H⟩ := H
      replace H : (some t324) = some r := H
      have A16 := Aside0.mk A160
      clear A160
      obtain rfl := Option.some.inj H
      have hcz17_0 : wc.cell? ⟨gb322, 0, none⟩ = some (.int .i64 t319) := (blk_cell BK322.out 0).trans rfl
      have hcz17_1 : wc.cell? ⟨gb322, 1, none⟩ = some (.int .i64 t320) := (blk_cell BK322.out 1).trans rfl
      have hcz17_2 : wc.cell? ⟨gb322, 2, none⟩ = some (.int .i64 t321) := (blk_cell BK322.out 2).trans rfl
      have hfz17_0 := blk_frozen BK322.out 0
      have hfz17_1 := blk_frozen BK322.out 1
      have hfz17_2 := blk_frozen BK322.out 2
      go_wp2_with (first | (go_at_call 12; (with_reducible refine (changelinglaw02_known.calls kj2  t324 _ A16.out).mono ?_); rintro e w18 ⟨rfl, hb⟩; have n0_ := Aside0.mk (blk_below (g := gb322) (o := .cells #[.int .i64 t319, .int .i64 t320, .int .i64 t321] 27 (0, 0)) (by (with_reducible repeat (first | refine blk_drewN ?_ _ | refine blk_drew ?_ | refine blk_alloc ?_ _)); exact BK322.out) hb); have n1_ := Aside0.mk (below_step (by repeat (first | (with_reducible first | exact HB.out | apply below_alloc | apply pw_below_drewN | apply below_drew1 | refine below_set ?_ GE322.out) | exact HB.out)) hb); clear BK322; clear HB; have BK322 := n0_; have HB := n1_; clear n0_ n1_; (try clear hb); (try clear hb2); (try clear hk); (try clear hi)))
      go_ret
      exact ⟨by first | rfl | (simp [errW_none, errW_some] <;> rfl) | (simp [*, errW_none, errW_some] <;> rfl), by repeat (first | (with_reducible first | exact HB.out | apply below_alloc | apply pw_below_drewN | apply below_drew1 | refine below_set ?_ GE322.out) | exact HB.out)⟩
     ·rw [if_neg c15] at H
      have c15b0 : (t319 == 2 && ((t320 == 1 && (t321 == 1)))) = false := by simpa using c15
      (try (have c15b1 : decide (t319 = 2 && ((t320 == 1 && (t321 == 1)))) = false := by simpa using c15))
      (try (have c15b2 : (t319 == 2 && ((t320 == 1 && (t321 == 1)))) = false := by simpa using c15))
      (try (have c15b3 : ¬ (t319 = 2 && ((t320 == 1 && (t321 == 1)))) := by simpa using c15))
      clear c15
      obtain rfl := Option.some.inj H
      have hcz19_0 : wc.cell? ⟨gb322, 0, none⟩ = some (.int .i64 t319) := (blk_cell BK322.out 0).trans rfl
      have hcz19_1 : wc.cell? ⟨gb322, 1, none⟩ = some (.int .i64 t320) := (blk_cell BK322.out 1).trans rfl
      have hcz19_2 : wc.cell? ⟨gb322, 2, none⟩ = some (.int .i64 t321) := (blk_cell BK322.out 2).trans rfl
      have hfz19_0 := blk_frozen BK322.out 0
      have hfz19_1 := blk_frozen BK322.out 1
      have hfz19_2 := blk_frozen BK322.out 2
      go_wp2
      go_ret
      exact ⟨by first | rfl | (simp [errW_none, errW_some] <;> rfl) | (simp [*, errW_none, errW_some] <;> rfl), by repeat (first | (with_reducible first | exact HB.out | apply below_alloc | apply pw_below_drewN | apply below_drew1 | refine below_set ?_ GE322.out) | exact HB.out)⟩
   ·replace c10 := Bool.eq_false_iff.mpr c10
    subst c10
    have H1 : ((changelingref02_Offset.f kj2 a0 t320 t321).bind fun t325 => (if t325 ≥ (a0.size : Int) then (some false) else (if 0 ≤ t325 then (if t325 ≤ (a0.size : Int) then ((lex_Tokens.f kj2 (a0.extract 0 (t325 : Int).toNat)).bind fun bt326 => (if (bt326.2.1 == 0 && ((bt326.2.2.1 == 0 && (bt326.2.2.2 == 0)))) = true then ((changelinglaw02_known.f kj2).bind fun t333 => (some t333)) else (some false))) else (none)) else (none)))) = some r := by rw [if_neg (show ¬ (false = true) by decide)] at H; exact H
    clear H
    have H := H1
    clear H1
    replace H := Option.bind_eq_some_iff.mp H
    obtain ⟨t325, A200, H⟩ := H
    replace H : (if t325 ≥ (a0.size : Int) then (some false) else (if 0 ≤ t325 then (if t325 ≤ (a0.size : Int) then ((lex_Tokens.f kj2 (a0.extract 0 (t325 : Int).toNat)).bind fun bt326 => (if (bt326.2.1 == 0 && ((bt326.2.2.1 == 0 && (bt326.2.2.2 == 0)))) = true then ((changelinglaw02_known.f kj2).bind fun t333 => (some t333)) else (some false))) else (none)) else (none))) = some r := H
    have A20 := Aside0.mk A200
    clear A200
    by_cases c21 : t325 ≥ (a0.size : Int)
    ·rw [if_pos c21] at H
     have c21b0 : decide ((a0.size : Int) ≤ t325) = true := decide_eq_true c21
     clear c21
     obtain rfl := Option.some.inj H
     have hcz22_0 : wc.cell? ⟨gb322, 0, none⟩ = some (.int .i64 t319) := (blk_cell BK322.out 0).trans rfl
     have hcz22_1 : wc.cell? ⟨gb322, 1, none⟩ = some (.int .i64 t320) := (blk_cell BK322.out 1).trans rfl
     have hcz22_2 : wc.cell? ⟨gb322, 2, none⟩ = some (.int .i64 t321) := (blk_cell BK322.out 2).trans rfl
     have hfz22_0 := blk_frozen BK322.out 0
     have hfz22_1 := blk_frozen BK322.out 1
     have hfz22_2 := blk_frozen BK322.out 2
     go_wp2_with (first | ((with_reducible refine gate_callee (f := 14) rfl ?_); refine goesL_ (some 36) rfl rfl Try.func14 (by kernel_rfl) rfl #[.string a0, .agg #[.int .i64 t320, .int .i64 t321]] rfl (by (try simp only [List.map_toArray, List.map_cons, List.map_nil]); first | done | rfl | (simp only [List.length_drop, List.length_take]; rfl)) ?_; (with_reducible refine (changelingref02_Offset.calls kj2 a0 t320 t321 t325 _ A20.out).mono ?_); rintro e w23 ⟨rfl, hb⟩; refine ⟨_, rfl, ?_⟩; have n0_ := Aside0.mk (blk_below (g := gb322) (o := .cells #[.int .i64 t319, .int .i64 t320, .int .i64 t321] 27 (0, 0)) (by (with_reducible repeat (first | refine blk_drewN ?_ _ | refine blk_drew ?_ | refine blk_alloc ?_ _)); exact BK322.out) hb); have n1_ := Aside0.mk (below_step (by repeat (first | (with_reducible first | exact HB.out | apply below_alloc | apply pw_below_drewN | apply below_drew1 | refine below_set ?_ GE322.out) | exact HB.out)) hb); clear BK322; clear HB; have BK322 := n0_; have HB := n1_; clear n0_ n1_; (try clear hb); (try clear hb2); (try clear hk); (try clear hi)))
     go_ret
     exact ⟨by first | rfl | (simp [errW_none, errW_some] <;> rfl) | (simp [*, errW_none, errW_some] <;> rfl), by repeat (first | (with_reducible first | exact HB.out | apply below_alloc | apply pw_below_drewN | apply below_drew1 | refine below_set ?_ GE322.out) | exact HB.out)⟩
    ·rw [if_neg c21] at H
     have c21b0 : decide ((a0.size : Int) ≤ t325) = false := decide_eq_false c21
     clear c21
     by_cases c24 : 0 ≤ t325
     ·rw [if_pos c24] at H
      have c24b0 := eq_true c24
      have c24b1 : decide (0 ≤ t325) = true := decide_eq_true c24
      clear c24
      by_cases c25 : t325 ≤ (a0.size : Int)
      ·rw [if_pos c25] at H
       have c25b0 := eq_true c25
       have c25b1 : decide (t325 ≤ (a0.size : Int)) = true := decide_eq_true c25
       clear c25
       replace H := Option.bind_eq_some_iff.mp H
       obtain ⟨⟨t326, t329, t330, t331⟩, A260, H⟩ := H
       replace H : (if (t329 == 0 && ((t330 == 0 && (t331 == 0)))) = true then ((changelinglaw02_known.f kj2).bind fun t333 => (some t333)) else (some false)) = some r := H
       have A26 := Aside0.mk A260
       clear A260
       by_cases c27 : (t329 == 0 && ((t330 == 0 && (t331 == 0)))) = true
       ·rw [if_pos c27] at H
        have c27b0 : (t329 == 0 && ((t330 == 0 && (t331 == 0)))) = true := c27
        (try (have c27b1 : decide (t329 = 0 && ((t330 == 0 && (t331 == 0)))) = true := by simpa using c27))
        (try (have c27b2 : (t329 == 0 && ((t330 == 0 && (t331 == 0)))) = true := by simpa using c27))
        clear c27
        replace H := Option.bind_eq_some_iff.mp H
        obtain ⟨t333, A280, H⟩ := H
        replace H : (some t333) = some r := H
        have A28 := Aside0.mk A280
        clear A280
        obtain rfl := Option.some.inj H
        have hcz29_0 : wc.cell? ⟨gb322, 0, none⟩ = some (.int .i64 t319) := (blk_cell BK322.out 0).trans rfl
        have hcz29_1 : wc.cell? ⟨gb322, 1, none⟩ = some (.int .i64 t320) := (blk_cell BK322.out 1).trans rfl
        have hcz29_2 : wc.cell? ⟨gb322, 2, none⟩ = some (.int .i64 t321) := (blk_cell BK322.out 2).trans rfl
        have hfz29_0 := blk_frozen BK322.out 0
        have hfz29_1 := blk_frozen BK322.out 1
        have hfz29_2 := blk_frozen BK322.out 2
        go_wp2_with (first | ((with_reducible refine gate_callee (f := 14) rfl ?_); refine goesL_ (some 36) rfl rfl Try.func14 (by kernel_rfl) rfl #[.string a0, .agg #[.int .i64 t320, .int .i64 t321]] rfl (by (try simp only [List.map_toArray, List.map_cons, List.map_nil]); first | done | rfl | (simp only [List.length_drop, List.length_take]; rfl)) ?_; (with_reducible refine (changelingref02_Offset.calls kj2 a0 t320 t321 t325 _ A20.out).mono ?_); rintro e w30 ⟨rfl, hb⟩; refine ⟨_, rfl, ?_⟩; have n0_ := Aside0.mk (blk_below (g := gb322) (o := .cells #[.int .i64 t319, .int .i64 t320, .int .i64 t321] 27 (0, 0)) (by (with_reducible repeat (first | refine blk_drewN ?_ _ | refine blk_drew ?_ | refine blk_alloc ?_ _)); exact BK322.out) hb); have n1_ := Aside0.mk (below_step (by repeat (first | (with_reducible first | exact HB.out | apply below_alloc | apply pw_below_drewN | apply below_drew1 | refine below_set ?_ GE322.out) | exact HB.out)) hb); clear BK322; clear HB; have BK322 := n0_; have HB := n1_; clear n0_ n1_; (try clear hb); (try clear hb2); (try clear hk); (try clear hi)) | ((with_reducible refine gate_callee (f := 9) rfl ?_); refine goesL_ (some 45) rfl rfl Try.func9 (by kernel_rfl) rfl #[.string (a0.extract 0 (t325 : Int).toNat)] rfl (by (try simp only [List.map_toArray, List.map_cons, List.map_nil]); first | done | rfl | (simp only [List.length_drop, List.length_take]; rfl)) ?_; (with_reducible refine (lex_Tokens.calls kj2 (a0.extract 0 (t325 : Int).toNat) t326 t329 t330 t331 _ A26.out).mono ?_); rintro e w31 ⟨v327, rfl, ho0, hb⟩; refine ⟨_, rfl, ?_⟩; have n0_ := Aside0.mk (Kd.R_lower ho0 (below_size (by repeat (first | (with_reducible first | exact HB.out | apply below_alloc | apply pw_below_drewN | apply below_drew1 | refine below_set ?_ GE322.out) | exact HB.out)))); have n1_ := Aside0.mk (blk_below (g := gb322) (o := .cells #[.int .i64 t319, .int .i64 t320, .int .i64 t321] 27 (0, 0)) (by (with_reducible repeat (first | refine blk_drewN ?_ _ | refine blk_drew ?_ | refine blk_alloc ?_ _)); exact BK322.out) hb); have n2_ := Aside0.mk (below_step (by repeat (first | (with_reducible first | exact HB.out | apply below_alloc | apply pw_below_drewN | apply below_drew1 | refine below_set ?_ GE322.out) | exact HB.out)) hb); clear BK322; clear HB; have HO328 := n0_; have BK322 := n1_; have HB := n2_; clear n0_ n1_ n2_; (try clear hb); (try clear hb2); (try clear hk); (try clear hi); (try clear ho0)) | ((with_reducible refine gate_dst (N := 7) rfl ?_); (try (refine gate_guard (by rfl) ?_; dsimp only)); refine box_event ?hg (N := 7) ?hd (cs := #[.int .i64 0, .int .i64 0, .int .i64 0]) (t := 27) ?hr ?_; (case hd => rfl); (case hg => rfl); (case hr => first | (go_simp; done) | (go_simp; rfl)); intro gb332 hg w32 hbox hb; have n0_ := Aside0.mk (Kd.R_below (by (with_reducible repeat (first | apply Kd.R_alloc | apply Kd.R_drewN | apply Kd.R_drew)); exact HO328.out) hb); have n1_ := Aside0.mk (blk_below (g := gb322) (o := .cells #[.int .i64 t319, .int .i64 t320, .int .i64 t321] 27 (0, 0)) (by (with_reducible repeat (first | refine blk_drewN ?_ _ | refine blk_drew ?_ | refine blk_alloc ?_ _)); exact BK322.out) hb); have n2_ := Aside0.mk (below_step (by repeat (first | (with_reducible first | exact HB.out | apply below_alloc | apply pw_below_drewN | apply below_drew1 | refine below_set ?_ GE322.out) | exact HB.out)) hb); have n3_ := Aside0.mk (hbox); have n4_ := Aside0.mk ((by rw [hg]; exact (below_size (by repeat (first | (with_reducible first | exact HB.out | apply below_alloc | apply pw_below_drewN | apply below_drew1 | refine below_set ?_ GE322.out) | exact HB.out))) : w.heap.size ≤ gb332)); have n5_ := Aside0.mk ((by rw [hg]; exact (below_size (by repeat (first | (with_reducible first | exact HB.out | apply below_alloc | apply pw_below_drewN | apply below_drew1 | refine below_set ?_ GE322.out) | exact HB.out))) : w.heap.size ≤ gb332)); have n6_ := Aside0.mk ((by rw [hg]; exact Nat.ne_of_lt (blk_lt (g := gb322) (o := .cells #[.int .i64 t319, .int .i64 t320, .int .i64 t321] 27 (0, 0)) (by (with_reducible repeat (first | refine blk_drewN ?_ _ | refine blk_drew ?_ | refine blk_alloc ?_ _)); exact BK322.out)) : gb322 ≠ gb332)); have n7_ := Aside0.mk ((by rw [hg]; exact Nat.ne_of_gt (blk_lt (g := gb322) (o := .cells #[.int .i64 t319, .int .i64 t320, .int .i64 t321] 27 (0, 0)) (by (with_reducible repeat (first | refine blk_drewN ?_ _ | refine blk_drew ?_ | refine blk_alloc ?_ _)); exact BK322.out)) : gb332 ≠ gb322)); clear HO328; clear BK322; clear HB; have HO328 := n0_; have BK322 := n1_; have HB := n2_; have BK332 := n3_; have GW332 := n4_; have GE332 := n5_; have NB322_332 := n6_; have NB332_322 := n7_; clear n0_ n1_ n2_ n3_ n4_ n5_ n6_ n7_; clear hb hbox hg; have hnb33 := NB332_322.out; have hnc33 := NB322_332.out; have hcz34_0 : w32.cell? ⟨gb332, 0, none⟩ = some (.int .i64 0) := (blk_cell BK332.out 0).trans rfl; have hcz34_1 : w32.cell? ⟨gb332, 1, none⟩ = some (.int .i64 0) := (blk_cell BK332.out 1).trans rfl; have hcz34_2 : w32.cell? ⟨gb332, 2, none⟩ = some (.int .i64 0) := (blk_cell BK332.out 2).trans rfl; have hfz34_0 := blk_frozen BK332.out 0; have hfz34_1 := blk_frozen BK332.out 1; have hfz34_2 := blk_frozen BK332.out 2) | (go_at_call 12; (with_reducible refine (changelinglaw02_known.calls kj2  t333 _ A28.out).mono ?_); rintro e w35 ⟨rfl, hb⟩; have n0_ := Aside0.mk (Kd.R_below (by (with_reducible repeat (first | apply Kd.R_alloc | apply Kd.R_drewN | apply Kd.R_drew)); exact (Kd.R_mono (Kd.R_far (p := ⟨gb332, 2, none⟩) (Kd.R_far (p := ⟨gb332, 1, none⟩) (Kd.R_far (p := ⟨gb332, 0, none⟩) (Kd.R_types HO328.out BK332.out (by decide)) (fun _ hk => hk.2) (.int .i64 t329)) (fun _ hk => hk.2) (.int .i64 t330)) (fun _ hk => hk.2) (.int .i64 t331)) (fun _ h_ => h_.1))) hb); have n1_ := Aside0.mk (blk_below (g := gb322) (o := .cells #[.int .i64 t319, .int .i64 t320, .int .i64 t321] 27 (0, 0)) (by (with_reducible repeat (first | refine blk_drewN ?_ _ | refine blk_drew ?_ | refine blk_alloc ?_ _)); refine blk_far ?_ NB322_332.out _; (with_reducible repeat (first | refine blk_drewN ?_ _ | refine blk_drew ?_ | refine blk_alloc ?_ _)); refine blk_far ?_ NB322_332.out _; (with_reducible repeat (first | refine blk_drewN ?_ _ | refine blk_drew ?_ | refine blk_alloc ?_ _)); refine blk_far ?_ NB322_332.out _; (with_reducible repeat (first | refine blk_drewN ?_ _ | refine blk_drew ?_ | refine blk_alloc ?_ _)); exact BK322.out) hb); have n2_ := Aside0.mk (blk_below (g := gb332) (o := .cells #[.int .i64 t329, .int .i64 t330, .int .i64 t331] 27 (0, 0)) (by (with_reducible repeat (first | refine blk_drewN ?_ _ | refine blk_drew ?_ | refine blk_alloc ?_ _)); refine blk_put (cs := #[.int .i64 t329, .int .i64 t330, .int .i64 0]) ?_ 2 _ rfl; (with_reducible repeat (first | refine blk_drewN ?_ _ | refine blk_drew ?_ | refine blk_alloc ?_ _)); refine blk_put (cs := #[.int .i64 t329, .int .i64 0, .int .i64 0]) ?_ 1 _ rfl; (with_reducible repeat (first | refine blk_drewN ?_ _ | refine blk_drew ?_ | refine blk_alloc ?_ _)); refine blk_put (cs := #[.int .i64 0, .int .i64 0, .int .i64 0]) ?_ 0 _ rfl; (with_reducible repeat (first | refine blk_drewN ?_ _ | refine blk_drew ?_ | refine blk_alloc ?_ _)); exact BK332.out) hb); have n3_ := Aside0.mk (below_step (by repeat (first | (with_reducible first | exact HB.out | apply below_alloc | apply pw_below_drewN | apply below_drew1 | refine below_set ?_ GE322.out | refine below_set ?_ GE332.out) | exact HB.out)) hb); clear HO328; clear BK322; clear BK332; clear HB; have HO328 := n0_; have BK322 := n1_; have BK332 := n2_; have HB := n3_; clear n0_ n1_ n2_ n3_; (try clear hb); (try clear hb2); (try clear hk); (try clear hi)))
        go_ret
        exact ⟨by first | rfl | (simp [errW_none, errW_some] <;> rfl) | (simp [*, errW_none, errW_some] <;> rfl), by repeat (first | (with_reducible first | exact HB.out | apply below_alloc | apply pw_below_drewN | apply below_drew1 | refine below_set ?_ GE322.out | refine below_set ?_ GE332.out) | exact HB.out)⟩
       ·rw [if_neg c27] at H
        have c27b0 : (t329 == 0 && ((t330 == 0 && (t331 == 0)))) = false := by simpa using c27
        (try (have c27b1 : decide (t329 = 0 && ((t330 == 0 && (t331 == 0)))) = false := by simpa using c27))
        (try (have c27b2 : (t329 == 0 && ((t330 == 0 && (t331 == 0)))) = false := by simpa using c27))
        (try (have c27b3 : ¬ (t329 = 0 && ((t330 == 0 && (t331 == 0)))) := by simpa using c27))
        clear c27
        obtain rfl := Option.some.inj H
        have hcz36_0 : wc.cell? ⟨gb322, 0, none⟩ = some (.int .i64 t319) := (blk_cell BK322.out 0).trans rfl
        have hcz36_1 : wc.cell? ⟨gb322, 1, none⟩ = some (.int .i64 t320) := (blk_cell BK322.out 1).trans rfl
        have hcz36_2 : wc.cell? ⟨gb322, 2, none⟩ = some (.int .i64 t321) := (blk_cell BK322.out 2).trans rfl
        have hfz36_0 := blk_frozen BK322.out 0
        have hfz36_1 := blk_frozen BK322.out 1
        have hfz36_2 := blk_frozen BK322.out 2
        go_wp2_with (first | ((with_reducible refine gate_callee (f := 14) rfl ?_); refine goesL_ (some 36) rfl rfl Try.func14 (by kernel_rfl) rfl #[.string a0, .agg #[.int .i64 t320, .int .i64 t321]] rfl (by (try simp only [List.map_toArray, List.map_cons, List.map_nil]); first | done | rfl | (simp only [List.length_drop, List.length_take]; rfl)) ?_; (with_reducible refine (changelingref02_Offset.calls kj2 a0 t320 t321 t325 _ A20.out).mono ?_); rintro e w37 ⟨rfl, hb⟩; refine ⟨_, rfl, ?_⟩; have n0_ := Aside0.mk (blk_below (g := gb322) (o := .cells #[.int .i64 t319, .int .i64 t320, .int .i64 t321] 27 (0, 0)) (by (with_reducible repeat (first | refine blk_drewN ?_ _ | refine blk_drew ?_ | refine blk_alloc ?_ _)); exact BK322.out) hb); have n1_ := Aside0.mk (below_step (by repeat (first | (with_reducible first | exact HB.out | apply below_alloc | apply pw_below_drewN | apply below_drew1 | refine below_set ?_ GE322.out) | exact HB.out)) hb); clear BK322; clear HB; have BK322 := n0_; have HB := n1_; clear n0_ n1_; (try clear hb); (try clear hb2); (try clear hk); (try clear hi)) | ((with_reducible refine gate_callee (f := 9) rfl ?_); refine goesL_ (some 45) rfl rfl Try.func9 (by kernel_rfl) rfl #[.string (a0.extract 0 (t325 : Int).toNat)] rfl (by (try simp only [List.map_toArray, List.map_cons, List.map_nil]); first | done | rfl | (simp only [List.length_drop, List.length_take]; rfl)) ?_; (with_reducible refine (lex_Tokens.calls kj2 (a0.extract 0 (t325 : Int).toNat) t326 t329 t330 t331 _ A26.out).mono ?_); rintro e w38 ⟨v327, rfl, ho0, hb⟩; refine ⟨_, rfl, ?_⟩; have n0_ := Aside0.mk (Kd.R_lower ho0 (below_size (by repeat (first | (with_reducible first | exact HB.out | apply below_alloc | apply pw_below_drewN | apply below_drew1 | refine below_set ?_ GE322.out) | exact HB.out)))); have n1_ := Aside0.mk (blk_below (g := gb322) (o := .cells #[.int .i64 t319, .int .i64 t320, .int .i64 t321] 27 (0, 0)) (by (with_reducible repeat (first | refine blk_drewN ?_ _ | refine blk_drew ?_ | refine blk_alloc ?_ _)); exact BK322.out) hb); have n2_ := Aside0.mk (below_step (by repeat (first | (with_reducible first | exact HB.out | apply below_alloc | apply pw_below_drewN | apply below_drew1 | refine below_set ?_ GE322.out) | exact HB.out)) hb); clear BK322; clear HB; have HO328 := n0_; have BK322 := n1_; have HB := n2_; clear n0_ n1_ n2_; (try clear hb); (try clear hb2); (try clear hk); (try clear hi); (try clear ho0)) | ((with_reducible refine gate_dst (N := 7) rfl ?_); (try (refine gate_guard (by rfl) ?_; dsimp only)); refine box_event ?hg (N := 7) ?hd (cs := #[.int .i64 0, .int .i64 0, .int .i64 0]) (t := 27) ?hr ?_; (case hd => rfl); (case hg => rfl); (case hr => first | (go_simp; done) | (go_simp; rfl)); intro gb332 hg w39 hbox hb; have n0_ := Aside0.mk (Kd.R_below (by (with_reducible repeat (first | apply Kd.R_alloc | apply Kd.R_drewN | apply Kd.R_drew)); exact HO328.out) hb); have n1_ := Aside0.mk (blk_below (g := gb322) (o := .cells #[.int .i64 t319, .int .i64 t320, .int .i64 t321] 27 (0, 0)) (by (with_reducible repeat (first | refine blk_drewN ?_ _ | refine blk_drew ?_ | refine blk_alloc ?_ _)); exact BK322.out) hb); have n2_ := Aside0.mk (below_step (by repeat (first | (with_reducible first | exact HB.out | apply below_alloc | apply pw_below_drewN | apply below_drew1 | refine below_set ?_ GE322.out) | exact HB.out)) hb); have n3_ := Aside0.mk (hbox); have n4_ := Aside0.mk ((by rw [hg]; exact (below_size (by repeat (first | (with_reducible first | exact HB.out | apply below_alloc | apply pw_below_drewN | apply below_drew1 | refine below_set ?_ GE322.out) | exact HB.out))) : w.heap.size ≤ gb332)); have n5_ := Aside0.mk ((by rw [hg]; exact (below_size (by repeat (first | (with_reducible first | exact HB.out | apply below_alloc | apply pw_below_drewN | apply below_drew1 | refine below_set ?_ GE322.out) | exact HB.out))) : w.heap.size ≤ gb332)); have n6_ := Aside0.mk ((by rw [hg]; exact Nat.ne_of_lt (blk_lt (g := gb322) (o := .cells #[.int .i64 t319, .int .i64 t320, .int .i64 t321] 27 (0, 0)) (by (with_reducible repeat (first | refine blk_drewN ?_ _ | refine blk_drew ?_ | refine blk_alloc ?_ _)); exact BK322.out)) : gb322 ≠ gb332)); have n7_ := Aside0.mk ((by rw [hg]; exact Nat.ne_of_gt (blk_lt (g := gb322) (o := .cells #[.int .i64 t319, .int .i64 t320, .int .i64 t321] 27 (0, 0)) (by (with_reducible repeat (first | refine blk_drewN ?_ _ | refine blk_drew ?_ | refine blk_alloc ?_ _)); exact BK322.out)) : gb332 ≠ gb322)); clear HO328; clear BK322; clear HB; have HO328 := n0_; have BK322 := n1_; have HB := n2_; have BK332 := n3_; have GW332 := n4_; have GE332 := n5_; have NB322_332 := n6_; have NB332_322 := n7_; clear n0_ n1_ n2_ n3_ n4_ n5_ n6_ n7_; clear hb hbox hg; have hnb40 := NB332_322.out; have hnc40 := NB322_332.out; have hcz41_0 : w39.cell? ⟨gb332, 0, none⟩ = some (.int .i64 0) := (blk_cell BK332.out 0).trans rfl; have hcz41_1 : w39.cell? ⟨gb332, 1, none⟩ = some (.int .i64 0) := (blk_cell BK332.out 1).trans rfl; have hcz41_2 : w39.cell? ⟨gb332, 2, none⟩ = some (.int .i64 0) := (blk_cell BK332.out 2).trans rfl; have hfz41_0 := blk_frozen BK332.out 0; have hfz41_1 := blk_frozen BK332.out 1; have hfz41_2 := blk_frozen BK332.out 2))
        go_ret
        exact ⟨by first | rfl | (simp [errW_none, errW_some] <;> rfl) | (simp [*, errW_none, errW_some] <;> rfl), by repeat (first | (with_reducible first | exact HB.out | apply below_alloc | apply pw_below_drewN | apply below_drew1 | refine below_set ?_ GE322.out | refine below_set ?_ GE332.out) | exact HB.out)⟩
      ·rw [if_neg c25] at H
       exact absurd H (by simp)
     ·rw [if_neg c24] at H
      exact absurd H (by simp)

/-- THE ONE PURE STATEMENT of changelinglaw02_LexFirst: yours. -/
def changelinglaw02_LexFirst.Pure : Prop := ∀ (a0 : ByteArray), a0.size ≤ 140737488351232 → ∃ k, changelinglaw02_LexFirst.f k a0 = some true
theorem changelinglaw02_LexFirst.walk (P : changelinglaw02_LexFirst.Pure) (a0 : ByteArray) (w : World) (w0 : a0.size ≤ 140737488351232) :
  Calls Try.prog 7 #[.string a0] w fun e w' => e = .returned (.bool true) ∧ Below w.heap.size w w' := by
 obtain ⟨k, h⟩ := P a0 w0
 refine (changelinglaw02_LexFirst.calls k a0 true w h).mono ?_
 rintro e w' ⟨rfl, hd⟩
 exact ⟨rfl, hd⟩

end Go.Proofs.Ytdjcelbicmpobaa.H
