-- LAID BY A PROGRAM OF THIS SESSION (wip/tools/patch_print.py over the print): not trusted; Lean checks it.
import Derived.Test.YtdjcelbicmpobaaH0
import Derived.Test.YtdjcelbicmpobaaH1
import Derived.Test.YtdjcelbicmpobaaH11
namespace Go.Proofs.Ytdjcelbicmpobaa.H
open Go.RowKit Go.Proofs.YtdjcelbicmpobaaW.PrintWords Go.Proofs.YtdjcelbicmpobaaW.PrintLast Go.Proofs.YtdjcelbicmpobaaW.PrintMore
attribute [local go_sem] max2_int min2_int max_two min_two max_three min_three max_four min_four   -- for this text's walks alone
set_option linter.unusedVariables false
set_option linter.unusedSimpArgs false

attribute [local go_sem high] eqA27
/-! ### changelinglaw02_known: function 12 -/
def changelinglaw02_known.j0 : Nat → List (S34) → List (S34) → Bool → Int → Int → Int → Int → Int → Int → Int → Int → Int → Option (Bool)
 | 0, _, _, _, _, _, _, _, _, _, _, _, _ => none
 | k + 1, x1, x3, x26, x217000, x217001, x217002, x224000, x224001, x224002, x231000, x231001, x231002 => if x26 = true then (some false) else (if (x217000 == 0 && ((x217001 == 0 && (x217002 == 0)))) = true then (if (x224000 == 0 && ((x224001 == 0 && (x224002 == 0)))) = true then (if (x231000 == 11 && ((x231001 == 1 && (x231002 == 2)))) = true then (if 4 < (x1.length : Int) then (if ((rd_T34 x1 4).f0) = 3 then (if 5 < (x1.length : Int) then (if ((rd_T34 x1 5).f2) = 1 then (if 0 < (x3.length : Int) then (some (((rd_T34 x3 0).f1).toList == ([97] : List UInt8))) else (none)) else (some false)) else (none)) else (some false)) else (none)) else (some false)) else (some false)) else (some false))
def changelinglaw02_known.f (k : Nat)  : Option (Bool) := (lex_Tokens.f k (⟨#[102, 32, 120, 32, 61, 32, 120, 43, 49, 32, 45, 45, 32, 111, 110, 101]⟩ : ByteArray)).bind fun bt210 => ((lex_Tokens.f k (⟨#[97, 45, 45, 45, 98]⟩ : ByteArray)).bind fun bt217 => ((lex_Tokens.f k (⟨#[32, 48, 48, 55]⟩ : ByteArray)).bind fun bt224 => (if (bt210.1.length : Int) = 6 then (changelinglaw02_known.j0 k bt210.1 bt217.1 ((bt217.1.length : Int) != 1) bt210.2.1 bt210.2.2.1 bt210.2.2.2 bt217.2.1 bt217.2.2.1 bt217.2.2.2 bt224.2.1 bt224.2.2.1 bt224.2.2.2) else (changelinglaw02_known.j0 k bt210.1 bt217.1 true bt210.2.1 bt210.2.2.1 bt210.2.2.2 bt217.2.1 bt217.2.2.1 bt217.2.2.2 bt224.2.1 bt224.2.2.1 bt224.2.2.2))))
theorem changelinglaw02_known.mono_l : ∀ k, (∀ y0 y1 y2 y3 y4 y5 y6 y7 y8 y9 y10 y11, LeO (changelinglaw02_known.j0 k y0 y1 y2 y3 y4 y5 y6 y7 y8 y9 y10 y11) (changelinglaw02_known.j0 (k + 1) y0 y1 y2 y3 y4 y5 y6 y7 y8 y9 y10 y11))
 | 0 => fun _ _ _ _ _ _ _ _ _ _ _ _ r h => by simp [changelinglaw02_known.j0] at h
 | k + 1 => by
  have ih0 := changelinglaw02_known.mono_l k
  ·intro y0 y1 y2 y3 y4 y5 y6 y7 y8 y9 y10 y11
   unfold changelinglaw02_known.j0
   repeat' first
   | (with_reducible exact ih0 _ _ _ _ _ _ _ _ _ _ _ _)
   | (with_reducible exact lex_Tokens.mono _ _)
   | (with_reducible exact LeO.refl _)
   | (with_reducible exact LeO.none _)
   | (with_reducible refine LeO.ite ?_ ?_)
   | (with_reducible refine LeO.bind ?_ (fun _ => ?_))
   | exact ih0 _ _ _ _ _ _ _ _ _ _ _ _
   | exact lex_Tokens.mono _ _
   | exact LeO.none _
   | refine LeO.ite ?_ ?_
   | refine LeO.bind ?_ (fun _ => ?_)
theorem changelinglaw02_known.mono : ∀ k, LeO (changelinglaw02_known.f k ) (changelinglaw02_known.f (k + 1) ) := by
 intro  k
 have ih0 := changelinglaw02_known.mono_l k
 unfold changelinglaw02_known.f
 repeat' first
   | (with_reducible exact ih0 _ _ _ _ _ _ _ _ _ _ _ _)
   | (with_reducible exact lex_Tokens.mono _ _)
   | (with_reducible exact LeO.refl _)
   | (with_reducible exact LeO.none _)
   | (with_reducible refine LeO.ite ?_ ?_)
   | (with_reducible refine LeO.bind ?_ (fun _ => ?_))
   | exact ih0 _ _ _ _ _ _ _ _ _ _ _ _
   | exact lex_Tokens.mono _ _
   | exact LeO.none _
   | refine LeO.ite ?_ ?_
   | refine LeO.bind ?_ (fun _ => ?_)
set_option maxHeartbeats 8000000 in
set_option maxRecDepth 100000 in
theorem changelinglaw02_known.calls (k : Nat)  (r : Bool) (w : World) (h : changelinglaw02_known.f k  = some r) :
  Calls Try.prog 12 #[] w fun e w' => e = .returned (.bool r) ∧ Below w.heap.size w w' := by
 have hu27 := Try.underlying27
 have hu25 := Try.underlying25
 have HB := Aside0.mk (Below.refl w.heap.size w)
 have H : ((lex_Tokens.f k (⟨#[102, 32, 120, 32, 61, 32, 120, 43, 49, 32, 45, 45, 32, 111, 110, 101]⟩ : ByteArray)).bind fun bt210 => ((lex_Tokens.f k (⟨#[97, 45, 45, 45, 98]⟩ : ByteArray)).bind fun bt217 => ((lex_Tokens.f k (⟨#[32, 48, 48, 55]⟩ : ByteArray)).bind fun bt224 => (if (bt210.1.length : Int) = 6 then (changelinglaw02_known.j0 k bt210.1 bt217.1 ((bt217.1.length : Int) != 1) bt210.2.1 bt210.2.2.1 bt210.2.2.2 bt217.2.1 bt217.2.2.1 bt217.2.2.2 bt224.2.1 bt224.2.2.1 bt224.2.2.2) else (changelinglaw02_known.j0 k bt210.1 bt217.1 true bt210.2.1 bt210.2.2.1 bt210.2.2.2 bt217.2.1 bt217.2.2.1 bt217.2.2.2 bt224.2.1 bt224.2.2.1 bt224.2.2.2))))) = some r := h
 clear h
 replace H := Option.bind_eq_some_iff.mp H
 obtain ⟨⟨t210, t213, t214, t215⟩, A10, H⟩ := H
 replace H : ((lex_Tokens.f k (⟨#[97, 45, 45, 45, 98]⟩ : ByteArray)).bind fun bt217 => ((lex_Tokens.f k (⟨#[32, 48, 48, 55]⟩ : ByteArray)).bind fun bt224 => (if (t210.length : Int) = 6 then (changelinglaw02_known.j0 k t210 bt217.1 ((bt217.1.length : Int) != 1) t213 t214 t215 bt217.2.1 bt217.2.2.1 bt217.2.2.2 bt224.2.1 bt224.2.2.1 bt224.2.2.2) else (changelinglaw02_known.j0 k t210 bt217.1 true t213 t214 t215 bt217.2.1 bt217.2.2.1 bt217.2.2.2 bt224.2.1 bt224.2.2.1 bt224.2.2.2)))) = some r := H
 have A1 := Aside0.mk A10
 clear A10
 replace H := Option.bind_eq_some_iff.mp H
 obtain ⟨⟨t217, t220, t221, t222⟩, A20, H⟩ := H
 replace H : ((lex_Tokens.f k (⟨#[32, 48, 48, 55]⟩ : ByteArray)).bind fun bt224 => (if (t210.length : Int) = 6 then (changelinglaw02_known.j0 k t210 t217 ((t217.length : Int) != 1) t213 t214 t215 t220 t221 t222 bt224.2.1 bt224.2.2.1 bt224.2.2.2) else (changelinglaw02_known.j0 k t210 t217 true t213 t214 t215 t220 t221 t222 bt224.2.1 bt224.2.2.1 bt224.2.2.2))) = some r := H
 have A2 := Aside0.mk A20
 clear A20
 replace H := Option.bind_eq_some_iff.mp H
 obtain ⟨⟨t224, t227, t228, t229⟩, A30, H⟩ := H
 replace H : (if (t210.length : Int) = 6 then (changelinglaw02_known.j0 k t210 t217 ((t217.length : Int) != 1) t213 t214 t215 t220 t221 t222 t227 t228 t229) else (changelinglaw02_known.j0 k t210 t217 true t213 t214 t215 t220 t221 t222 t227 t228 t229)) = some r := H
 have A3 := Aside0.mk A30
 clear A30
 have HC4 := Aside0.mk H
 clear H
 go_enter Try.func12, Try.ntmps12
 go_upto_region 4 with (first | ((with_reducible refine gate_callee (f := 9) rfl ?_); refine goesL_ (some 8) rfl rfl Try.func9 (by kernel_rfl) rfl #[.string (⟨#[102, 32, 120, 32, 61, 32, 120, 43, 49, 32, 45, 45, 32, 111, 110, 101]⟩ : ByteArray)] rfl (by (try simp only [List.map_toArray, List.map_cons, List.map_nil]); first | done | rfl | (simp only [List.length_drop, List.length_take]; rfl)) ?_; (with_reducible refine (lex_Tokens.calls k (⟨#[102, 32, 120, 32, 61, 32, 120, 43, 49, 32, 45, 45, 32, 111, 110, 101]⟩ : ByteArray) t210 t213 t214 t215 _ A1.out).mono ?_); rintro e w5 ⟨v211, rfl, ho0, hb⟩; refine ⟨_, rfl, ?_⟩; have n0_ := Aside0.mk (Kd.R_lower ho0 (below_size (by repeat (first | (with_reducible first | exact HB.out | apply below_alloc | apply pw_below_drewN | apply below_drew1) | exact HB.out)))); have n1_ := Aside0.mk (below_step (by repeat (first | (with_reducible first | exact HB.out | apply below_alloc | apply pw_below_drewN | apply below_drew1) | exact HB.out)) hb); clear HB; have HO212 := n0_; have HB := n1_; clear n0_ n1_; (try clear hb); (try clear hb2); (try clear hk); (try clear hi); (try clear ho0)) | ((with_reducible refine gate_dst (N := 2) rfl ?_); (try (refine gate_guard (by rfl) ?_; dsimp only)); refine box_event ?hg (N := 2) ?hd (cs := #[.int .i64 0, .int .i64 0, .int .i64 0]) (t := 27) ?hr ?_; (case hd => rfl); (case hg => rfl); (case hr => first | (go_simp; done) | (go_simp; rfl)); intro gb216 hg w6 hbox hb; have n0_ := Aside0.mk (Kd.R_below (by (with_reducible repeat (first | apply Kd.R_alloc | apply Kd.R_drewN | apply Kd.R_drew)); exact HO212.out) hb); have n1_ := Aside0.mk (below_step (by repeat (first | (with_reducible first | exact HB.out | apply below_alloc | apply pw_below_drewN | apply below_drew1) | exact HB.out)) hb); have n2_ := Aside0.mk (hbox); have n3_ := Aside0.mk ((by rw [hg]; exact (below_size (by repeat (first | (with_reducible first | exact HB.out | apply below_alloc | apply pw_below_drewN | apply below_drew1) | exact HB.out))) : w.heap.size ≤ gb216)); have n4_ := Aside0.mk ((by rw [hg]; exact (below_size (by repeat (first | (with_reducible first | exact HB.out | apply below_alloc | apply pw_below_drewN | apply below_drew1) | exact HB.out))) : w.heap.size ≤ gb216)); clear HO212; clear HB; have HO212 := n0_; have HB := n1_; have BK216 := n2_; have GW216 := n3_; have GE216 := n4_; clear n0_ n1_ n2_ n3_ n4_; clear hb hbox hg; have hcz7_0 : w6.cell? ⟨gb216, 0, none⟩ = some (.int .i64 0) := (blk_cell BK216.out 0).trans rfl; have hcz7_1 : w6.cell? ⟨gb216, 1, none⟩ = some (.int .i64 0) := (blk_cell BK216.out 1).trans rfl; have hcz7_2 : w6.cell? ⟨gb216, 2, none⟩ = some (.int .i64 0) := (blk_cell BK216.out 2).trans rfl; have hfz7_0 := blk_frozen BK216.out 0; have hfz7_1 := blk_frozen BK216.out 1; have hfz7_2 := blk_frozen BK216.out 2) | ((with_reducible refine gate_callee (f := 9) rfl ?_); refine goesL_ (some 12) rfl rfl Try.func9 (by kernel_rfl) rfl #[.string (⟨#[97, 45, 45, 45, 98]⟩ : ByteArray)] rfl (by (try simp only [List.map_toArray, List.map_cons, List.map_nil]); first | done | rfl | (simp only [List.length_drop, List.length_take]; rfl)) ?_; (with_reducible refine (lex_Tokens.calls k (⟨#[97, 45, 45, 45, 98]⟩ : ByteArray) t217 t220 t221 t222 _ A2.out).mono ?_); rintro e w8 ⟨v218, rfl, ho0, hb⟩; refine ⟨_, rfl, ?_⟩; have n0_ := Aside0.mk (Kd.R_elder' (by (with_reducible repeat (first | apply Kd.R_alloc | apply Kd.R_drewN | apply Kd.R_drew)); exact (Kd.R_mono (Kd.R_far (p := ⟨gb216, 2, none⟩) (Kd.R_far (p := ⟨gb216, 1, none⟩) (Kd.R_far (p := ⟨gb216, 0, none⟩) (Kd.R_types HO212.out BK216.out (by decide)) (fun _ hk => hk.2) (.int .i64 t213)) (fun _ hk => hk.2) (.int .i64 t214)) (fun _ hk => hk.2) (.int .i64 t215)) (fun _ h_ => h_.1))) (Kd.R_base ho0) hb); have n1_ := Aside0.mk (Kd.R_lower (Kd.R_new' ho0 (Kd.R_lt (by (with_reducible repeat (first | apply Kd.R_alloc | apply Kd.R_drewN | apply Kd.R_drew)); exact (Kd.R_mono (Kd.R_far (p := ⟨gb216, 2, none⟩) (Kd.R_far (p := ⟨gb216, 1, none⟩) (Kd.R_far (p := ⟨gb216, 0, none⟩) (Kd.R_types HO212.out BK216.out (by decide)) (fun _ hk => hk.2) (.int .i64 t213)) (fun _ hk => hk.2) (.int .i64 t214)) (fun _ hk => hk.2) (.int .i64 t215)) (fun _ h_ => h_.1))))) (below_size (by repeat (first | (with_reducible first | exact HB.out | apply below_alloc | apply pw_below_drewN | apply below_drew1 | refine below_set ?_ GE216.out) | exact HB.out)))); have n2_ := Aside0.mk (blk_below (g := gb216) (o := .cells #[.int .i64 t213, .int .i64 t214, .int .i64 t215] 27 (0, 0)) (by (with_reducible repeat (first | refine blk_drewN ?_ _ | refine blk_drew ?_ | refine blk_alloc ?_ _)); refine blk_put (cs := #[.int .i64 t213, .int .i64 t214, .int .i64 0]) ?_ 2 _ rfl; (with_reducible repeat (first | refine blk_drewN ?_ _ | refine blk_drew ?_ | refine blk_alloc ?_ _)); refine blk_put (cs := #[.int .i64 t213, .int .i64 0, .int .i64 0]) ?_ 1 _ rfl; (with_reducible repeat (first | refine blk_drewN ?_ _ | refine blk_drew ?_ | refine blk_alloc ?_ _)); refine blk_put (cs := #[.int .i64 0, .int .i64 0, .int .i64 0]) ?_ 0 _ rfl; (with_reducible repeat (first | refine blk_drewN ?_ _ | refine blk_drew ?_ | refine blk_alloc ?_ _)); exact BK216.out) hb); have n3_ := Aside0.mk (below_step (by repeat (first | (with_reducible first | exact HB.out | apply below_alloc | apply pw_below_drewN | apply below_drew1 | refine below_set ?_ GE216.out) | exact HB.out)) hb); clear HO212; clear BK216; clear HB; have HO212 := n0_; have HO219 := n1_; have BK216 := n2_; have HB := n3_; clear n0_ n1_ n2_ n3_; (try clear hb); (try clear hb2); (try clear hk); (try clear hi); (try clear ho0)) | ((with_reducible refine gate_dst (N := 4) rfl ?_); (try (refine gate_guard (by rfl) ?_; dsimp only)); refine box_event ?hg (N := 4) ?hd (cs := #[.int .i64 0, .int .i64 0, .int .i64 0]) (t := 27) ?hr ?_; (case hd => rfl); (case hg => rfl); (case hr => first | (go_simp; done) | (go_simp; rfl)); intro gb223 hg w9 hbox hb; have n0_ := Aside0.mk (Kd.R_below (by (with_reducible repeat (first | apply Kd.R_alloc | apply Kd.R_drewN | apply Kd.R_drew)); exact HO212.out) hb); have n1_ := Aside0.mk (Kd.R_below (by (with_reducible repeat (first | apply Kd.R_alloc | apply Kd.R_drewN | apply Kd.R_drew)); exact HO219.out) hb); have n2_ := Aside0.mk (blk_below (g := gb216) (o := .cells #[.int .i64 t213, .int .i64 t214, .int .i64 t215] 27 (0, 0)) (by (with_reducible repeat (first | refine blk_drewN ?_ _ | refine blk_drew ?_ | refine blk_alloc ?_ _)); exact BK216.out) hb); have n3_ := Aside0.mk (below_step (by repeat (first | (with_reducible first | exact HB.out | apply below_alloc | apply pw_below_drewN | apply below_drew1 | refine below_set ?_ GE216.out) | exact HB.out)) hb); have n4_ := Aside0.mk (hbox); have n5_ := Aside0.mk ((by rw [hg]; exact (below_size (by repeat (first | (with_reducible first | exact HB.out | apply below_alloc | apply pw_below_drewN | apply below_drew1 | refine below_set ?_ GE216.out) | exact HB.out))) : w.heap.size ≤ gb223)); have n6_ := Aside0.mk ((by rw [hg]; exact (below_size (by repeat (first | (with_reducible first | exact HB.out | apply below_alloc | apply pw_below_drewN | apply below_drew1 | refine below_set ?_ GE216.out) | exact HB.out))) : w.heap.size ≤ gb223)); have n7_ := Aside0.mk ((by rw [hg]; exact Nat.ne_of_lt (blk_lt (g := gb216) (o := .cells #[.int .i64 t213, .int .i64 t214, .int .i64 t215] 27 (0, 0)) (by (with_reducible repeat (first | refine blk_drewN ?_ _ | refine blk_drew ?_ | refine blk_alloc ?_ _)); exact BK216.out)) : gb216 ≠ gb223)); have n8_ := Aside0.mk ((by rw [hg]; exact Nat.ne_of_gt (blk_lt (g := gb216) (o := .cells #[.int .i64 t213, .int .i64 t214, .int .i64 t215] 27 (0, 0)) (by (with_reducible repeat (first | refine blk_drewN ?_ _ | refine blk_drew ?_ | refine blk_alloc ?_ _)); exact BK216.out)) : gb223 ≠ gb216)); clear HO212; clear HO219; clear BK216; clear HB; have HO212 := n0_; have HO219 := n1_; have BK216 := n2_; have HB := n3_; have BK223 := n4_; have GW223 := n5_; have GE223 := n6_; have NB216_223 := n7_; have NB223_216 := n8_; clear n0_ n1_ n2_ n3_ n4_ n5_ n6_ n7_ n8_; clear hb hbox hg; have hnb10 := NB223_216.out; have hnc10 := NB216_223.out; have hcz11_0 : w9.cell? ⟨gb223, 0, none⟩ = some (.int .i64 0) := (blk_cell BK223.out 0).trans rfl; have hcz11_1 : w9.cell? ⟨gb223, 1, none⟩ = some (.int .i64 0) := (blk_cell BK223.out 1).trans rfl; have hcz11_2 : w9.cell? ⟨gb223, 2, none⟩ = some (.int .i64 0) := (blk_cell BK223.out 2).trans rfl; have hfz11_0 := blk_frozen BK223.out 0; have hfz11_1 := blk_frozen BK223.out 1; have hfz11_2 := blk_frozen BK223.out 2) | ((with_reducible refine gate_callee (f := 9) rfl ?_); refine goesL_ (some 16) rfl rfl Try.func9 (by kernel_rfl) rfl #[.string (⟨#[32, 48, 48, 55]⟩ : ByteArray)] rfl (by (try simp only [List.map_toArray, List.map_cons, List.map_nil]); first | done | rfl | (simp only [List.length_drop, List.length_take]; rfl)) ?_; (with_reducible refine (lex_Tokens.calls k (⟨#[32, 48, 48, 55]⟩ : ByteArray) t224 t227 t228 t229 _ A3.out).mono ?_); rintro e w12 ⟨v225, rfl, ho0, hb⟩; refine ⟨_, rfl, ?_⟩; have n0_ := Aside0.mk (Kd.R_elder' (by (with_reducible repeat (first | apply Kd.R_alloc | apply Kd.R_drewN | apply Kd.R_drew)); exact (Kd.R_mono (Kd.R_far (p := ⟨gb223, 2, none⟩) (Kd.R_far (p := ⟨gb223, 1, none⟩) (Kd.R_far (p := ⟨gb223, 0, none⟩) (Kd.R_types HO212.out BK223.out (by decide)) (fun _ hk => hk.2) (.int .i64 t220)) (fun _ hk => hk.2) (.int .i64 t221)) (fun _ hk => hk.2) (.int .i64 t222)) (fun _ h_ => h_.1))) (Kd.R_base ho0) hb); have n1_ := Aside0.mk (Kd.R_elder' (by (with_reducible repeat (first | apply Kd.R_alloc | apply Kd.R_drewN | apply Kd.R_drew)); exact (Kd.R_mono (Kd.R_far (p := ⟨gb223, 2, none⟩) (Kd.R_far (p := ⟨gb223, 1, none⟩) (Kd.R_far (p := ⟨gb223, 0, none⟩) (Kd.R_types HO219.out BK223.out (by decide)) (fun _ hk => hk.2) (.int .i64 t220)) (fun _ hk => hk.2) (.int .i64 t221)) (fun _ hk => hk.2) (.int .i64 t222)) (fun _ h_ => h_.1))) (Kd.R_base ho0) hb); have n2_ := Aside0.mk (Kd.R_lower (Kd.R_new' (Kd.R_new' ho0 (Kd.R_lt (by (with_reducible repeat (first | apply Kd.R_alloc | apply Kd.R_drewN | apply Kd.R_drew)); exact (Kd.R_mono (Kd.R_far (p := ⟨gb223, 2, none⟩) (Kd.R_far (p := ⟨gb223, 1, none⟩) (Kd.R_far (p := ⟨gb223, 0, none⟩) (Kd.R_types HO212.out BK223.out (by decide)) (fun _ hk => hk.2) (.int .i64 t220)) (fun _ hk => hk.2) (.int .i64 t221)) (fun _ hk => hk.2) (.int .i64 t222)) (fun _ h_ => h_.1))))) (Kd.R_lt (by (with_reducible repeat (first | apply Kd.R_alloc | apply Kd.R_drewN | apply Kd.R_drew)); exact (Kd.R_mono (Kd.R_far (p := ⟨gb223, 2, none⟩) (Kd.R_far (p := ⟨gb223, 1, none⟩) (Kd.R_far (p := ⟨gb223, 0, none⟩) (Kd.R_types HO219.out BK223.out (by decide)) (fun _ hk => hk.2) (.int .i64 t220)) (fun _ hk => hk.2) (.int .i64 t221)) (fun _ hk => hk.2) (.int .i64 t222)) (fun _ h_ => h_.1))))) (below_size (by repeat (first | (with_reducible first | exact HB.out | apply below_alloc | apply pw_below_drewN | apply below_drew1 | refine below_set ?_ GE216.out | refine below_set ?_ GE223.out) | exact HB.out)))); have n3_ := Aside0.mk (blk_below (g := gb216) (o := .cells #[.int .i64 t213, .int .i64 t214, .int .i64 t215] 27 (0, 0)) (by (with_reducible repeat (first | refine blk_drewN ?_ _ | refine blk_drew ?_ | refine blk_alloc ?_ _)); refine blk_far ?_ NB216_223.out _; (with_reducible repeat (first | refine blk_drewN ?_ _ | refine blk_drew ?_ | refine blk_alloc ?_ _)); refine blk_far ?_ NB216_223.out _; (with_reducible repeat (first | refine blk_drewN ?_ _ | refine blk_drew ?_ | refine blk_alloc ?_ _)); refine blk_far ?_ NB216_223.out _; (with_reducible repeat (first | refine blk_drewN ?_ _ | refine blk_drew ?_ | refine blk_alloc ?_ _)); exact BK216.out) hb); have n4_ := Aside0.mk (blk_below (g := gb223) (o := .cells #[.int .i64 t220, .int .i64 t221, .int .i64 t222] 27 (0, 0)) (by (with_reducible repeat (first | refine blk_drewN ?_ _ | refine blk_drew ?_ | refine blk_alloc ?_ _)); refine blk_put (cs := #[.int .i64 t220, .int .i64 t221, .int .i64 0]) ?_ 2 _ rfl; (with_reducible repeat (first | refine blk_drewN ?_ _ | refine blk_drew ?_ | refine blk_alloc ?_ _)); refine blk_put (cs := #[.int .i64 t220, .int .i64 0, .int .i64 0]) ?_ 1 _ rfl; (with_reducible repeat (first | refine blk_drewN ?_ _ | refine blk_drew ?_ | refine blk_alloc ?_ _)); refine blk_put (cs := #[.int .i64 0, .int .i64 0, .int .i64 0]) ?_ 0 _ rfl; (with_reducible repeat (first | refine blk_drewN ?_ _ | refine blk_drew ?_ | refine blk_alloc ?_ _)); exact BK223.out) hb); have n5_ := Aside0.mk (below_step (by repeat (first | (with_reducible first | exact HB.out | apply below_alloc | apply pw_below_drewN | apply below_drew1 | refine below_set ?_ GE216.out | refine below_set ?_ GE223.out) | exact HB.out)) hb); clear HO212; clear HO219; clear BK216; clear BK223; clear HB; have HO212 := n0_; have HO219 := n1_; have HO226 := n2_; have BK216 := n3_; have BK223 := n4_; have HB := n5_; clear n0_ n1_ n2_ n3_ n4_ n5_; (try clear hb); (try clear hb2); (try clear hk); (try clear hi); (try clear ho0)) | ((with_reducible refine gate_dst (N := 6) rfl ?_); (try (refine gate_guard (by rfl) ?_; dsimp only)); refine box_event ?hg (N := 6) ?hd (cs := #[.int .i64 0, .int .i64 0, .int .i64 0]) (t := 27) ?hr ?_; (case hd => rfl); (case hg => rfl); (case hr => first | (go_simp; done) | (go_simp; rfl)); intro gb230 hg w13 hbox hb; have n0_ := Aside0.mk (Kd.R_below (by (with_reducible repeat (first | apply Kd.R_alloc | apply Kd.R_drewN | apply Kd.R_drew)); exact HO212.out) hb); have n1_ := Aside0.mk (Kd.R_below (by (with_reducible repeat (first | apply Kd.R_alloc | apply Kd.R_drewN | apply Kd.R_drew)); exact HO219.out) hb); have n2_ := Aside0.mk (Kd.R_below (by (with_reducible repeat (first | apply Kd.R_alloc | apply Kd.R_drewN | apply Kd.R_drew)); exact HO226.out) hb); have n3_ := Aside0.mk (blk_below (g := gb216) (o := .cells #[.int .i64 t213, .int .i64 t214, .int .i64 t215] 27 (0, 0)) (by (with_reducible repeat (first | refine blk_drewN ?_ _ | refine blk_drew ?_ | refine blk_alloc ?_ _)); exact BK216.out) hb); have n4_ := Aside0.mk (blk_below (g := gb223) (o := .cells #[.int .i64 t220, .int .i64 t221, .int .i64 t222] 27 (0, 0)) (by (with_reducible repeat (first | refine blk_drewN ?_ _ | refine blk_drew ?_ | refine blk_alloc ?_ _)); exact BK223.out) hb); have n5_ := Aside0.mk (below_step (by repeat (first | (with_reducible first | exact HB.out | apply below_alloc | apply pw_below_drewN | apply below_drew1 | refine below_set ?_ GE216.out | refine below_set ?_ GE223.out) | exact HB.out)) hb); have n6_ := Aside0.mk (hbox); have n7_ := Aside0.mk ((by rw [hg]; exact (below_size (by repeat (first | (with_reducible first | exact HB.out | apply below_alloc | apply pw_below_drewN | apply below_drew1 | refine below_set ?_ GE216.out | refine below_set ?_ GE223.out) | exact HB.out))) : w.heap.size ≤ gb230)); have n8_ := Aside0.mk ((by rw [hg]; exact (below_size (by repeat (first | (with_reducible first | exact HB.out | apply below_alloc | apply pw_below_drewN | apply below_drew1 | refine below_set ?_ GE216.out | refine below_set ?_ GE223.out) | exact HB.out))) : w.heap.size ≤ gb230)); have n9_ := Aside0.mk ((by rw [hg]; exact Nat.ne_of_lt (blk_lt (g := gb216) (o := .cells #[.int .i64 t213, .int .i64 t214, .int .i64 t215] 27 (0, 0)) (by (with_reducible repeat (first | refine blk_drewN ?_ _ | refine blk_drew ?_ | refine blk_alloc ?_ _)); exact BK216.out)) : gb216 ≠ gb230)); have n10_ := Aside0.mk ((by rw [hg]; exact Nat.ne_of_gt (blk_lt (g := gb216) (o := .cells #[.int .i64 t213, .int .i64 t214, .int .i64 t215] 27 (0, 0)) (by (with_reducible repeat (first | refine blk_drewN ?_ _ | refine blk_drew ?_ | refine blk_alloc ?_ _)); exact BK216.out)) : gb230 ≠ gb216)); have n11_ := Aside0.mk ((by rw [hg]; exact Nat.ne_of_lt (blk_lt (g := gb223) (o := .cells #[.int .i64 t220, .int .i64 t221, .int .i64 t222] 27 (0, 0)) (by (with_reducible repeat (first | refine blk_drewN ?_ _ | refine blk_drew ?_ | refine blk_alloc ?_ _)); exact BK223.out)) : gb223 ≠ gb230)); have n12_ := Aside0.mk ((by rw [hg]; exact Nat.ne_of_gt (blk_lt (g := gb223) (o := .cells #[.int .i64 t220, .int .i64 t221, .int .i64 t222] 27 (0, 0)) (by (with_reducible repeat (first | refine blk_drewN ?_ _ | refine blk_drew ?_ | refine blk_alloc ?_ _)); exact BK223.out)) : gb230 ≠ gb223)); clear HO212; clear HO219; clear HO226; clear BK216; clear BK223; clear HB; have HO212 := n0_; have HO219 := n1_; have HO226 := n2_; have BK216 := n3_; have BK223 := n4_; have HB := n5_; have BK230 := n6_; have GW230 := n7_; have GE230 := n8_; have NB216_230 := n9_; have NB230_216 := n10_; have NB223_230 := n11_; have NB230_223 := n12_; clear n0_ n1_ n2_ n3_ n4_ n5_ n6_ n7_ n8_ n9_ n10_ n11_ n12_; clear hb hbox hg; have hnb14 := NB230_216.out; have hnc14 := NB216_230.out; have hnb15 := NB230_223.out; have hnc15 := NB223_230.out; have hcz16_0 : w13.cell? ⟨gb230, 0, none⟩ = some (.int .i64 0) := (blk_cell BK230.out 0).trans rfl; have hcz16_1 : w13.cell? ⟨gb230, 1, none⟩ = some (.int .i64 0) := (blk_cell BK230.out 1).trans rfl; have hcz16_2 : w13.cell? ⟨gb230, 2, none⟩ = some (.int .i64 0) := (blk_cell BK230.out 2).trans rfl; have hfz16_0 := blk_frozen BK230.out 0; have hfz16_1 := blk_frozen BK230.out 1; have hfz16_2 := blk_frozen BK230.out 2))
 (try simp only [Act.put, List.setIfInBounds_toArray, List.set_cons_zero, List.set_cons_succ])
 go_cut [26] (fun v26 wc => ∃ (kq : Nat) (x26_3 : Bool), v26 = .bool x26_3 ∧ Aside0 (changelinglaw02_known.j0 kq t210 t217 x26_3 t213 t214 t215 t220 t221 t222 t227 t228 t229 = some r) ∧ Aside0 (kq ≤ k) ∧ Aside0 (Kd.R k34 34 wc w.heap.size (fun k_ => some k_ ≠ (v218 : Value).ownBlock) v211 t210) ∧ Aside0 (Kd.R k34 34 wc w.heap.size (fun k_ => some k_ ≠ (v211 : Value).ownBlock) v218 t217) ∧ Aside0 (wc.heap[gb216]? = some (.cells #[.int .i64 t213, .int .i64 t214, .int .i64 t215] 27 (0, 0))) ∧ Aside0 (wc.heap[gb223]? = some (.cells #[.int .i64 t220, .int .i64 t221, .int .i64 t222] 27 (0, 0))) ∧ Aside0 (wc.heap[gb230]? = some (.cells #[.int .i64 t227, .int .i64 t228, .int .i64 t229] 27 (0, 0))) ∧ Aside0 (Below w.heap.size w wc))
 case first =>
  have H := HC4.out
  clear HC4
  by_cases c17 : (t210.length : Int) = 6
  ·rw [if_pos c17] at H
   have c17b0 : ((t210.length : Int) == 6) = true := beq_iff_eq.mpr c17
   have c17b1 : ((t210.length : Int) != 6) = false := bne_eq_false_iff_eq.mpr c17
   clear c17
   (first | rw [c17b0] | (simp only [i64_w, i32_w]; rw [c17b0]) | skip)
   have H' := Aside0.mk H
   clear H
   obtain ⟨Ao18, co18, eo18⟩ := Kd.R_slice HO212.out
   subst eo18
   obtain ⟨Ao19, co19, eo19⟩ := Kd.R_slice HO219.out
   subst eo19
   go_wp2
   go_meet
   case rel => exact ⟨_, (((t217.length : Int) != 1)), (by first | rfl | (simp; done) | (simp [*]; done)), H', ⟨by first | omega | exact Nat.le_refl _⟩, ⟨by (with_reducible repeat (first | apply Kd.R_alloc | apply Kd.R_drewN | apply Kd.R_drew)); exact Kd.R_mono (Kd.R_far (p := ⟨gb230, 2, none⟩) (Kd.R_far (p := ⟨gb230, 1, none⟩) (Kd.R_far (p := ⟨gb230, 0, none⟩) (Kd.R_types HO212.out BK230.out (by decide)) (fun _ hk => hk.2) (.int .i64 t227)) (fun _ hk => hk.2) (.int .i64 t228)) (fun _ hk => hk.2) (.int .i64 t229)) (fun _ hk => hk.1.1.2)⟩, ⟨by (with_reducible repeat (first | apply Kd.R_alloc | apply Kd.R_drewN | apply Kd.R_drew)); exact Kd.R_mono (Kd.R_far (p := ⟨gb230, 2, none⟩) (Kd.R_far (p := ⟨gb230, 1, none⟩) (Kd.R_far (p := ⟨gb230, 0, none⟩) (Kd.R_types HO219.out BK230.out (by decide)) (fun _ hk => hk.2) (.int .i64 t227)) (fun _ hk => hk.2) (.int .i64 t228)) (fun _ hk => hk.2) (.int .i64 t229)) (fun _ hk => hk.1.1.2)⟩, ⟨by (with_reducible repeat (first | refine blk_drewN ?_ _ | refine blk_drew ?_ | refine blk_alloc ?_ _)); refine blk_far ?_ NB216_230.out _; (with_reducible repeat (first | refine blk_drewN ?_ _ | refine blk_drew ?_ | refine blk_alloc ?_ _)); refine blk_far ?_ NB216_230.out _; (with_reducible repeat (first | refine blk_drewN ?_ _ | refine blk_drew ?_ | refine blk_alloc ?_ _)); refine blk_far ?_ NB216_230.out _; (with_reducible repeat (first | refine blk_drewN ?_ _ | refine blk_drew ?_ | refine blk_alloc ?_ _)); exact BK216.out⟩, ⟨by (with_reducible repeat (first | refine blk_drewN ?_ _ | refine blk_drew ?_ | refine blk_alloc ?_ _)); refine blk_far ?_ NB223_230.out _; (with_reducible repeat (first | refine blk_drewN ?_ _ | refine blk_drew ?_ | refine blk_alloc ?_ _)); refine blk_far ?_ NB223_230.out _; (with_reducible repeat (first | refine blk_drewN ?_ _ | refine blk_drew ?_ | refine blk_alloc ?_ _)); refine blk_far ?_ NB223_230.out _; (with_reducible repeat (first | refine blk_drewN ?_ _ | refine blk_drew ?_ | refine blk_alloc ?_ _)); exact BK223.out⟩, ⟨by (with_reducible repeat (first | refine blk_drewN ?_ _ | refine blk_drew ?_ | refine blk_alloc ?_ _)); refine blk_put (cs := #[.int .i64 t227, .int .i64 t228, .int .i64 0]) ?_ 2 _ rfl; (with_reducible repeat (first | refine blk_drewN ?_ _ | refine blk_drew ?_ | refine blk_alloc ?_ _)); refine blk_put (cs := #[.int .i64 t227, .int .i64 0, .int .i64 0]) ?_ 1 _ rfl; (with_reducible repeat (first | refine blk_drewN ?_ _ | refine blk_drew ?_ | refine blk_alloc ?_ _)); refine blk_put (cs := #[.int .i64 0, .int .i64 0, .int .i64 0]) ?_ 0 _ rfl; (with_reducible repeat (first | refine blk_drewN ?_ _ | refine blk_drew ?_ | refine blk_alloc ?_ _)); exact BK230.out⟩, ⟨by repeat (first | (with_reducible first | exact HB.out | apply below_alloc | apply pw_below_drewN | apply below_drew1 | refine below_set ?_ GE216.out | refine below_set ?_ GE223.out | refine below_set ?_ GE230.out) | exact HB.out)⟩⟩
  ·rw [if_neg c17] at H
   have c17b0 : ((t210.length : Int) == 6) = false := beq_eq_false_iff_ne.mpr c17
   have c17b1 : ((t210.length : Int) != 6) = true := bne_iff_ne.mpr c17
   (first | rw [c17b0] | (simp only [i64_w, i32_w]; rw [c17b0]) | skip)
   have H' := Aside0.mk H
   clear H
   obtain ⟨Ao20, co20, eo20⟩ := Kd.R_slice HO212.out
   subst eo20
   go_wp2
   go_meet
   case rel => exact ⟨_, (true), (by first | rfl | (simp; done) | (simp [*]; done)), H', ⟨by first | omega | exact Nat.le_refl _⟩, ⟨by (with_reducible repeat (first | apply Kd.R_alloc | apply Kd.R_drewN | apply Kd.R_drew)); exact Kd.R_mono (Kd.R_far (p := ⟨gb230, 2, none⟩) (Kd.R_far (p := ⟨gb230, 1, none⟩) (Kd.R_far (p := ⟨gb230, 0, none⟩) (Kd.R_types HO212.out BK230.out (by decide)) (fun _ hk => hk.2) (.int .i64 t227)) (fun _ hk => hk.2) (.int .i64 t228)) (fun _ hk => hk.2) (.int .i64 t229)) (fun _ hk => hk.1.1.2)⟩, ⟨by (with_reducible repeat (first | apply Kd.R_alloc | apply Kd.R_drewN | apply Kd.R_drew)); exact Kd.R_mono (Kd.R_far (p := ⟨gb230, 2, none⟩) (Kd.R_far (p := ⟨gb230, 1, none⟩) (Kd.R_far (p := ⟨gb230, 0, none⟩) (Kd.R_types HO219.out BK230.out (by decide)) (fun _ hk => hk.2) (.int .i64 t227)) (fun _ hk => hk.2) (.int .i64 t228)) (fun _ hk => hk.2) (.int .i64 t229)) (fun _ hk => hk.1.1.2)⟩, ⟨by (with_reducible repeat (first | refine blk_drewN ?_ _ | refine blk_drew ?_ | refine blk_alloc ?_ _)); refine blk_far ?_ NB216_230.out _; (with_reducible repeat (first | refine blk_drewN ?_ _ | refine blk_drew ?_ | refine blk_alloc ?_ _)); refine blk_far ?_ NB216_230.out _; (with_reducible repeat (first | refine blk_drewN ?_ _ | refine blk_drew ?_ | refine blk_alloc ?_ _)); refine blk_far ?_ NB216_230.out _; (with_reducible repeat (first | refine blk_drewN ?_ _ | refine blk_drew ?_ | refine blk_alloc ?_ _)); exact BK216.out⟩, ⟨by (with_reducible repeat (first | refine blk_drewN ?_ _ | refine blk_drew ?_ | refine blk_alloc ?_ _)); refine blk_far ?_ NB223_230.out _; (with_reducible repeat (first | refine blk_drewN ?_ _ | refine blk_drew ?_ | refine blk_alloc ?_ _)); refine blk_far ?_ NB223_230.out _; (with_reducible repeat (first | refine blk_drewN ?_ _ | refine blk_drew ?_ | refine blk_alloc ?_ _)); refine blk_far ?_ NB223_230.out _; (with_reducible repeat (first | refine blk_drewN ?_ _ | refine blk_drew ?_ | refine blk_alloc ?_ _)); exact BK223.out⟩, ⟨by (with_reducible repeat (first | refine blk_drewN ?_ _ | refine blk_drew ?_ | refine blk_alloc ?_ _)); refine blk_put (cs := #[.int .i64 t227, .int .i64 t228, .int .i64 0]) ?_ 2 _ rfl; (with_reducible repeat (first | refine blk_drewN ?_ _ | refine blk_drew ?_ | refine blk_alloc ?_ _)); refine blk_put (cs := #[.int .i64 t227, .int .i64 0, .int .i64 0]) ?_ 1 _ rfl; (with_reducible repeat (first | refine blk_drewN ?_ _ | refine blk_drew ?_ | refine blk_alloc ?_ _)); refine blk_put (cs := #[.int .i64 0, .int .i64 0, .int .i64 0]) ?_ 0 _ rfl; (with_reducible repeat (first | refine blk_drewN ?_ _ | refine blk_drew ?_ | refine blk_alloc ?_ _)); exact BK230.out⟩, ⟨by repeat (first | (with_reducible first | exact HB.out | apply below_alloc | apply pw_below_drewN | apply below_drew1 | refine below_set ?_ GE216.out | refine below_set ?_ GE223.out | refine below_set ?_ GE230.out) | exact HB.out)⟩⟩
 case rest =>
  clear HC4
  try clear c1
  try clear p2
  try clear c9
  try clear c10
  try clear c12
  try clear c14
  try clear c15
  try clear c17
  try clear c17b0
  try clear c17b1
  try clear hcz11_0
  try clear hcz11_1
  try clear hcz11_2
  try clear hcz16_0
  try clear hcz16_1
  try clear hcz16_2
  try clear hcz7_0
  try clear hcz7_1
  try clear hcz7_2
  try clear hfz11_0
  try clear hfz11_1
  try clear hfz11_2
  try clear hfz16_0
  try clear hfz16_1
  try clear hfz16_2
  try clear hfz7_0
  try clear hfz7_1
  try clear hfz7_2
  obtain ⟨kq, x26_3, rfl, HA, HJ3, HO_1, HO_3, BK216, BK223, BK230, HB⟩ := hcut
  cases kq with
  | zero => exact absurd HA.out (by simp [changelinglaw02_known.j0])
  | succ kj3 =>
   have H := HA.out
   clear HA
   simp only [changelinglaw02_known.j0] at H
   by_cases c21 : x26_3 = true
   ·subst c21
    have H1 : (some false) = some r := by rw [if_pos rfl] at H; exact H
    clear H
    have H := H1
    clear H1
    obtain rfl := Option.some.inj H
    go_wp2
    go_ret
    exact ⟨by first | rfl | (simp [errW_none, errW_some] <;> rfl) | (simp [*, errW_none, errW_some] <;> rfl), by repeat (first | (with_reducible first | exact HB.out | apply below_alloc | apply pw_below_drewN | apply below_drew1 | refine below_set ?_ GE216.out | refine below_set ?_ GE223.out | refine below_set ?_ GE230.out) | exact HB.out)⟩
   ·replace c21 := Bool.eq_false_iff.mpr c21
    subst c21
    have H1 : (if (t213 == 0 && ((t214 == 0 && (t215 == 0)))) = true then (if (t220 == 0 && ((t221 == 0 && (t222 == 0)))) = true then (if (t227 == 11 && ((t228 == 1 && (t229 == 2)))) = true then (if 4 < (t210.length : Int) then (if ((rd_T34 t210 4).f0) = 3 then (if 5 < (t210.length : Int) then (if ((rd_T34 t210 5).f2) = 1 then (if 0 < (t217.length : Int) then (some (((rd_T34 t217 0).f1).toList == ([97] : List UInt8))) else (none)) else (some false)) else (none)) else (some false)) else (none)) else (some false)) else (some false)) else (some false)) = some r := by rw [if_neg (show ¬ (false = true) by decide)] at H; exact H
    clear H
    have H := H1
    clear H1
    by_cases c22 : (t213 == 0 && ((t214 == 0 && (t215 == 0)))) = true
    ·rw [if_pos c22] at H
     have c22b0 : (t213 == 0 && ((t214 == 0 && (t215 == 0)))) = true := c22
     (try (have c22b1 : decide (t213 = 0 && ((t214 == 0 && (t215 == 0)))) = true := by simpa using c22))
     (try (have c22b2 : (t213 == 0 && ((t214 == 0 && (t215 == 0)))) = true := by simpa using c22))
     clear c22
     by_cases c23 : (t220 == 0 && ((t221 == 0 && (t222 == 0)))) = true
     ·rw [if_pos c23] at H
      have c23b0 : (t220 == 0 && ((t221 == 0 && (t222 == 0)))) = true := c23
      (try (have c23b1 : decide (t220 = 0 && ((t221 == 0 && (t222 == 0)))) = true := by simpa using c23))
      (try (have c23b2 : (t220 == 0 && ((t221 == 0 && (t222 == 0)))) = true := by simpa using c23))
      clear c23
      by_cases c24 : (t227 == 11 && ((t228 == 1 && (t229 == 2)))) = true
      ·rw [if_pos c24] at H
       have c24b0 : (t227 == 11 && ((t228 == 1 && (t229 == 2)))) = true := c24
       (try (have c24b1 : decide (t227 = 11 && ((t228 == 1 && (t229 == 2)))) = true := by simpa using c24))
       (try (have c24b2 : (t227 == 11 && ((t228 == 1 && (t229 == 2)))) = true := by simpa using c24))
       clear c24
       by_cases c25 : 4 < (t210.length : Int)
       ·rw [if_pos c25] at H
        have c25b0 : decide (4 < (t210.length : Int)) = true := decide_eq_true c25
        have c25b1 : decide (4 < t210.length) = true := decide_eq_true (by omega)
        clear c25
        by_cases c26 : ((rd_T34 t210 4).f0) = 3
        ·rw [if_pos c26] at H
         have c26b0 : (((rd_T34 t210 4).f0) == 3) = true := beq_iff_eq.mpr c26
         have c26b1 : (((rd_T34 t210 4).f0) != 3) = false := bne_eq_false_iff_eq.mpr c26
         clear c26
         by_cases c27 : 5 < (t210.length : Int)
         ·rw [if_pos c27] at H
          have c27b0 : decide (5 < (t210.length : Int)) = true := decide_eq_true c27
          have c27b1 : decide (5 < t210.length) = true := decide_eq_true (by omega)
          clear c27
          by_cases c28 : ((rd_T34 t210 5).f2) = 1
          ·rw [if_pos c28] at H
           have c28b0 : (((rd_T34 t210 5).f2) == 1) = true := beq_iff_eq.mpr c28
           have c28b1 : (((rd_T34 t210 5).f2) != 1) = false := bne_eq_false_iff_eq.mpr c28
           clear c28
           by_cases c29 : 0 < (t217.length : Int)
           ·rw [if_pos c29] at H
            have c29b0 : decide (0 < (t217.length : Int)) = true := decide_eq_true c29
            have c29b1 : decide (0 < t217.length) = true := decide_eq_true (by omega)
            clear c29
            obtain rfl := Option.some.inj H
            have hnb30 := NB216_223.out
            have hnc30 := NB223_216.out
            have hnb31 := NB216_230.out
            have hnc31 := NB230_216.out
            have hcz32_0 : wc.cell? ⟨gb216, 0, none⟩ = some (.int .i64 t213) := (blk_cell BK216.out 0).trans rfl
            have hcz32_1 : wc.cell? ⟨gb216, 1, none⟩ = some (.int .i64 t214) := (blk_cell BK216.out 1).trans rfl
            have hcz32_2 : wc.cell? ⟨gb216, 2, none⟩ = some (.int .i64 t215) := (blk_cell BK216.out 2).trans rfl
            have hfz32_0 := blk_frozen BK216.out 0
            have hfz32_1 := blk_frozen BK216.out 1
            have hfz32_2 := blk_frozen BK216.out 2
            have hnb33 := NB223_230.out
            have hnc33 := NB230_223.out
            have hcz34_0 : wc.cell? ⟨gb223, 0, none⟩ = some (.int .i64 t220) := (blk_cell BK223.out 0).trans rfl
            have hcz34_1 : wc.cell? ⟨gb223, 1, none⟩ = some (.int .i64 t221) := (blk_cell BK223.out 1).trans rfl
            have hcz34_2 : wc.cell? ⟨gb223, 2, none⟩ = some (.int .i64 t222) := (blk_cell BK223.out 2).trans rfl
            have hfz34_0 := blk_frozen BK223.out 0
            have hfz34_1 := blk_frozen BK223.out 1
            have hfz34_2 := blk_frozen BK223.out 2
            have hcz35_0 : wc.cell? ⟨gb230, 0, none⟩ = some (.int .i64 t227) := (blk_cell BK230.out 0).trans rfl
            have hcz35_1 : wc.cell? ⟨gb230, 1, none⟩ = some (.int .i64 t228) := (blk_cell BK230.out 1).trans rfl
            have hcz35_2 : wc.cell? ⟨gb230, 2, none⟩ = some (.int .i64 t229) := (blk_cell BK230.out 2).trans rfl
            have hfz35_0 := blk_frozen BK230.out 0
            have hfz35_1 := blk_frozen BK230.out 1
            have hfz35_2 := blk_frozen BK230.out 2
            obtain ⟨Ao36, co36, eo36⟩ := Kd.R_slice HO_1.out
            subst eo36
            have p231 : 0 ≤ (4 : Int) := (by omega)
            have q231 : 4 < (t210.length : Int) := of_decide_eq_true (by first | (with_reducible assumption) | assumption)
            obtain ⟨ad231, e231, hx231_0, hx231_1, hx231_2, hx231_3, hx231_4, hx231_5⟩ := at_T34 (Kd.R_reads' HO_1.out).2.2 4 p231 q231
            cases e231
            (try simp only [show (4 : Int).toNat = 4 from rfl, Nat.reduceMul, Nat.reduceEqDiff, Go.Addr.add, ↓reduceIte] at hx231_0)
            (try simp only [show (4 : Int).toNat = 4 from rfl, Nat.reduceMul, Nat.reduceEqDiff, Go.Addr.add, ↓reduceIte] at hx231_1)
            (try simp only [show (4 : Int).toNat = 4 from rfl, Nat.reduceMul, Nat.reduceEqDiff, Go.Addr.add, ↓reduceIte] at hx231_2)
            (try simp only [show (4 : Int).toNat = 4 from rfl, Nat.reduceMul, Nat.reduceEqDiff, Go.Addr.add, ↓reduceIte] at hx231_3)
            (try simp only [show (4 : Int).toNat = 4 from rfl, Nat.reduceMul, Nat.reduceEqDiff, Go.Addr.add, ↓reduceIte] at hx231_4)
            (try simp only [show (4 : Int).toNat = 4 from rfl, Nat.reduceMul, Nat.reduceEqDiff, Go.Addr.add, ↓reduceIte] at hx231_5)
            have qi231 : (4 < t210.length) = True := eq_true (by omega)
            (try rw [show ((4 : Int)).toNat = 4 from rfl] at hx231_0)
            (try rw [show 4 * 6 = 24 from rfl] at hx231_0)
            (try rw [show ((4 : Int)).toNat = 4 from rfl] at hx231_1)
            (try rw [show 4 * 6 = 24 from rfl] at hx231_1)
            (try rw [show ((4 : Int)).toNat = 4 from rfl] at hx231_2)
            (try rw [show 4 * 6 = 24 from rfl] at hx231_2)
            (try rw [show ((4 : Int)).toNat = 4 from rfl] at hx231_3)
            (try rw [show 4 * 6 = 24 from rfl] at hx231_3)
            (try rw [show ((4 : Int)).toNat = 4 from rfl] at hx231_4)
            (try rw [show 4 * 6 = 24 from rfl] at hx231_4)
            (try rw [show ((4 : Int)).toNat = 4 from rfl] at hx231_5)
            (try rw [show 4 * 6 = 24 from rfl] at hx231_5)
            replace p231 := eq_true p231
            replace q231 := eq_true q231
            have p232 : 0 ≤ (5 : Int) := (by omega)
            have q232 : 5 < (t210.length : Int) := of_decide_eq_true (by first | (with_reducible assumption) | assumption)
            obtain ⟨ad232, e232, hx232_0, hx232_1, hx232_2, hx232_3, hx232_4, hx232_5⟩ := at_T34 (Kd.R_reads' HO_1.out).2.2 5 p232 q232
            obtain rfl : ad231 = ad232 := (by injection e232)
            (try simp only [show (5 : Int).toNat = 5 from rfl, Nat.reduceMul, Nat.reduceEqDiff, Go.Addr.add, ↓reduceIte] at hx232_0)
            (try simp only [show (5 : Int).toNat = 5 from rfl, Nat.reduceMul, Nat.reduceEqDiff, Go.Addr.add, ↓reduceIte] at hx232_1)
            (try simp only [show (5 : Int).toNat = 5 from rfl, Nat.reduceMul, Nat.reduceEqDiff, Go.Addr.add, ↓reduceIte] at hx232_2)
            (try simp only [show (5 : Int).toNat = 5 from rfl, Nat.reduceMul, Nat.reduceEqDiff, Go.Addr.add, ↓reduceIte] at hx232_3)
            (try simp only [show (5 : Int).toNat = 5 from rfl, Nat.reduceMul, Nat.reduceEqDiff, Go.Addr.add, ↓reduceIte] at hx232_4)
            (try simp only [show (5 : Int).toNat = 5 from rfl, Nat.reduceMul, Nat.reduceEqDiff, Go.Addr.add, ↓reduceIte] at hx232_5)
            have qi232 : (5 < t210.length) = True := eq_true (by omega)
            (try rw [show ((5 : Int)).toNat = 5 from rfl] at hx232_0)
            (try rw [show 5 * 6 = 30 from rfl] at hx232_0)
            (try rw [show ((5 : Int)).toNat = 5 from rfl] at hx232_1)
            (try rw [show 5 * 6 = 30 from rfl] at hx232_1)
            (try rw [show ((5 : Int)).toNat = 5 from rfl] at hx232_2)
            (try rw [show 5 * 6 = 30 from rfl] at hx232_2)
            (try rw [show ((5 : Int)).toNat = 5 from rfl] at hx232_3)
            (try rw [show 5 * 6 = 30 from rfl] at hx232_3)
            (try rw [show ((5 : Int)).toNat = 5 from rfl] at hx232_4)
            (try rw [show 5 * 6 = 30 from rfl] at hx232_4)
            (try rw [show ((5 : Int)).toNat = 5 from rfl] at hx232_5)
            (try rw [show 5 * 6 = 30 from rfl] at hx232_5)
            replace p232 := eq_true p232
            replace q232 := eq_true q232
            obtain ⟨Ao37, co37, eo37⟩ := Kd.R_slice HO_3.out
            subst eo37
            have p233 : 0 ≤ (0 : Int) := (by omega)
            have q233 : 0 < (t217.length : Int) := of_decide_eq_true (by first | (with_reducible assumption) | assumption)
            obtain ⟨ad233, e233, hx233_0, hx233_1, hx233_2, hx233_3, hx233_4, hx233_5⟩ := at_T34 (Kd.R_reads' HO_3.out).2.2 0 p233 q233
            cases e233
            have qi233 : (0 < t217.length) = True := eq_true (by omega)
            (try rw [show ((0 : Int)).toNat = 0 from rfl] at hx233_0)
            (try rw [show 0 * 6 = 0 from rfl] at hx233_0)
            (try rw [Addr.add_zero'] at hx233_0)
            (try rw [show ((0 : Int)).toNat = 0 from rfl] at hx233_1)
            (try rw [show 0 * 6 = 0 from rfl] at hx233_1)
            (try rw [Addr.add_zero'] at hx233_1)
            (try rw [show ((0 : Int)).toNat = 0 from rfl] at hx233_2)
            (try rw [show 0 * 6 = 0 from rfl] at hx233_2)
            (try rw [Addr.add_zero'] at hx233_2)
            (try rw [show ((0 : Int)).toNat = 0 from rfl] at hx233_3)
            (try rw [show 0 * 6 = 0 from rfl] at hx233_3)
            (try rw [Addr.add_zero'] at hx233_3)
            (try rw [show ((0 : Int)).toNat = 0 from rfl] at hx233_4)
            (try rw [show 0 * 6 = 0 from rfl] at hx233_4)
            (try rw [Addr.add_zero'] at hx233_4)
            (try rw [show ((0 : Int)).toNat = 0 from rfl] at hx233_5)
            (try rw [show 0 * 6 = 0 from rfl] at hx233_5)
            (try rw [Addr.add_zero'] at hx233_5)
            replace p233 := eq_true p233
            replace q233 := eq_true q233
            go_wp2
            go_ret
            exact ⟨by first | rfl | (simp [errW_none, errW_some] <;> rfl) | (simp [*, errW_none, errW_some] <;> rfl), by repeat (first | (with_reducible first | exact HB.out | apply below_alloc | apply pw_below_drewN | apply below_drew1 | refine below_set ?_ GE216.out | refine below_set ?_ GE223.out | refine below_set ?_ GE230.out) | exact HB.out)⟩
           ·rw [if_neg c29] at H
            exact absurd H (by simp)
          ·rw [if_neg c28] at H
           have c28b0 : (((rd_T34 t210 5).f2) == 1) = false := beq_eq_false_iff_ne.mpr c28
           have c28b1 : (((rd_T34 t210 5).f2) != 1) = true := bne_iff_ne.mpr c28
           obtain rfl := Option.some.inj H
           have hnb38 := NB216_223.out
           have hnc38 := NB223_216.out
           have hnb39 := NB216_230.out
           have hnc39 := NB230_216.out
           have hcz40_0 : wc.cell? ⟨gb216, 0, none⟩ = some (.int .i64 t213) := (blk_cell BK216.out 0).trans rfl
           have hcz40_1 : wc.cell? ⟨gb216, 1, none⟩ = some (.int .i64 t214) := (blk_cell BK216.out 1).trans rfl
           have hcz40_2 : wc.cell? ⟨gb216, 2, none⟩ = some (.int .i64 t215) := (blk_cell BK216.out 2).trans rfl
           have hfz40_0 := blk_frozen BK216.out 0
           have hfz40_1 := blk_frozen BK216.out 1
           have hfz40_2 := blk_frozen BK216.out 2
           have hnb41 := NB223_230.out
           have hnc41 := NB230_223.out
           have hcz42_0 : wc.cell? ⟨gb223, 0, none⟩ = some (.int .i64 t220) := (blk_cell BK223.out 0).trans rfl
           have hcz42_1 : wc.cell? ⟨gb223, 1, none⟩ = some (.int .i64 t221) := (blk_cell BK223.out 1).trans rfl
           have hcz42_2 : wc.cell? ⟨gb223, 2, none⟩ = some (.int .i64 t222) := (blk_cell BK223.out 2).trans rfl
           have hfz42_0 := blk_frozen BK223.out 0
           have hfz42_1 := blk_frozen BK223.out 1
           have hfz42_2 := blk_frozen BK223.out 2
           have hcz43_0 : wc.cell? ⟨gb230, 0, none⟩ = some (.int .i64 t227) := (blk_cell BK230.out 0).trans rfl
           have hcz43_1 : wc.cell? ⟨gb230, 1, none⟩ = some (.int .i64 t228) := (blk_cell BK230.out 1).trans rfl
           have hcz43_2 : wc.cell? ⟨gb230, 2, none⟩ = some (.int .i64 t229) := (blk_cell BK230.out 2).trans rfl
           have hfz43_0 := blk_frozen BK230.out 0
           have hfz43_1 := blk_frozen BK230.out 1
           have hfz43_2 := blk_frozen BK230.out 2
           obtain ⟨Ao44, co44, eo44⟩ := Kd.R_slice HO_1.out
           subst eo44
           have p231 : 0 ≤ (4 : Int) := (by omega)
           have q231 : 4 < (t210.length : Int) := of_decide_eq_true (by first | (with_reducible assumption) | assumption)
           obtain ⟨ad231, e231, hx231_0, hx231_1, hx231_2, hx231_3, hx231_4, hx231_5⟩ := at_T34 (Kd.R_reads' HO_1.out).2.2 4 p231 q231
           cases e231
           (try simp only [show (4 : Int).toNat = 4 from rfl, Nat.reduceMul, Nat.reduceEqDiff, Go.Addr.add, ↓reduceIte] at hx231_0)
           (try simp only [show (4 : Int).toNat = 4 from rfl, Nat.reduceMul, Nat.reduceEqDiff, Go.Addr.add, ↓reduceIte] at hx231_1)
           (try simp only [show (4 : Int).toNat = 4 from rfl, Nat.reduceMul, Nat.reduceEqDiff, Go.Addr.add, ↓reduceIte] at hx231_2)
           (try simp only [show (4 : Int).toNat = 4 from rfl, Nat.reduceMul, Nat.reduceEqDiff, Go.Addr.add, ↓reduceIte] at hx231_3)
           (try simp only [show (4 : Int).toNat = 4 from rfl, Nat.reduceMul, Nat.reduceEqDiff, Go.Addr.add, ↓reduceIte] at hx231_4)
           (try simp only [show (4 : Int).toNat = 4 from rfl, Nat.reduceMul, Nat.reduceEqDiff, Go.Addr.add, ↓reduceIte] at hx231_5)
           have qi231 : (4 < t210.length) = True := eq_true (by omega)
           (try rw [show ((4 : Int)).toNat = 4 from rfl] at hx231_0)
           (try rw [show 4 * 6 = 24 from rfl] at hx231_0)
           (try rw [show ((4 : Int)).toNat = 4 from rfl] at hx231_1)
           (try rw [show 4 * 6 = 24 from rfl] at hx231_1)
           (try rw [show ((4 : Int)).toNat = 4 from rfl] at hx231_2)
           (try rw [show 4 * 6 = 24 from rfl] at hx231_2)
           (try rw [show ((4 : Int)).toNat = 4 from rfl] at hx231_3)
           (try rw [show 4 * 6 = 24 from rfl] at hx231_3)
           (try rw [show ((4 : Int)).toNat = 4 from rfl] at hx231_4)
           (try rw [show 4 * 6 = 24 from rfl] at hx231_4)
           (try rw [show ((4 : Int)).toNat = 4 from rfl] at hx231_5)
           (try rw [show 4 * 6 = 24 from rfl] at hx231_5)
           replace p231 := eq_true p231
           replace q231 := eq_true q231
           have p232 : 0 ≤ (5 : Int) := (by omega)
           have q232 : 5 < (t210.length : Int) := of_decide_eq_true (by first | (with_reducible assumption) | assumption)
           obtain ⟨ad232, e232, hx232_0, hx232_1, hx232_2, hx232_3, hx232_4, hx232_5⟩ := at_T34 (Kd.R_reads' HO_1.out).2.2 5 p232 q232
           obtain rfl : ad231 = ad232 := (by injection e232)
           (try simp only [show (5 : Int).toNat = 5 from rfl, Nat.reduceMul, Nat.reduceEqDiff, Go.Addr.add, ↓reduceIte] at hx232_0)
           (try simp only [show (5 : Int).toNat = 5 from rfl, Nat.reduceMul, Nat.reduceEqDiff, Go.Addr.add, ↓reduceIte] at hx232_1)
           (try simp only [show (5 : Int).toNat = 5 from rfl, Nat.reduceMul, Nat.reduceEqDiff, Go.Addr.add, ↓reduceIte] at hx232_2)
           (try simp only [show (5 : Int).toNat = 5 from rfl, Nat.reduceMul, Nat.reduceEqDiff, Go.Addr.add, ↓reduceIte] at hx232_3)
           (try simp only [show (5 : Int).toNat = 5 from rfl, Nat.reduceMul, Nat.reduceEqDiff, Go.Addr.add, ↓reduceIte] at hx232_4)
           (try simp only [show (5 : Int).toNat = 5 from rfl, Nat.reduceMul, Nat.reduceEqDiff, Go.Addr.add, ↓reduceIte] at hx232_5)
           have qi232 : (5 < t210.length) = True := eq_true (by omega)
           (try rw [show ((5 : Int)).toNat = 5 from rfl] at hx232_0)
           (try rw [show 5 * 6 = 30 from rfl] at hx232_0)
           (try rw [show ((5 : Int)).toNat = 5 from rfl] at hx232_1)
           (try rw [show 5 * 6 = 30 from rfl] at hx232_1)
           (try rw [show ((5 : Int)).toNat = 5 from rfl] at hx232_2)
           (try rw [show 5 * 6 = 30 from rfl] at hx232_2)
           (try rw [show ((5 : Int)).toNat = 5 from rfl] at hx232_3)
           (try rw [show 5 * 6 = 30 from rfl] at hx232_3)
           (try rw [show ((5 : Int)).toNat = 5 from rfl] at hx232_4)
           (try rw [show 5 * 6 = 30 from rfl] at hx232_4)
           (try rw [show ((5 : Int)).toNat = 5 from rfl] at hx232_5)
           (try rw [show 5 * 6 = 30 from rfl] at hx232_5)
           replace p232 := eq_true p232
           replace q232 := eq_true q232
           go_wp2
           go_ret
           exact ⟨by first | rfl | (simp [errW_none, errW_some] <;> rfl) | (simp [*, errW_none, errW_some] <;> rfl), by repeat (first | (with_reducible first | exact HB.out | apply below_alloc | apply pw_below_drewN | apply below_drew1 | refine below_set ?_ GE216.out | refine below_set ?_ GE223.out | refine below_set ?_ GE230.out) | exact HB.out)⟩
         ·rw [if_neg c27] at H
          exact absurd H (by simp)
        ·rw [if_neg c26] at H
         have c26b0 : (((rd_T34 t210 4).f0) == 3) = false := beq_eq_false_iff_ne.mpr c26
         have c26b1 : (((rd_T34 t210 4).f0) != 3) = true := bne_iff_ne.mpr c26
         obtain rfl := Option.some.inj H
         have hnb45 := NB216_223.out
         have hnc45 := NB223_216.out
         have hnb46 := NB216_230.out
         have hnc46 := NB230_216.out
         have hcz47_0 : wc.cell? ⟨gb216, 0, none⟩ = some (.int .i64 t213) := (blk_cell BK216.out 0).trans rfl
         have hcz47_1 : wc.cell? ⟨gb216, 1, none⟩ = some (.int .i64 t214) := (blk_cell BK216.out 1).trans rfl
         have hcz47_2 : wc.cell? ⟨gb216, 2, none⟩ = some (.int .i64 t215) := (blk_cell BK216.out 2).trans rfl
         have hfz47_0 := blk_frozen BK216.out 0
         have hfz47_1 := blk_frozen BK216.out 1
         have hfz47_2 := blk_frozen BK216.out 2
         have hnb48 := NB223_230.out
         have hnc48 := NB230_223.out
         have hcz49_0 : wc.cell? ⟨gb223, 0, none⟩ = some (.int .i64 t220) := (blk_cell BK223.out 0).trans rfl
         have hcz49_1 : wc.cell? ⟨gb223, 1, none⟩ = some (.int .i64 t221) := (blk_cell BK223.out 1).trans rfl
         have hcz49_2 : wc.cell? ⟨gb223, 2, none⟩ = some (.int .i64 t222) := (blk_cell BK223.out 2).trans rfl
         have hfz49_0 := blk_frozen BK223.out 0
         have hfz49_1 := blk_frozen BK223.out 1
         have hfz49_2 := blk_frozen BK223.out 2
         have hcz50_0 : wc.cell? ⟨gb230, 0, none⟩ = some (.int .i64 t227) := (blk_cell BK230.out 0).trans rfl
         have hcz50_1 : wc.cell? ⟨gb230, 1, none⟩ = some (.int .i64 t228) := (blk_cell BK230.out 1).trans rfl
         have hcz50_2 : wc.cell? ⟨gb230, 2, none⟩ = some (.int .i64 t229) := (blk_cell BK230.out 2).trans rfl
         have hfz50_0 := blk_frozen BK230.out 0
         have hfz50_1 := blk_frozen BK230.out 1
         have hfz50_2 := blk_frozen BK230.out 2
         obtain ⟨Ao51, co51, eo51⟩ := Kd.R_slice HO_1.out
         subst eo51
         have p231 : 0 ≤ (4 : Int) := (by omega)
         have q231 : 4 < (t210.length : Int) := of_decide_eq_true (by first | (with_reducible assumption) | assumption)
         obtain ⟨ad231, e231, hx231_0, hx231_1, hx231_2, hx231_3, hx231_4, hx231_5⟩ := at_T34 (Kd.R_reads' HO_1.out).2.2 4 p231 q231
         cases e231
         (try simp only [show (4 : Int).toNat = 4 from rfl, Nat.reduceMul, Nat.reduceEqDiff, Go.Addr.add, ↓reduceIte] at hx231_0)
         (try simp only [show (4 : Int).toNat = 4 from rfl, Nat.reduceMul, Nat.reduceEqDiff, Go.Addr.add, ↓reduceIte] at hx231_1)
         (try simp only [show (4 : Int).toNat = 4 from rfl, Nat.reduceMul, Nat.reduceEqDiff, Go.Addr.add, ↓reduceIte] at hx231_2)
         (try simp only [show (4 : Int).toNat = 4 from rfl, Nat.reduceMul, Nat.reduceEqDiff, Go.Addr.add, ↓reduceIte] at hx231_3)
         (try simp only [show (4 : Int).toNat = 4 from rfl, Nat.reduceMul, Nat.reduceEqDiff, Go.Addr.add, ↓reduceIte] at hx231_4)
         (try simp only [show (4 : Int).toNat = 4 from rfl, Nat.reduceMul, Nat.reduceEqDiff, Go.Addr.add, ↓reduceIte] at hx231_5)
         have qi231 : (4 < t210.length) = True := eq_true (by omega)
         (try rw [show ((4 : Int)).toNat = 4 from rfl] at hx231_0)
         (try rw [show 4 * 6 = 24 from rfl] at hx231_0)
         (try rw [show ((4 : Int)).toNat = 4 from rfl] at hx231_1)
         (try rw [show 4 * 6 = 24 from rfl] at hx231_1)
         (try rw [show ((4 : Int)).toNat = 4 from rfl] at hx231_2)
         (try rw [show 4 * 6 = 24 from rfl] at hx231_2)
         (try rw [show ((4 : Int)).toNat = 4 from rfl] at hx231_3)
         (try rw [show 4 * 6 = 24 from rfl] at hx231_3)
         (try rw [show ((4 : Int)).toNat = 4 from rfl] at hx231_4)
         (try rw [show 4 * 6 = 24 from rfl] at hx231_4)
         (try rw [show ((4 : Int)).toNat = 4 from rfl] at hx231_5)
         (try rw [show 4 * 6 = 24 from rfl] at hx231_5)
         replace p231 := eq_true p231
         replace q231 := eq_true q231
         go_wp2
         go_ret
         exact ⟨by first | rfl | (simp [errW_none, errW_some] <;> rfl) | (simp [*, errW_none, errW_some] <;> rfl), by repeat (first | (with_reducible first | exact HB.out | apply below_alloc | apply pw_below_drewN | apply below_drew1 | refine below_set ?_ GE216.out | refine below_set ?_ GE223.out | refine below_set ?_ GE230.out) | exact HB.out)⟩
       ·rw [if_neg c25] at H
        exact absurd H (by simp)
      ·rw [if_neg c24] at H
       have c24b0 : (t227 == 11 && ((t228 == 1 && (t229 == 2)))) = false := by simpa using c24
       (try (have c24b1 : decide (t227 = 11 && ((t228 == 1 && (t229 == 2)))) = false := by simpa using c24))
       (try (have c24b2 : (t227 == 11 && ((t228 == 1 && (t229 == 2)))) = false := by simpa using c24))
       (try (have c24b3 : ¬ (t227 = 11 && ((t228 == 1 && (t229 == 2)))) := by simpa using c24))
       clear c24
       obtain rfl := Option.some.inj H
       have hnb52 := NB216_223.out
       have hnc52 := NB223_216.out
       have hnb53 := NB216_230.out
       have hnc53 := NB230_216.out
       have hcz54_0 : wc.cell? ⟨gb216, 0, none⟩ = some (.int .i64 t213) := (blk_cell BK216.out 0).trans rfl
       have hcz54_1 : wc.cell? ⟨gb216, 1, none⟩ = some (.int .i64 t214) := (blk_cell BK216.out 1).trans rfl
       have hcz54_2 : wc.cell? ⟨gb216, 2, none⟩ = some (.int .i64 t215) := (blk_cell BK216.out 2).trans rfl
       have hfz54_0 := blk_frozen BK216.out 0
       have hfz54_1 := blk_frozen BK216.out 1
       have hfz54_2 := blk_frozen BK216.out 2
       have hnb55 := NB223_230.out
       have hnc55 := NB230_223.out
       have hcz56_0 : wc.cell? ⟨gb223, 0, none⟩ = some (.int .i64 t220) := (blk_cell BK223.out 0).trans rfl
       have hcz56_1 : wc.cell? ⟨gb223, 1, none⟩ = some (.int .i64 t221) := (blk_cell BK223.out 1).trans rfl
       have hcz56_2 : wc.cell? ⟨gb223, 2, none⟩ = some (.int .i64 t222) := (blk_cell BK223.out 2).trans rfl
       have hfz56_0 := blk_frozen BK223.out 0
       have hfz56_1 := blk_frozen BK223.out 1
       have hfz56_2 := blk_frozen BK223.out 2
       have hcz57_0 : wc.cell? ⟨gb230, 0, none⟩ = some (.int .i64 t227) := (blk_cell BK230.out 0).trans rfl
       have hcz57_1 : wc.cell? ⟨gb230, 1, none⟩ = some (.int .i64 t228) := (blk_cell BK230.out 1).trans rfl
       have hcz57_2 : wc.cell? ⟨gb230, 2, none⟩ = some (.int .i64 t229) := (blk_cell BK230.out 2).trans rfl
       have hfz57_0 := blk_frozen BK230.out 0
       have hfz57_1 := blk_frozen BK230.out 1
       have hfz57_2 := blk_frozen BK230.out 2
       go_wp2
       go_ret
       exact ⟨by first | rfl | (simp [errW_none, errW_some] <;> rfl) | (simp [*, errW_none, errW_some] <;> rfl), by repeat (first | (with_reducible first | exact HB.out | apply below_alloc | apply pw_below_drewN | apply below_drew1 | refine below_set ?_ GE216.out | refine below_set ?_ GE223.out | refine below_set ?_ GE230.out) | exact HB.out)⟩
     ·rw [if_neg c23] at H
      have c23b0 : (t220 == 0 && ((t221 == 0 && (t222 == 0)))) = false := by simpa using c23
      (try (have c23b1 : decide (t220 = 0 && ((t221 == 0 && (t222 == 0)))) = false := by simpa using c23))
      (try (have c23b2 : (t220 == 0 && ((t221 == 0 && (t222 == 0)))) = false := by simpa using c23))
      (try (have c23b3 : ¬ (t220 = 0 && ((t221 == 0 && (t222 == 0)))) := by simpa using c23))
      clear c23
      obtain rfl := Option.some.inj H
      have hnb58 := NB216_223.out
      have hnc58 := NB223_216.out
      have hnb59 := NB216_230.out
      have hnc59 := NB230_216.out
      have hcz60_0 : wc.cell? ⟨gb216, 0, none⟩ = some (.int .i64 t213) := (blk_cell BK216.out 0).trans rfl
      have hcz60_1 : wc.cell? ⟨gb216, 1, none⟩ = some (.int .i64 t214) := (blk_cell BK216.out 1).trans rfl
      have hcz60_2 : wc.cell? ⟨gb216, 2, none⟩ = some (.int .i64 t215) := (blk_cell BK216.out 2).trans rfl
      have hfz60_0 := blk_frozen BK216.out 0
      have hfz60_1 := blk_frozen BK216.out 1
      have hfz60_2 := blk_frozen BK216.out 2
      have hnb61 := NB223_230.out
      have hnc61 := NB230_223.out
      have hcz62_0 : wc.cell? ⟨gb223, 0, none⟩ = some (.int .i64 t220) := (blk_cell BK223.out 0).trans rfl
      have hcz62_1 : wc.cell? ⟨gb223, 1, none⟩ = some (.int .i64 t221) := (blk_cell BK223.out 1).trans rfl
      have hcz62_2 : wc.cell? ⟨gb223, 2, none⟩ = some (.int .i64 t222) := (blk_cell BK223.out 2).trans rfl
      have hfz62_0 := blk_frozen BK223.out 0
      have hfz62_1 := blk_frozen BK223.out 1
      have hfz62_2 := blk_frozen BK223.out 2
      go_wp2
      go_ret
      exact ⟨by first | rfl | (simp [errW_none, errW_some] <;> rfl) | (simp [*, errW_none, errW_some] <;> rfl), by repeat (first | (with_reducible first | exact HB.out | apply below_alloc | apply pw_below_drewN | apply below_drew1 | refine below_set ?_ GE216.out | refine below_set ?_ GE223.out | refine below_set ?_ GE230.out) | exact HB.out)⟩
    ·rw [if_neg c22] at H
     have c22b0 : (t213 == 0 && ((t214 == 0 && (t215 == 0)))) = false := by simpa using c22
     (try (have c22b1 : decide (t213 = 0 && ((t214 == 0 && (t215 == 0)))) = false := by simpa using c22))
     (try (have c22b2 : (t213 == 0 && ((t214 == 0 && (t215 == 0)))) = false := by simpa using c22))
     (try (have c22b3 : ¬ (t213 = 0 && ((t214 == 0 && (t215 == 0)))) := by simpa using c22))
     clear c22
     obtain rfl := Option.some.inj H
     have hnb63 := NB216_223.out
     have hnc63 := NB223_216.out
     have hnb64 := NB216_230.out
     have hnc64 := NB230_216.out
     have hcz65_0 : wc.cell? ⟨gb216, 0, none⟩ = some (.int .i64 t213) := (blk_cell BK216.out 0).trans rfl
     have hcz65_1 : wc.cell? ⟨gb216, 1, none⟩ = some (.int .i64 t214) := (blk_cell BK216.out 1).trans rfl
     have hcz65_2 : wc.cell? ⟨gb216, 2, none⟩ = some (.int .i64 t215) := (blk_cell BK216.out 2).trans rfl
     have hfz65_0 := blk_frozen BK216.out 0
     have hfz65_1 := blk_frozen BK216.out 1
     have hfz65_2 := blk_frozen BK216.out 2
     go_wp2
     go_ret
     exact ⟨by first | rfl | (simp [errW_none, errW_some] <;> rfl) | (simp [*, errW_none, errW_some] <;> rfl), by repeat (first | (with_reducible first | exact HB.out | apply below_alloc | apply pw_below_drewN | apply below_drew1 | refine below_set ?_ GE216.out | refine below_set ?_ GE223.out | refine below_set ?_ GE230.out) | exact HB.out)⟩

end Go.Proofs.Ytdjcelbicmpobaa.H
