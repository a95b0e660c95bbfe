-- LAID BY A PROGRAM OF THIS SESSION (wip/tools/patch_print.py over the print): not trusted; Lean checks it.
import Derived.Test.YtdjcelbicmpobaaH0
import Derived.Test.YtdjcelbicmpobaaH3
namespace Go.Proofs.Ytdjcelbicmpobaa.H
open Go.RowKit Go.Proofs.YtdjcelbicmpobaaW.PrintWords Go.Proofs.YtdjcelbicmpobaaW.PrintLast Go.Proofs.YtdjcelbicmpobaaW.PrintMore
attribute [local go_sem] max2_int min2_int max_two min_two max_three min_three max_four min_four   -- for this text's walks alone
set_option linter.unusedVariables false
set_option linter.unusedSimpArgs false

/-! ### lex_reader_skip: function 19 -/
def lex_reader_skip.l0 : Nat → ByteArray → Int → Int → Int → Option (Bool × ByteArray × Int × Int × Int)
 | 0, _, _, _, _ => none
 | k + 1, x1000, x1001, x1002, x1003 => if x1001 < (x1000.size : Int) then (if 0 ≤ x1001 then (if (bt x1000 x1001) = 32 then (lex_reader_skip.l0 k x1000 (wrap64 (x1001 + 1)) x1002 (wrap64 (x1003 + 1))) else (if (bt x1000 x1001) = 10 then (lex_reader_skip.l0 k x1000 (wrap64 (x1001 + 1)) (wrap64 (x1002 + 1)) 1) else (if (bt x1000 x1001) = 45 then (if (wrap64 (x1001 + 1)) < (x1000.size : Int) then (if 0 ≤ (wrap64 (x1001 + 1)) then (if (bt x1000 (wrap64 (x1001 + 1))) = 45 then ((lex_reader_remark.f k x1000 x1001 x1002 x1003).bind fun bt101 => (lex_reader_skip.l0 k bt101.1 bt101.2.1 bt101.2.2.1 bt101.2.2.2)) else (some (decide (x1001 < (x1000.size : Int)), x1000, x1001, x1002, x1003))) else (none)) else (some (decide (x1001 < (x1000.size : Int)), x1000, x1001, x1002, x1003))) else (some (decide (x1001 < (x1000.size : Int)), x1000, x1001, x1002, x1003))))) else (none)) else (some (decide (x1001 < (x1000.size : Int)), x1000, x1001, x1002, x1003))
def lex_reader_skip.f (k : Nat) (s0_0 : ByteArray) (s0_1 : Int) (s0_2 : Int) (s0_3 : Int) : Option (Bool × ByteArray × Int × Int × Int) := lex_reader_skip.l0 k s0_0 s0_1 s0_2 s0_3
theorem lex_reader_skip.mono_l : ∀ k, (∀ y0 y1 y2 y3, LeO (lex_reader_skip.l0 k y0 y1 y2 y3) (lex_reader_skip.l0 (k + 1) y0 y1 y2 y3))
 | 0 => fun _ _ _ _ r h => by simp [lex_reader_skip.l0] at h
 | k + 1 => by
  have ih0 := lex_reader_skip.mono_l k
  ·intro y0 y1 y2 y3
   unfold lex_reader_skip.l0
   repeat' first
   | (with_reducible exact ih0 _ _ _ _)
   | (with_reducible exact lex_reader_remark.mono _ _ _ _ _)
   | (with_reducible exact LeO.refl _)
   | (with_reducible exact LeO.none _)
   | (with_reducible refine LeO.ite ?_ ?_)
   | (with_reducible refine LeO.bind ?_ (fun _ => ?_))
   | exact ih0 _ _ _ _
   | exact lex_reader_remark.mono _ _ _ _ _
   | exact LeO.none _
   | refine LeO.ite ?_ ?_
   | refine LeO.bind ?_ (fun _ => ?_)
theorem lex_reader_skip.mono : ∀ a0 a1 a2 a3 k, LeO (lex_reader_skip.f k a0 a1 a2 a3) (lex_reader_skip.f (k + 1) a0 a1 a2 a3) := by
 intro a0 a1 a2 a3 k
 have ih0 := lex_reader_skip.mono_l k
 unfold lex_reader_skip.f
 repeat' first
   | (with_reducible exact ih0 _ _ _ _)
   | (with_reducible exact lex_reader_remark.mono _ _ _ _ _)
   | (with_reducible exact LeO.refl _)
   | (with_reducible exact LeO.none _)
   | (with_reducible refine LeO.ite ?_ ?_)
   | (with_reducible refine LeO.bind ?_ (fun _ => ?_))
   | exact ih0 _ _ _ _
   | exact lex_reader_remark.mono _ _ _ _ _
   | exact LeO.none _
   | refine LeO.ite ?_ ?_
   | refine LeO.bind ?_ (fun _ => ?_)
set_option maxHeartbeats 8000000 in
set_option maxRecDepth 100000 in
theorem lex_reader_skip.calls (k : Nat) (g : Nat) (s0_0 : ByteArray) (s0_1 : Int) (s0_2 : Int) (s0_3 : Int) (r1 : Bool) (r2 : ByteArray) (r3 : Int) (r4 : Int) (r5 : Int) (w0 w : World) (hI : IsS46 w0 w g s0_0 s0_1 s0_2 s0_3) (hB : Below w0.heap.size w0 w) (h : lex_reader_skip.f k s0_0 s0_1 s0_2 s0_3 = some (r1, r2, r3, r4, r5)) :
  Calls Try.prog 19 #[.pointer (some ⟨g, 0, none⟩)] w fun e w' => e = .returned (.bool r1) ∧ IsS46 w0 w' g r2 r3 r4 r5 ∧ Below w0.heap.size w0 w' ∧ KeepBut w w' g none := by
 have hu25 := Try.underlying25
 have HI0 := Aside0.mk hI
 have HK := Aside0.mk (KeepBut.refl w g none)
 have HL := Aside0.mk hB.size
 clear hI
 have HW0 := Aside0.mk hB.size
 have HB := Aside0.mk hB
 clear hB
 have H : (lex_reader_skip.l0 k s0_0 s0_1 s0_2 s0_3) = some (r1, r2, r3, r4, r5) := h
 clear h
 have H' := Aside0.mk H
 clear H
 go_enter Try.func19, Try.ntmps19
 go_wp2
 repeat (go_quiet (fail); try go_wp2)
 go_step3
 go_wp2
 repeat (go_quiet (fail); try go_wp2)
 go_step3
 go_wp2
 repeat (go_quiet (fail); try go_wp2)
 go_loopg [] k (fun kq w' => ∃ (x1000_1 : ByteArray) (x1001_1 : Int) (x1002_1 : Int) (x1003_1 : Int), Aside0 (lex_reader_skip.l0 kq x1000_1 x1001_1 x1002_1 x1003_1 = some (r1, r2, r3, r4, r5)) ∧ Aside0 (kq ≤ k) ∧ Aside0 (IsS46 w0 w' g x1000_1 x1001_1 x1002_1 x1003_1) ∧ Aside0 (KeepBut w w' g none) ∧ Aside0 (Below w0.heap.size w0 w'))
 case atStart => exact ⟨(s0_0), (s0_1), (s0_2), (s0_3), H', ⟨Nat.le_refl _⟩, ⟨by repeat (first | (with_reducible first | exact HI0.out | apply IsS46.alloc | apply IsS46.drewN | apply IsS46.drew | apply IsS46.set_0 | apply IsS46.set_1 | apply IsS46.set_2 | apply IsS46.set_3) | exact HI0.out)⟩, ⟨by repeat (first | (with_reducible first | exact HK.out | apply KeepBut.set_ | apply keep_drewN | apply keep_drew | apply keep_alloc) | exact HK.out)⟩, ⟨by repeat (first | (with_reducible first | exact HB.out | apply below_alloc | apply pw_below_drewN | apply below_drew1 | refine below_set ?_ (IsS46.ge HI0.out)) | exact HB.out)⟩⟩
 case round =>
  clear H'
  try clear c1
  obtain ⟨x1000_1, x1001_1, x1002_1, x1003_1, HA, HK1, HI0, HK, HB⟩ := hrel
  cases gk with
  | zero => exact absurd HA.out (by simp [lex_reader_skip.l0])
  | succ k1 =>
   have H := HA.out
   clear HA
   simp only [lex_reader_skip.l0] at H
   by_cases c2 : x1001_1 < (x1000_1.size : Int)
   ·rw [if_pos c2] at H
    have c2b0 : decide (x1001_1 < (x1000_1.size : Int)) = true := decide_eq_true c2
    clear c2
    by_cases c3 : 0 ≤ x1001_1
    ·rw [if_pos c3] at H
     have c3b0 : decide (0 ≤ x1001_1) = true := decide_eq_true c3
     clear c3
     by_cases c5 : (bt x1000_1 x1001_1) = 32
     ·rw [if_pos c5] at H
      have c5b0 : ((bt x1000_1 x1001_1) == 32) = true := beq_iff_eq.mpr c5
      have c5b1 : ((bt x1000_1 x1001_1) != 32) = false := bne_eq_false_iff_eq.mpr c5
      clear c5
      have H' := Aside0.mk H
      clear H
      obtain ⟨HGz6, hgz6⟩ := HI0.out
      have hcz6_0 := cellS46_0 HGz6
      have hcz6_1 := cellS46_1 HGz6
      have hcz6_2 := cellS46_2 HGz6
      have hcz6_3 := cellS46_3 HGz6
      have hfz6_0 := blk_frozen HGz6 0
      have hfz6_1 := blk_frozen HGz6 1
      have hfz6_2 := blk_frozen HGz6 2
      have hfz6_3 := blk_frozen HGz6 3
      clear HGz6 hgz6
      have p4 : 0 ≤ (x1001_1 : Int) := of_decide_eq_true (by first | (with_reducible assumption) | assumption)
      have q4 : x1001_1 < (x1000_1.size : Int) := of_decide_eq_true (by first | (with_reducible assumption) | assumption)
      have hx4 := bt_at x1000_1 x1001_1
      replace p4 := eq_true p4
      replace q4 := eq_true q4
      go_wp2
      repeat (go_quiet (fail); try go_wp2)
      go_roundg k1
      case measure => have := HK1.out; omega
      case rel => exact ⟨(x1000_1), (wrap64 (x1001_1 + 1)), (x1002_1), (wrap64 (x1003_1 + 1)), H', ⟨by have := HK1.out; omega⟩, ⟨by repeat (first | (with_reducible first | exact HI0.out | apply IsS46.alloc | apply IsS46.drewN | apply IsS46.drew | apply IsS46.set_0 | apply IsS46.set_1 | apply IsS46.set_2 | apply IsS46.set_3) | exact HI0.out)⟩, ⟨by repeat (first | (with_reducible first | exact HK.out | apply KeepBut.set_ | apply keep_drewN | apply keep_drew | apply keep_alloc) | exact HK.out)⟩, ⟨by repeat (first | (with_reducible first | exact HB.out | apply below_alloc | apply pw_below_drewN | apply below_drew1 | refine below_set ?_ (IsS46.ge HI0.out)) | exact HB.out)⟩⟩
     ·rw [if_neg c5] at H
      have c5b0 : ((bt x1000_1 x1001_1) == 32) = false := beq_eq_false_iff_ne.mpr c5
      have c5b1 : ((bt x1000_1 x1001_1) != 32) = true := bne_iff_ne.mpr c5
      by_cases c7 : (bt x1000_1 x1001_1) = 10
      ·rw [if_pos c7] at H
       have c7b0 : ((bt x1000_1 x1001_1) == 10) = true := beq_iff_eq.mpr c7
       have c7b1 : ((bt x1000_1 x1001_1) != 10) = false := bne_eq_false_iff_eq.mpr c7
       clear c7
       have H' := Aside0.mk H
       clear H
       obtain ⟨HGz8, hgz8⟩ := HI0.out
       have hcz8_0 := cellS46_0 HGz8
       have hcz8_1 := cellS46_1 HGz8
       have hcz8_2 := cellS46_2 HGz8
       have hcz8_3 := cellS46_3 HGz8
       have hfz8_0 := blk_frozen HGz8 0
       have hfz8_1 := blk_frozen HGz8 1
       have hfz8_2 := blk_frozen HGz8 2
       have hfz8_3 := blk_frozen HGz8 3
       clear HGz8 hgz8
       have p4 : 0 ≤ (x1001_1 : Int) := of_decide_eq_true (by first | (with_reducible assumption) | assumption)
       have q4 : x1001_1 < (x1000_1.size : Int) := of_decide_eq_true (by first | (with_reducible assumption) | assumption)
       have hx4 := bt_at x1000_1 x1001_1
       replace p4 := eq_true p4
       replace q4 := eq_true q4
       go_wp2
       repeat (go_quiet (fail); try go_wp2)
       go_roundg k1
       case measure => have := HK1.out; omega
       case rel => exact ⟨(x1000_1), (wrap64 (x1001_1 + 1)), (wrap64 (x1002_1 + 1)), (1), H', ⟨by have := HK1.out; omega⟩, ⟨by repeat (first | (with_reducible first | exact HI0.out | apply IsS46.alloc | apply IsS46.drewN | apply IsS46.drew | apply IsS46.set_0 | apply IsS46.set_1 | apply IsS46.set_2 | apply IsS46.set_3) | exact HI0.out)⟩, ⟨by repeat (first | (with_reducible first | exact HK.out | apply KeepBut.set_ | apply keep_drewN | apply keep_drew | apply keep_alloc) | exact HK.out)⟩, ⟨by repeat (first | (with_reducible first | exact HB.out | apply below_alloc | apply pw_below_drewN | apply below_drew1 | refine below_set ?_ (IsS46.ge HI0.out)) | exact HB.out)⟩⟩
      ·rw [if_neg c7] at H
       have c7b0 : ((bt x1000_1 x1001_1) == 10) = false := beq_eq_false_iff_ne.mpr c7
       have c7b1 : ((bt x1000_1 x1001_1) != 10) = true := bne_iff_ne.mpr c7
       by_cases c9 : (bt x1000_1 x1001_1) = 45
       ·rw [if_pos c9] at H
        have c9b0 : ((bt x1000_1 x1001_1) == 45) = true := beq_iff_eq.mpr c9
        have c9b1 : ((bt x1000_1 x1001_1) != 45) = false := bne_eq_false_iff_eq.mpr c9
        clear c9
        by_cases c10 : (wrap64 (x1001_1 + 1)) < (x1000_1.size : Int)
        ·rw [if_pos c10] at H
         have c10b0 : decide ((wrap64 (x1001_1 + 1)) < (x1000_1.size : Int)) = true := decide_eq_true c10
         clear c10
         obtain ⟨ji11, hji11⟩ : ∃ j_ : Int, (wrap64 (x1001_1 + 1)) = j_ := ⟨_, rfl⟩
         replace H : (if 0 ≤ (ji11) then (if (bt x1000_1 (ji11)) = 45 then ((lex_reader_remark.f k1 x1000_1 x1001_1 x1002_1 x1003_1).bind fun bt101 => (lex_reader_skip.l0 k1 bt101.1 bt101.2.1 bt101.2.2.1 bt101.2.2.2)) else (some (decide (x1001_1 < (x1000_1.size : Int)), x1000_1, x1001_1, x1002_1, x1003_1))) else (none)) = some (r1, r2, r3, r4, r5) := by first | (rw [hji11] at H; exact H) | (simp only [hji11] at H ⊢; exact H)
         (try rw [hji11] at c10b0)
         have hji11w : (IntKind.i64.wrap (x1001_1 + 1)) = ji11 := (i64_w _).trans hji11
         by_cases c12 : 0 ≤ (ji11)
         ·rw [if_pos c12] at H
          have c12b0 : decide (0 ≤ (ji11)) = true := decide_eq_true c12
          clear c12
          by_cases c14 : (bt x1000_1 (ji11)) = 45
          ·rw [if_pos c14] at H
           have c14b0 : ((bt x1000_1 (ji11)) == 45) = true := beq_iff_eq.mpr c14
           have c14b1 : ((bt x1000_1 (ji11)) != 45) = false := bne_eq_false_iff_eq.mpr c14
           clear c14
           replace H := Option.bind_eq_some_iff.mp H
           obtain ⟨⟨t101, t102, t103, t104⟩, A150, H⟩ := H
           replace H : (lex_reader_skip.l0 k1 t101 t102 t103 t104) = some (r1, r2, r3, r4, r5) := H
           have A15 := Aside0.mk A150
           clear A150
           have H' := Aside0.mk H
           clear H
           obtain ⟨HGz16, hgz16⟩ := HI0.out
           have hcz16_0 := cellS46_0 HGz16
           have hcz16_1 := cellS46_1 HGz16
           have hcz16_2 := cellS46_2 HGz16
           have hcz16_3 := cellS46_3 HGz16
           have hfz16_0 := blk_frozen HGz16 0
           have hfz16_1 := blk_frozen HGz16 1
           have hfz16_2 := blk_frozen HGz16 2
           have hfz16_3 := blk_frozen HGz16 3
           clear HGz16 hgz16
           have p4 : 0 ≤ (x1001_1 : Int) := of_decide_eq_true (by first | (with_reducible assumption) | assumption)
           have q4 : x1001_1 < (x1000_1.size : Int) := of_decide_eq_true (by first | (with_reducible assumption) | assumption)
           have hx4 := bt_at x1000_1 x1001_1
           replace p4 := eq_true p4
           replace q4 := eq_true q4
           have p13 : 0 ≤ ((ji11) : Int) := of_decide_eq_true (by first | (with_reducible assumption) | assumption)
           have q13 : (ji11) < (x1000_1.size : Int) := of_decide_eq_true (by first | (with_reducible assumption) | assumption)
           have hx13 := bt_at x1000_1 (ji11)
           replace p13 := eq_true p13
           replace q13 := eq_true q13
           go_wp2_with (first | (go_at_call 27; (with_reducible refine (lex_reader_remark.calls k1 g x1000_1 x1001_1 x1002_1 x1003_1 t101 t102 t103 t104 w0 _ ?side1 ?side2 A15.out).mono ?_); (case side1 => repeat (first | (with_reducible first | exact HI0.out | apply IsS46.alloc | apply IsS46.drewN | apply IsS46.drew | apply IsS46.set_0 | apply IsS46.set_1 | apply IsS46.set_2 | apply IsS46.set_3) | exact HI0.out)); (case side2 => repeat (first | (with_reducible first | exact HB.out | apply below_alloc | apply pw_below_drewN | apply below_drew1 | refine below_set ?_ (IsS46.ge HI0.out)) | exact HB.out)); rintro e w17 ⟨rfl, hi, hb, hk⟩; have n0_ := Aside0.mk (KeepBut.trans (by repeat (first | (with_reducible first | exact HK.out | apply KeepBut.set_ | apply keep_drewN | apply keep_drew | apply keep_alloc) | exact HK.out)) hk (.inl rfl)); have n1_ := Aside0.mk (hb); have n2_ := Aside0.mk (hi); clear HK; clear HB; clear HI0; have HK := n0_; have HB := n1_; have HI0 := n2_; clear n0_ n1_ n2_; (try clear hb); (try clear hb2); (try clear hk); (try clear hi)))
           repeat (go_quiet (first | (go_at_call 27; (with_reducible refine (lex_reader_remark.calls k1 g x1000_1 x1001_1 x1002_1 x1003_1 t101 t102 t103 t104 w0 _ ?side1 ?side2 A15.out).mono ?_); (case side1 => repeat (first | (with_reducible first | exact HI0.out | apply IsS46.alloc | apply IsS46.drewN | apply IsS46.drew | apply IsS46.set_0 | apply IsS46.set_1 | apply IsS46.set_2 | apply IsS46.set_3) | exact HI0.out)); (case side2 => repeat (first | (with_reducible first | exact HB.out | apply below_alloc | apply pw_below_drewN | apply below_drew1 | refine below_set ?_ (IsS46.ge HI0.out)) | exact HB.out)); rintro e w17 ⟨rfl, hi, hb, hk⟩; have n0_ := Aside0.mk (KeepBut.trans (by repeat (first | (with_reducible first | exact HK.out | apply KeepBut.set_ | apply keep_drewN | apply keep_drew | apply keep_alloc) | exact HK.out)) hk (.inl rfl)); have n1_ := Aside0.mk (hb); have n2_ := Aside0.mk (hi); clear HK; clear HB; clear HI0; have HK := n0_; have HB := n1_; have HI0 := n2_; clear n0_ n1_ n2_; (try clear hb); (try clear hb2); (try clear hk); (try clear hi))); try go_wp2_with (first | (go_at_call 27; (with_reducible refine (lex_reader_remark.calls k1 g x1000_1 x1001_1 x1002_1 x1003_1 t101 t102 t103 t104 w0 _ ?side1 ?side2 A15.out).mono ?_); (case side1 => repeat (first | (with_reducible first | exact HI0.out | apply IsS46.alloc | apply IsS46.drewN | apply IsS46.drew | apply IsS46.set_0 | apply IsS46.set_1 | apply IsS46.set_2 | apply IsS46.set_3) | exact HI0.out)); (case side2 => repeat (first | (with_reducible first | exact HB.out | apply below_alloc | apply pw_below_drewN | apply below_drew1 | refine below_set ?_ (IsS46.ge HI0.out)) | exact HB.out)); rintro e w17 ⟨rfl, hi, hb, hk⟩; have n0_ := Aside0.mk (KeepBut.trans (by repeat (first | (with_reducible first | exact HK.out | apply KeepBut.set_ | apply keep_drewN | apply keep_drew | apply keep_alloc) | exact HK.out)) hk (.inl rfl)); have n1_ := Aside0.mk (hb); have n2_ := Aside0.mk (hi); clear HK; clear HB; clear HI0; have HK := n0_; have HB := n1_; have HI0 := n2_; clear n0_ n1_ n2_; (try clear hb); (try clear hb2); (try clear hk); (try clear hi))))
           go_roundg k1
           case measure => have := HK1.out; omega
           case rel => exact ⟨(t101), (t102), (t103), (t104), H', ⟨by have := HK1.out; omega⟩, ⟨by repeat (first | (with_reducible first | exact HI0.out | apply IsS46.alloc | apply IsS46.drewN | apply IsS46.drew | apply IsS46.set_0 | apply IsS46.set_1 | apply IsS46.set_2 | apply IsS46.set_3) | exact HI0.out)⟩, ⟨by repeat (first | (with_reducible first | exact HK.out | apply KeepBut.set_ | apply keep_drewN | apply keep_drew | apply keep_alloc) | exact HK.out)⟩, ⟨by repeat (first | (with_reducible first | exact HB.out | apply below_alloc | apply pw_below_drewN | apply below_drew1 | refine below_set ?_ (IsS46.ge HI0.out)) | exact HB.out)⟩⟩
          ·rw [if_neg c14] at H
           have c14b0 : ((bt x1000_1 (ji11)) == 45) = false := beq_eq_false_iff_ne.mpr c14
           have c14b1 : ((bt x1000_1 (ji11)) != 45) = true := bne_iff_ne.mpr c14
           simp only [Option.some.injEq, Prod.mk.injEq] at H
           obtain ⟨rfl, rfl, rfl, rfl, rfl⟩ := H
           obtain ⟨HGz18, hgz18⟩ := HI0.out
           have hcz18_0 := cellS46_0 HGz18
           have hcz18_1 := cellS46_1 HGz18
           have hcz18_2 := cellS46_2 HGz18
           have hcz18_3 := cellS46_3 HGz18
           have hfz18_0 := blk_frozen HGz18 0
           have hfz18_1 := blk_frozen HGz18 1
           have hfz18_2 := blk_frozen HGz18 2
           have hfz18_3 := blk_frozen HGz18 3
           clear HGz18 hgz18
           have p4 : 0 ≤ (x1001_1 : Int) := of_decide_eq_true (by first | (with_reducible assumption) | assumption)
           have q4 : x1001_1 < (x1000_1.size : Int) := of_decide_eq_true (by first | (with_reducible assumption) | assumption)
           have hx4 := bt_at x1000_1 x1001_1
           replace p4 := eq_true p4
           replace q4 := eq_true q4
           have p13 : 0 ≤ ((ji11) : Int) := of_decide_eq_true (by first | (with_reducible assumption) | assumption)
           have q13 : (ji11) < (x1000_1.size : Int) := of_decide_eq_true (by first | (with_reducible assumption) | assumption)
           have hx13 := bt_at x1000_1 (ji11)
           replace p13 := eq_true p13
           replace q13 := eq_true q13
           go_wp2
           repeat (go_quiet (fail); try go_wp2)
           (try rw [Exit.noGoto_ret]); go_ret
           exact ⟨by first | rfl | (simp [errW_none, errW_some] <;> rfl) | (simp only [← hji11]; first | rfl | (simp [errW_none, errW_some] <;> rfl)) | (simp [*, errW_none, errW_some] <;> rfl), by repeat (first | (with_reducible first | exact HI0.out | apply IsS46.alloc | apply IsS46.drewN | apply IsS46.drew | apply IsS46.set_0 | apply IsS46.set_1 | apply IsS46.set_2 | apply IsS46.set_3) | exact HI0.out), by repeat (first | (with_reducible first | exact HB.out | apply below_alloc | apply pw_below_drewN | apply below_drew1 | refine below_set ?_ (IsS46.ge HI0.out)) | exact HB.out), by repeat (first | (with_reducible first | exact HK.out | apply KeepBut.set_ | apply keep_drewN | apply keep_drew | apply keep_alloc) | exact HK.out)⟩
         ·rw [if_neg c12] at H
          exact absurd H (by simp)
        ·rw [if_neg c10] at H
         have c10b0 : decide ((wrap64 (x1001_1 + 1)) < (x1000_1.size : Int)) = false := decide_eq_false c10
         clear c10
         simp only [Option.some.injEq, Prod.mk.injEq] at H
         obtain ⟨rfl, rfl, rfl, rfl, rfl⟩ := H
         obtain ⟨HGz19, hgz19⟩ := HI0.out
         have hcz19_0 := cellS46_0 HGz19
         have hcz19_1 := cellS46_1 HGz19
         have hcz19_2 := cellS46_2 HGz19
         have hcz19_3 := cellS46_3 HGz19
         have hfz19_0 := blk_frozen HGz19 0
         have hfz19_1 := blk_frozen HGz19 1
         have hfz19_2 := blk_frozen HGz19 2
         have hfz19_3 := blk_frozen HGz19 3
         clear HGz19 hgz19
         have p4 : 0 ≤ (x1001_1 : Int) := of_decide_eq_true (by first | (with_reducible assumption) | assumption)
         have q4 : x1001_1 < (x1000_1.size : Int) := of_decide_eq_true (by first | (with_reducible assumption) | assumption)
         have hx4 := bt_at x1000_1 x1001_1
         replace p4 := eq_true p4
         replace q4 := eq_true q4
         go_wp2
         repeat (go_quiet (fail); try go_wp2)
         (try rw [Exit.noGoto_ret]); go_ret
         exact ⟨by first | rfl | (simp [errW_none, errW_some] <;> rfl) | (simp [*, errW_none, errW_some] <;> rfl), by repeat (first | (with_reducible first | exact HI0.out | apply IsS46.alloc | apply IsS46.drewN | apply IsS46.drew | apply IsS46.set_0 | apply IsS46.set_1 | apply IsS46.set_2 | apply IsS46.set_3) | exact HI0.out), by repeat (first | (with_reducible first | exact HB.out | apply below_alloc | apply pw_below_drewN | apply below_drew1 | refine below_set ?_ (IsS46.ge HI0.out)) | exact HB.out), by repeat (first | (with_reducible first | exact HK.out | apply KeepBut.set_ | apply keep_drewN | apply keep_drew | apply keep_alloc) | exact HK.out)⟩
       ·rw [if_neg c9] at H
        have c9b0 : ((bt x1000_1 x1001_1) == 45) = false := beq_eq_false_iff_ne.mpr c9
        have c9b1 : ((bt x1000_1 x1001_1) != 45) = true := bne_iff_ne.mpr c9
        simp only [Option.some.injEq, Prod.mk.injEq] at H
        obtain ⟨rfl, rfl, rfl, rfl, rfl⟩ := H
        obtain ⟨HGz20, hgz20⟩ := HI0.out
        have hcz20_0 := cellS46_0 HGz20
        have hcz20_1 := cellS46_1 HGz20
        have hcz20_2 := cellS46_2 HGz20
        have hcz20_3 := cellS46_3 HGz20
        have hfz20_0 := blk_frozen HGz20 0
        have hfz20_1 := blk_frozen HGz20 1
        have hfz20_2 := blk_frozen HGz20 2
        have hfz20_3 := blk_frozen HGz20 3
        clear HGz20 hgz20
        have p4 : 0 ≤ (x1001_1 : Int) := of_decide_eq_true (by first | (with_reducible assumption) | assumption)
        have q4 : x1001_1 < (x1000_1.size : Int) := of_decide_eq_true (by first | (with_reducible assumption) | assumption)
        have hx4 := bt_at x1000_1 x1001_1
        replace p4 := eq_true p4
        replace q4 := eq_true q4
        go_wp2
        repeat (go_quiet (fail); try go_wp2)
        (try rw [Exit.noGoto_ret]); go_ret
        exact ⟨by first | rfl | (simp [errW_none, errW_some] <;> rfl) | (simp [*, errW_none, errW_some] <;> rfl), by repeat (first | (with_reducible first | exact HI0.out | apply IsS46.alloc | apply IsS46.drewN | apply IsS46.drew | apply IsS46.set_0 | apply IsS46.set_1 | apply IsS46.set_2 | apply IsS46.set_3) | exact HI0.out), by repeat (first | (with_reducible first | exact HB.out | apply below_alloc | apply pw_below_drewN | apply below_drew1 | refine below_set ?_ (IsS46.ge HI0.out)) | exact HB.out), by repeat (first | (with_reducible first | exact HK.out | apply KeepBut.set_ | apply keep_drewN | apply keep_drew | apply keep_alloc) | exact HK.out)⟩
    ·rw [if_neg c3] at H
     exact absurd H (by simp)
   ·rw [if_neg c2] at H
    have c2b0 : decide (x1001_1 < (x1000_1.size : Int)) = false := decide_eq_false c2
    clear c2
    simp only [Option.some.injEq, Prod.mk.injEq] at H
    obtain ⟨rfl, rfl, rfl, rfl, rfl⟩ := H
    obtain ⟨HGz21, hgz21⟩ := HI0.out
    have hcz21_0 := cellS46_0 HGz21
    have hcz21_1 := cellS46_1 HGz21
    have hcz21_2 := cellS46_2 HGz21
    have hcz21_3 := cellS46_3 HGz21
    have hfz21_0 := blk_frozen HGz21 0
    have hfz21_1 := blk_frozen HGz21 1
    have hfz21_2 := blk_frozen HGz21 2
    have hfz21_3 := blk_frozen HGz21 3
    clear HGz21 hgz21
    go_wp2
    repeat (go_quiet (fail); try go_wp2)
    (try rw [Exit.noGoto_ret]); go_ret
    exact ⟨by first | rfl | (simp [errW_none, errW_some] <;> rfl) | (simp [*, errW_none, errW_some] <;> rfl), by repeat (first | (with_reducible first | exact HI0.out | apply IsS46.alloc | apply IsS46.drewN | apply IsS46.drew | apply IsS46.set_0 | apply IsS46.set_1 | apply IsS46.set_2 | apply IsS46.set_3) | exact HI0.out), by repeat (first | (with_reducible first | exact HB.out | apply below_alloc | apply pw_below_drewN | apply below_drew1 | refine below_set ?_ (IsS46.ge HI0.out)) | exact HB.out), by repeat (first | (with_reducible first | exact HK.out | apply KeepBut.set_ | apply keep_drewN | apply keep_drew | apply keep_alloc) | exact HK.out)⟩

end Go.Proofs.Ytdjcelbicmpobaa.H
