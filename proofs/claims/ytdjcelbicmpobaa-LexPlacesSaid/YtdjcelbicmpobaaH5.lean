-- LAID BY A PROGRAM OF THIS SESSION (wip/tools/patch_print.py over the print): not trusted; Lean checks it.
import Derived.Test.YtdjcelbicmpobaaH0
namespace Go.Proofs.Ytdjcelbicmpobaa.H
open Go.RowKit Go.Proofs.YtdjcelbicmpobaaW.PrintWords Go.Proofs.YtdjcelbicmpobaaW.PrintLast Go.Proofs.YtdjcelbicmpobaaW.PrintMore
attribute [local go_sem] max2_int min2_int max_two min_two max_three min_three max_four min_four   -- for this text's walks alone
set_option linter.unusedVariables false
set_option linter.unusedSimpArgs false

/-! ### lex_classOf: function 28 -/
mutual
def lex_classOf.j2 : Nat → Int → Option (Int)
 | 0, _ => none
 | k + 1, x0 => if x0 = 40 then (lex_classOf.j3 k x0 (x0 == 40)) else (if x0 = 41 then (lex_classOf.j3 k x0 (x0 == 41)) else (if x0 = 123 then (lex_classOf.j3 k x0 (x0 == 123)) else (if x0 = 125 then (lex_classOf.j3 k x0 (x0 == 125)) else (if x0 = 59 then (lex_classOf.j3 k x0 (x0 == 59)) else (lex_classOf.j3 k x0 (x0 == 92))))))
def lex_classOf.j3 : Nat → Int → Bool → Option (Int)
 | 0, _, _ => none
 | k + 1, x28, x29 => if x29 = true then (some 4) else (if x28 = 33 then (some 5) else (if x28 = 35 then (some 5) else (if x28 = 36 then (some 5) else (if x28 = 37 then (some 5) else (if x28 = 38 then (some 5) else (if x28 = 42 then (some 5) else (if x28 = 43 then (some 5) else (if x28 = 46 then (some 5) else (if x28 = 47 then (some 5) else (if x28 = 58 then (some 5) else (if x28 = 60 then (some 5) else (if x28 = 61 then (some 5) else (if x28 = 62 then (some 5) else (if x28 = 63 then (some 5) else (if x28 = 64 then (some 5) else (if x28 = 94 then (some 5) else (if x28 = 124 then (some 5) else (if x28 = 126 then (some 5) else (if x28 = 45 then (some 5) else (some 0))))))))))))))))))))
def lex_classOf.j0 : Nat → Int → Bool → Option (Int)
 | 0, _, _ => none
 | k + 1, x0, x3 => if x3 = true then (some 1) else (if x0 ≥ 65 then (lex_classOf.j1 k x0 (decide (x0 ≤ 90))) else (lex_classOf.j1 k x0 false))
def lex_classOf.j1 : Nat → Int → Bool → Option (Int)
 | 0, _, _ => none
 | k + 1, x0, x14 => if x14 = true then (some 2) else (if x0 ≥ 48 then (if x0 ≤ 57 then (some 3) else (lex_classOf.j2 k x0)) else (lex_classOf.j2 k x0))
end
def lex_classOf.f (k : Nat) (a0 : Int) : Option (Int) := if a0 ≥ 97 then (if a0 ≤ 122 then (lex_classOf.j0 k a0 true) else (lex_classOf.j0 k a0 (a0 == 95))) else (lex_classOf.j0 k a0 (a0 == 95))
theorem lex_classOf.mono_l : ∀ k, (∀ y0, LeO (lex_classOf.j2 k y0) (lex_classOf.j2 (k + 1) y0)) ∧ (∀ y0 y1, LeO (lex_classOf.j3 k y0 y1) (lex_classOf.j3 (k + 1) y0 y1)) ∧ (∀ y0 y1, LeO (lex_classOf.j0 k y0 y1) (lex_classOf.j0 (k + 1) y0 y1)) ∧ (∀ y0 y1, LeO (lex_classOf.j1 k y0 y1) (lex_classOf.j1 (k + 1) y0 y1))
 | 0 => ⟨fun _ r h => by simp [lex_classOf.j2] at h, fun _ _ r h => by simp [lex_classOf.j3] at h, fun _ _ r h => by simp [lex_classOf.j0] at h, fun _ _ r h => by simp [lex_classOf.j1] at h⟩
 | k + 1 => by
  obtain ⟨ih0, ih1, ih2, ih3⟩ := lex_classOf.mono_l k
  refine ⟨?_, ?_, ?_, ?_⟩
  ·intro y0
   unfold lex_classOf.j2
   repeat' first
   | (with_reducible exact ih0 _)
   | (with_reducible exact ih1 _ _)
   | (with_reducible exact ih2 _ _)
   | (with_reducible exact ih3 _ _)
   | (with_reducible exact LeO.refl _)
   | (with_reducible exact LeO.none _)
   | (with_reducible refine LeO.ite ?_ ?_)
   | (with_reducible refine LeO.bind ?_ (fun _ => ?_))
   | exact ih0 _
   | exact ih1 _ _
   | exact ih2 _ _
   | exact ih3 _ _
   | exact LeO.none _
   | refine LeO.ite ?_ ?_
   | refine LeO.bind ?_ (fun _ => ?_)
  ·intro y0 y1
   unfold lex_classOf.j3
   repeat' first
   | (with_reducible exact ih0 _)
   | (with_reducible exact ih1 _ _)
   | (with_reducible exact ih2 _ _)
   | (with_reducible exact ih3 _ _)
   | (with_reducible exact LeO.refl _)
   | (with_reducible exact LeO.none _)
   | (with_reducible refine LeO.ite ?_ ?_)
   | (with_reducible refine LeO.bind ?_ (fun _ => ?_))
   | exact ih0 _
   | exact ih1 _ _
   | exact ih2 _ _
   | exact ih3 _ _
   | exact LeO.none _
   | refine LeO.ite ?_ ?_
   | refine LeO.bind ?_ (fun _ => ?_)
  ·intro y0 y1
   unfold lex_classOf.j0
   repeat' first
   | (with_reducible exact ih0 _)
   | (with_reducible exact ih1 _ _)
   | (with_reducible exact ih2 _ _)
   | (with_reducible exact ih3 _ _)
   | (with_reducible exact LeO.refl _)
   | (with_reducible exact LeO.none _)
   | (with_reducible refine LeO.ite ?_ ?_)
   | (with_reducible refine LeO.bind ?_ (fun _ => ?_))
   | exact ih0 _
   | exact ih1 _ _
   | exact ih2 _ _
   | exact ih3 _ _
   | exact LeO.none _
   | refine LeO.ite ?_ ?_
   | refine LeO.bind ?_ (fun _ => ?_)
  ·intro y0 y1
   unfold lex_classOf.j1
   repeat' first
   | (with_reducible exact ih0 _)
   | (with_reducible exact ih1 _ _)
   | (with_reducible exact ih2 _ _)
   | (with_reducible exact ih3 _ _)
   | (with_reducible exact LeO.refl _)
   | (with_reducible exact LeO.none _)
   | (with_reducible refine LeO.ite ?_ ?_)
   | (with_reducible refine LeO.bind ?_ (fun _ => ?_))
   | exact ih0 _
   | exact ih1 _ _
   | exact ih2 _ _
   | exact ih3 _ _
   | exact LeO.none _
   | refine LeO.ite ?_ ?_
   | refine LeO.bind ?_ (fun _ => ?_)
theorem lex_classOf.mono : ∀ a0 k, LeO (lex_classOf.f k a0) (lex_classOf.f (k + 1) a0) := by
 intro a0 k
 obtain ⟨ih0, ih1, ih2, ih3⟩ := lex_classOf.mono_l k
 unfold lex_classOf.f
 repeat' first
   | (with_reducible exact ih0 _)
   | (with_reducible exact ih1 _ _)
   | (with_reducible exact ih2 _ _)
   | (with_reducible exact ih3 _ _)
   | (with_reducible exact LeO.refl _)
   | (with_reducible exact LeO.none _)
   | (with_reducible refine LeO.ite ?_ ?_)
   | (with_reducible refine LeO.bind ?_ (fun _ => ?_))
   | exact ih0 _
   | exact ih1 _ _
   | exact ih2 _ _
   | exact ih3 _ _
   | exact LeO.none _
   | refine LeO.ite ?_ ?_
   | refine LeO.bind ?_ (fun _ => ?_)
set_option maxHeartbeats 8000000 in
set_option maxRecDepth 100000 in
theorem lex_classOf.calls (k : Nat) (a0 : Int) (r : Int) (w : World) (h : lex_classOf.f k a0 = some r) :
  Calls Try.prog 28 #[.int .u8 a0] w fun e w' => e = .returned (.int .i64 r) ∧ Drawn0 w w' := by
 have H : (if a0 ≥ 97 then (if a0 ≤ 122 then (lex_classOf.j0 k a0 true) else (lex_classOf.j0 k a0 (a0 == 95))) else (lex_classOf.j0 k a0 (a0 == 95))) = some r := h
 clear h
 have HC2 := Aside0.mk H
 clear H
 go_enter Try.func28, Try.ntmps28
 go_upto_block 0 with (fail)
 go_cut [] (fun wc => ∃ (kq : Nat), Aside0 (lex_classOf.j2 kq a0 = some r) ∧ Aside0 (kq ≤ k) ∧ Drawn0 w wc)
 case first =>
  have H := HC2.out
  clear HC2
  have HC3 := Aside0.mk H
  clear H
  go_upto_region 1 with (fail)
  go_cut [3] (fun v3 wc => ∃ (kq : Nat) (x3_2 : Bool), v3 = .bool x3_2 ∧ Aside0 (lex_classOf.j0 kq a0 x3_2 = some r) ∧ Aside0 (kq ≤ k) ∧ Drawn0 w wc)
  case first =>
   have H := HC3.out
   clear HC3
   by_cases c4 : a0 ≥ 97
   ·rw [if_pos c4] at H
    have c4b0 : decide (97 ≤ a0) = true := decide_eq_true c4
    clear c4
    (first | rw [c4b0] | (simp only [i64_w, i32_w]; rw [c4b0]) | skip)
    by_cases c5 : a0 ≤ 122
    ·rw [if_pos c5] at H
     have c5b0 : decide (a0 ≤ 122) = true := decide_eq_true c5
     clear c5
     have H' := Aside0.mk H
     clear H
     go_wp2
     go_meet
     case rel => exact ⟨_, (true), (by first | rfl | (simp; done) | (simp [*]; done)), H', ⟨by first | omega | exact Nat.le_refl _⟩, by repeat (first | exact Drawn0.refl _ | apply Drawn0.step)⟩
    ·rw [if_neg c5] at H
     have c5b0 : decide (a0 ≤ 122) = false := decide_eq_false c5
     clear c5
     have H' := Aside0.mk H
     clear H
     go_wp2
     go_meet
     case rel => exact ⟨_, ((a0 == 95)), (by first | rfl | (simp; done) | (simp [*]; done)), H', ⟨by first | omega | exact Nat.le_refl _⟩, by repeat (first | exact Drawn0.refl _ | apply Drawn0.step)⟩
   ·rw [if_neg c4] at H
    have c4b0 : decide (97 ≤ a0) = false := decide_eq_false c4
    clear c4
    (first | rw [c4b0] | (simp only [i64_w, i32_w]; rw [c4b0]) | skip)
    have H' := Aside0.mk H
    clear H
    go_wp2
    go_meet
    case rel => exact ⟨_, ((a0 == 95)), (by first | rfl | (simp; done) | (simp [*]; done)), H', ⟨by first | omega | exact Nat.le_refl _⟩, by repeat (first | exact Drawn0.refl _ | apply Drawn0.step)⟩
  case rest =>
   clear HC3
   try clear c2
   try clear p2
   try clear c4
   try clear c4b0
   try clear c5
   try clear c5b0
   obtain ⟨kq, x3_2, rfl, HA, HJ2, ⟨mc2, rfl⟩⟩ := hcut
   cases kq with
   | zero => exact absurd HA.out (by simp [lex_classOf.j0])
   | succ kj2 =>
    have H := HA.out
    clear HA
    simp only [lex_classOf.j0] at H
    by_cases c6 : x3_2 = true
    ·subst c6
     have H1 : (some 1) = some r := by rw [if_pos rfl] at H; exact H
     clear H
     have H := H1
     clear H1
     obtain rfl := Option.some.inj H
     go_wp2
     go_ret
     exact ⟨by first | rfl | (simp; done) | (simp [*]; done), by repeat (first | exact Drawn0.refl _ | apply Drawn0.step)⟩
    ·replace c6 := Bool.eq_false_iff.mpr c6
     subst c6
     have H1 : (if a0 ≥ 65 then (lex_classOf.j1 kj2 a0 (decide (a0 ≤ 90))) else (lex_classOf.j1 kj2 a0 false)) = some r := by rw [if_neg (show ¬ (false = true) by decide)] at H; exact H
     clear H
     have H := H1
     clear H1
     have HC7 := Aside0.mk H
     clear H
     go_upto_region 3 with (fail)
     go_cut [14] (fun v14 wc => ∃ (kq : Nat) (x14_6 : Bool), v14 = .bool x14_6 ∧ Aside0 (lex_classOf.j1 kq a0 x14_6 = some r) ∧ Aside0 (kq ≤ kj2) ∧ Drawn0 w wc)
     case first =>
      have H := HC7.out
      clear HC7
      by_cases c8 : a0 ≥ 65
      ·rw [if_pos c8] at H
       have c8b0 : decide (65 ≤ a0) = true := decide_eq_true c8
       clear c8
       (first | rw [c8b0] | (simp only [i64_w, i32_w]; rw [c8b0]) | skip)
       have H' := Aside0.mk H
       clear H
       go_wp2
       go_meet
       case rel => exact ⟨_, (decide (a0 ≤ 90)), (by first | rfl | (simp; done) | (simp [*]; done)), H', ⟨by have := HJ2.out; first | omega | exact Nat.le_refl _⟩, by repeat (first | exact Drawn0.refl _ | apply Drawn0.step)⟩
      ·rw [if_neg c8] at H
       have c8b0 : decide (65 ≤ a0) = false := decide_eq_false c8
       clear c8
       (first | rw [c8b0] | (simp only [i64_w, i32_w]; rw [c8b0]) | skip)
       have H' := Aside0.mk H
       clear H
       go_wp2
       go_meet
       case rel => exact ⟨_, (false), (by first | rfl | (simp; done) | (simp [*]; done)), H', ⟨by have := HJ2.out; first | omega | exact Nat.le_refl _⟩, by repeat (first | exact Drawn0.refl _ | apply Drawn0.step)⟩
     case rest =>
      clear HC7
      try clear c2
      try clear p2
      try clear c4
      try clear c4b0
      try clear c5
      try clear c5b0
      try clear c6
      try clear c8
      try clear c8b0
      try clear p2
      obtain ⟨kq, x14_6, rfl, HA, HJ6, ⟨mc6, rfl⟩⟩ := hcut
      cases kq with
      | zero => exact absurd HA.out (by simp [lex_classOf.j1])
      | succ kj6 =>
       have H := HA.out
       clear HA
       simp only [lex_classOf.j1] at H
       by_cases c9 : x14_6 = true
       ·subst c9
        have H1 : (some 2) = some r := by rw [if_pos rfl] at H; exact H
        clear H
        have H := H1
        clear H1
        obtain rfl := Option.some.inj H
        go_wp2
        go_ret
        exact ⟨by first | rfl | (simp; done) | (simp [*]; done), by repeat (first | exact Drawn0.refl _ | apply Drawn0.step)⟩
       ·replace c9 := Bool.eq_false_iff.mpr c9
        subst c9
        have H1 : (if a0 ≥ 48 then (if a0 ≤ 57 then (some 3) else (lex_classOf.j2 kj6 a0)) else (lex_classOf.j2 kj6 a0)) = some r := by rw [if_neg (show ¬ (false = true) by decide)] at H; exact H
        clear H
        have H := H1
        clear H1
        by_cases c10 : a0 ≥ 48
        ·rw [if_pos c10] at H
         have c10b0 : decide (48 ≤ a0) = true := decide_eq_true c10
         clear c10
         by_cases c11 : a0 ≤ 57
         ·rw [if_pos c11] at H
          have c11b0 : decide (a0 ≤ 57) = true := decide_eq_true c11
          clear c11
          obtain rfl := Option.some.inj H
          go_wp2
          go_ret
          exact ⟨by first | rfl | (simp; done) | (simp [*]; done), by repeat (first | exact Drawn0.refl _ | apply Drawn0.step)⟩
         ·rw [if_neg c11] at H
          have c11b0 : decide (a0 ≤ 57) = false := decide_eq_false c11
          clear c11
          have H' := Aside0.mk H
          clear H
          go_wp2
          go_meet
          case rel => exact ⟨_, H', ⟨by have := HJ2.out; have := HJ6.out; first | omega | exact Nat.le_refl _⟩, by repeat (first | exact Drawn0.refl _ | apply Drawn0.step)⟩
        ·rw [if_neg c10] at H
         have c10b0 : decide (48 ≤ a0) = false := decide_eq_false c10
         clear c10
         have H' := Aside0.mk H
         clear H
         go_wp2
         go_meet
         case rel => exact ⟨_, H', ⟨by have := HJ2.out; have := HJ6.out; first | omega | exact Nat.le_refl _⟩, by repeat (first | exact Drawn0.refl _ | apply Drawn0.step)⟩
 case rest =>
  clear HC2
  try clear c1
  try clear c2
  try clear p2
  try clear c4
  try clear c4b0
  try clear c5
  try clear c5b0
  try clear c6
  try clear c8
  try clear c8b0
  try clear c9
  try clear c10
  try clear c10b0
  try clear c11
  try clear c11b0
  try clear p2
  obtain ⟨kq, HA, HJ1, ⟨mc1, rfl⟩⟩ := hcut
  cases kq with
  | zero => exact absurd HA.out (by simp [lex_classOf.j2])
  | succ kj1 =>
   have H := HA.out
   clear HA
   simp only [lex_classOf.j2] at H
   have HC12 := Aside0.mk H
   clear H
   go_upto_if 29 with (fail)
   go_cut [29] (fun v29 wc => ∃ (kq : Nat) (x29_11 : Bool), v29 = .bool x29_11 ∧ Aside0 (lex_classOf.j3 kq a0 x29_11 = some r) ∧ Aside0 (kq ≤ kj1) ∧ Drawn0 w wc)
   case first =>
    have H := HC12.out
    clear HC12
    by_cases c13 : a0 = 40
    ·rw [if_pos c13] at H
     have c13b0 : (a0 == 40) = true := beq_iff_eq.mpr c13
     have c13b1 : (a0 != 40) = false := bne_eq_false_iff_eq.mpr c13
     clear c13
     (first | rw [c13b0] | (simp only [i64_w, i32_w]; rw [c13b0]) | skip)
     have H' := Aside0.mk H
     clear H
     go_wp2
     go_meet
     case rel => exact ⟨_, ((a0 == 40)), (by first | rfl | (simp; done) | (simp [*]; done)), H', ⟨by have := HJ1.out; first | omega | exact Nat.le_refl _⟩, by repeat (first | exact Drawn0.refl _ | apply Drawn0.step)⟩
    ·rw [if_neg c13] at H
     have c13b0 : (a0 == 40) = false := beq_eq_false_iff_ne.mpr c13
     have c13b1 : (a0 != 40) = true := bne_iff_ne.mpr c13
     (first | rw [c13b0] | (simp only [i64_w, i32_w]; rw [c13b0]) | skip)
     by_cases c14 : a0 = 41
     ·rw [if_pos c14] at H
      have c14b0 : (a0 == 41) = true := beq_iff_eq.mpr c14
      have c14b1 : (a0 != 41) = false := bne_eq_false_iff_eq.mpr c14
      clear c14
      have H' := Aside0.mk H
      clear H
      go_wp2
      go_meet
      case rel => exact ⟨_, ((a0 == 41)), (by first | rfl | (simp; done) | (simp [*]; done)), H', ⟨by have := HJ1.out; first | omega | exact Nat.le_refl _⟩, by repeat (first | exact Drawn0.refl _ | apply Drawn0.step)⟩
     ·rw [if_neg c14] at H
      have c14b0 : (a0 == 41) = false := beq_eq_false_iff_ne.mpr c14
      have c14b1 : (a0 != 41) = true := bne_iff_ne.mpr c14
      by_cases c15 : a0 = 123
      ·rw [if_pos c15] at H
       have c15b0 : (a0 == 123) = true := beq_iff_eq.mpr c15
       have c15b1 : (a0 != 123) = false := bne_eq_false_iff_eq.mpr c15
       clear c15
       have H' := Aside0.mk H
       clear H
       go_wp2
       go_meet
       case rel => exact ⟨_, ((a0 == 123)), (by first | rfl | (simp; done) | (simp [*]; done)), H', ⟨by have := HJ1.out; first | omega | exact Nat.le_refl _⟩, by repeat (first | exact Drawn0.refl _ | apply Drawn0.step)⟩
      ·rw [if_neg c15] at H
       have c15b0 : (a0 == 123) = false := beq_eq_false_iff_ne.mpr c15
       have c15b1 : (a0 != 123) = true := bne_iff_ne.mpr c15
       by_cases c16 : a0 = 125
       ·rw [if_pos c16] at H
        have c16b0 : (a0 == 125) = true := beq_iff_eq.mpr c16
        have c16b1 : (a0 != 125) = false := bne_eq_false_iff_eq.mpr c16
        clear c16
        have H' := Aside0.mk H
        clear H
        go_wp2
        go_meet
        case rel => exact ⟨_, ((a0 == 125)), (by first | rfl | (simp; done) | (simp [*]; done)), H', ⟨by have := HJ1.out; first | omega | exact Nat.le_refl _⟩, by repeat (first | exact Drawn0.refl _ | apply Drawn0.step)⟩
       ·rw [if_neg c16] at H
        have c16b0 : (a0 == 125) = false := beq_eq_false_iff_ne.mpr c16
        have c16b1 : (a0 != 125) = true := bne_iff_ne.mpr c16
        by_cases c17 : a0 = 59
        ·rw [if_pos c17] at H
         have c17b0 : (a0 == 59) = true := beq_iff_eq.mpr c17
         have c17b1 : (a0 != 59) = false := bne_eq_false_iff_eq.mpr c17
         clear c17
         have H' := Aside0.mk H
         clear H
         go_wp2
         go_meet
         case rel => exact ⟨_, ((a0 == 59)), (by first | rfl | (simp; done) | (simp [*]; done)), H', ⟨by have := HJ1.out; first | omega | exact Nat.le_refl _⟩, by repeat (first | exact Drawn0.refl _ | apply Drawn0.step)⟩
        ·rw [if_neg c17] at H
         have c17b0 : (a0 == 59) = false := beq_eq_false_iff_ne.mpr c17
         have c17b1 : (a0 != 59) = true := bne_iff_ne.mpr c17
         have H' := Aside0.mk H
         clear H
         go_wp2
         go_meet
         case rel => exact ⟨_, ((a0 == 92)), (by first | rfl | (simp; done) | (simp [*]; done)), H', ⟨by have := HJ1.out; first | omega | exact Nat.le_refl _⟩, by repeat (first | exact Drawn0.refl _ | apply Drawn0.step)⟩
   case rest =>
    clear HC12
    try clear c1
    try clear c2
    try clear p2
    try clear c4
    try clear c4b0
    try clear c5
    try clear c5b0
    try clear c6
    try clear c8
    try clear c8b0
    try clear c9
    try clear c10
    try clear c10b0
    try clear c11
    try clear c11b0
    try clear c13
    try clear c13b0
    try clear c13b1
    try clear c14
    try clear c14b0
    try clear c14b1
    try clear c15
    try clear c15b0
    try clear c15b1
    try clear c16
    try clear c16b0
    try clear c16b1
    try clear c17
    try clear c17b0
    try clear c17b1
    try clear p2
    obtain ⟨kq, x29_11, rfl, HA, HJ11, ⟨mc11, rfl⟩⟩ := hcut
    cases kq with
    | zero => exact absurd HA.out (by simp [lex_classOf.j3])
    | succ kj11 =>
     have H := HA.out
     clear HA
     simp only [lex_classOf.j3] at H
     by_cases c18 : x29_11 = true
     ·subst c18
      have H1 : (some 4) = some r := by rw [if_pos rfl] at H; exact H
      clear H
      have H := H1
      clear H1
      obtain rfl := Option.some.inj H
      go_wp2
      go_ret
      exact ⟨by first | rfl | (simp; done) | (simp [*]; done), by repeat (first | exact Drawn0.refl _ | apply Drawn0.step)⟩
     ·replace c18 := Bool.eq_false_iff.mpr c18
      subst c18
      have H1 : (if a0 = 33 then (some 5) else (if a0 = 35 then (some 5) else (if a0 = 36 then (some 5) else (if a0 = 37 then (some 5) else (if a0 = 38 then (some 5) else (if a0 = 42 then (some 5) else (if a0 = 43 then (some 5) else (if a0 = 46 then (some 5) else (if a0 = 47 then (some 5) else (if a0 = 58 then (some 5) else (if a0 = 60 then (some 5) else (if a0 = 61 then (some 5) else (if a0 = 62 then (some 5) else (if a0 = 63 then (some 5) else (if a0 = 64 then (some 5) else (if a0 = 94 then (some 5) else (if a0 = 124 then (some 5) else (if a0 = 126 then (some 5) else (if a0 = 45 then (some 5) else (some 0)))))))))))))))))))) = some r := by rw [if_neg (show ¬ (false = true) by decide)] at H; exact H
      clear H
      have H := H1
      clear H1
      by_cases c19 : a0 = 33
      ·rw [if_pos c19] at H
       have c19b0 : (a0 == 33) = true := beq_iff_eq.mpr c19
       have c19b1 : (a0 != 33) = false := bne_eq_false_iff_eq.mpr c19
       clear c19
       obtain rfl := Option.some.inj H
       go_wp2
       go_ret
       exact ⟨by first | rfl | (simp; done) | (simp [*]; done), by repeat (first | exact Drawn0.refl _ | apply Drawn0.step)⟩
      ·rw [if_neg c19] at H
       have c19b0 : (a0 == 33) = false := beq_eq_false_iff_ne.mpr c19
       have c19b1 : (a0 != 33) = true := bne_iff_ne.mpr c19
       by_cases c20 : a0 = 35
       ·rw [if_pos c20] at H
        have c20b0 : (a0 == 35) = true := beq_iff_eq.mpr c20
        have c20b1 : (a0 != 35) = false := bne_eq_false_iff_eq.mpr c20
        clear c20
        obtain rfl := Option.some.inj H
        go_wp2
        go_ret
        exact ⟨by first | rfl | (simp; done) | (simp [*]; done), by repeat (first | exact Drawn0.refl _ | apply Drawn0.step)⟩
       ·rw [if_neg c20] at H
        have c20b0 : (a0 == 35) = false := beq_eq_false_iff_ne.mpr c20
        have c20b1 : (a0 != 35) = true := bne_iff_ne.mpr c20
        by_cases c21 : a0 = 36
        ·rw [if_pos c21] at H
         have c21b0 : (a0 == 36) = true := beq_iff_eq.mpr c21
         have c21b1 : (a0 != 36) = false := bne_eq_false_iff_eq.mpr c21
         clear c21
         obtain rfl := Option.some.inj H
         go_wp2
         go_ret
         exact ⟨by first | rfl | (simp; done) | (simp [*]; done), by repeat (first | exact Drawn0.refl _ | apply Drawn0.step)⟩
        ·rw [if_neg c21] at H
         have c21b0 : (a0 == 36) = false := beq_eq_false_iff_ne.mpr c21
         have c21b1 : (a0 != 36) = true := bne_iff_ne.mpr c21
         by_cases c22 : a0 = 37
         ·rw [if_pos c22] at H
          have c22b0 : (a0 == 37) = true := beq_iff_eq.mpr c22
          have c22b1 : (a0 != 37) = false := bne_eq_false_iff_eq.mpr c22
          clear c22
          obtain rfl := Option.some.inj H
          go_wp2
          go_ret
          exact ⟨by first | rfl | (simp; done) | (simp [*]; done), by repeat (first | exact Drawn0.refl _ | apply Drawn0.step)⟩
         ·rw [if_neg c22] at H
          have c22b0 : (a0 == 37) = false := beq_eq_false_iff_ne.mpr c22
          have c22b1 : (a0 != 37) = true := bne_iff_ne.mpr c22
          by_cases c23 : a0 = 38
          ·rw [if_pos c23] at H
           have c23b0 : (a0 == 38) = true := beq_iff_eq.mpr c23
           have c23b1 : (a0 != 38) = false := bne_eq_false_iff_eq.mpr c23
           clear c23
           obtain rfl := Option.some.inj H
           go_wp2
           go_ret
           exact ⟨by first | rfl | (simp; done) | (simp [*]; done), by repeat (first | exact Drawn0.refl _ | apply Drawn0.step)⟩
          ·rw [if_neg c23] at H
           have c23b0 : (a0 == 38) = false := beq_eq_false_iff_ne.mpr c23
           have c23b1 : (a0 != 38) = true := bne_iff_ne.mpr c23
           by_cases c24 : a0 = 42
           ·rw [if_pos c24] at H
            have c24b0 : (a0 == 42) = true := beq_iff_eq.mpr c24
            have c24b1 : (a0 != 42) = false := bne_eq_false_iff_eq.mpr c24
            clear c24
            obtain rfl := Option.some.inj H
            go_wp2
            go_ret
            exact ⟨by first | rfl | (simp; done) | (simp [*]; done), by repeat (first | exact Drawn0.refl _ | apply Drawn0.step)⟩
           ·rw [if_neg c24] at H
            have c24b0 : (a0 == 42) = false := beq_eq_false_iff_ne.mpr c24
            have c24b1 : (a0 != 42) = true := bne_iff_ne.mpr c24
            by_cases c25 : a0 = 43
            ·rw [if_pos c25] at H
             have c25b0 : (a0 == 43) = true := beq_iff_eq.mpr c25
             have c25b1 : (a0 != 43) = false := bne_eq_false_iff_eq.mpr c25
             clear c25
             obtain rfl := Option.some.inj H
             go_wp2
             go_ret
             exact ⟨by first | rfl | (simp; done) | (simp [*]; done), by repeat (first | exact Drawn0.refl _ | apply Drawn0.step)⟩
            ·rw [if_neg c25] at H
             have c25b0 : (a0 == 43) = false := beq_eq_false_iff_ne.mpr c25
             have c25b1 : (a0 != 43) = true := bne_iff_ne.mpr c25
             by_cases c26 : a0 = 46
             ·rw [if_pos c26] at H
              have c26b0 : (a0 == 46) = true := beq_iff_eq.mpr c26
              have c26b1 : (a0 != 46) = false := bne_eq_false_iff_eq.mpr c26
              clear c26
              obtain rfl := Option.some.inj H
              go_wp2
              go_ret
              exact ⟨by first | rfl | (simp; done) | (simp [*]; done), by repeat (first | exact Drawn0.refl _ | apply Drawn0.step)⟩
             ·rw [if_neg c26] at H
              have c26b0 : (a0 == 46) = false := beq_eq_false_iff_ne.mpr c26
              have c26b1 : (a0 != 46) = true := bne_iff_ne.mpr c26
              by_cases c27 : a0 = 47
              ·rw [if_pos c27] at H
               have c27b0 : (a0 == 47) = true := beq_iff_eq.mpr c27
               have c27b1 : (a0 != 47) = false := bne_eq_false_iff_eq.mpr c27
               clear c27
               obtain rfl := Option.some.inj H
               go_wp2
               go_ret
               exact ⟨by first | rfl | (simp; done) | (simp [*]; done), by repeat (first | exact Drawn0.refl _ | apply Drawn0.step)⟩
              ·rw [if_neg c27] at H
               have c27b0 : (a0 == 47) = false := beq_eq_false_iff_ne.mpr c27
               have c27b1 : (a0 != 47) = true := bne_iff_ne.mpr c27
               by_cases c28 : a0 = 58
               ·rw [if_pos c28] at H
                have c28b0 : (a0 == 58) = true := beq_iff_eq.mpr c28
                have c28b1 : (a0 != 58) = false := bne_eq_false_iff_eq.mpr c28
                clear c28
                obtain rfl := Option.some.inj H
                go_wp2
                go_ret
                exact ⟨by first | rfl | (simp; done) | (simp [*]; done), by repeat (first | exact Drawn0.refl _ | apply Drawn0.step)⟩
               ·rw [if_neg c28] at H
                have c28b0 : (a0 == 58) = false := beq_eq_false_iff_ne.mpr c28
                have c28b1 : (a0 != 58) = true := bne_iff_ne.mpr c28
                by_cases c29 : a0 = 60
                ·rw [if_pos c29] at H
                 have c29b0 : (a0 == 60) = true := beq_iff_eq.mpr c29
                 have c29b1 : (a0 != 60) = false := bne_eq_false_iff_eq.mpr c29
                 clear c29
                 obtain rfl := Option.some.inj H
                 go_wp2
                 go_ret
                 exact ⟨by first | rfl | (simp; done) | (simp [*]; done), by repeat (first | exact Drawn0.refl _ | apply Drawn0.step)⟩
                ·rw [if_neg c29] at H
                 have c29b0 : (a0 == 60) = false := beq_eq_false_iff_ne.mpr c29
                 have c29b1 : (a0 != 60) = true := bne_iff_ne.mpr c29
                 by_cases c30 : a0 = 61
                 ·rw [if_pos c30] at H
                  have c30b0 : (a0 == 61) = true := beq_iff_eq.mpr c30
                  have c30b1 : (a0 != 61) = false := bne_eq_false_iff_eq.mpr c30
                  clear c30
                  obtain rfl := Option.some.inj H
                  go_wp2
                  go_ret
                  exact ⟨by first | rfl | (simp; done) | (simp [*]; done), by repeat (first | exact Drawn0.refl _ | apply Drawn0.step)⟩
                 ·rw [if_neg c30] at H
                  have c30b0 : (a0 == 61) = false := beq_eq_false_iff_ne.mpr c30
                  have c30b1 : (a0 != 61) = true := bne_iff_ne.mpr c30
                  by_cases c31 : a0 = 62
                  ·rw [if_pos c31] at H
                   have c31b0 : (a0 == 62) = true := beq_iff_eq.mpr c31
                   have c31b1 : (a0 != 62) = false := bne_eq_false_iff_eq.mpr c31
                   clear c31
                   obtain rfl := Option.some.inj H
                   go_wp2
                   go_ret
                   exact ⟨by first | rfl | (simp; done) | (simp [*]; done), by repeat (first | exact Drawn0.refl _ | apply Drawn0.step)⟩
                  ·rw [if_neg c31] at H
                   have c31b0 : (a0 == 62) = false := beq_eq_false_iff_ne.mpr c31
                   have c31b1 : (a0 != 62) = true := bne_iff_ne.mpr c31
                   by_cases c32 : a0 = 63
                   ·rw [if_pos c32] at H
                    have c32b0 : (a0 == 63) = true := beq_iff_eq.mpr c32
                    have c32b1 : (a0 != 63) = false := bne_eq_false_iff_eq.mpr c32
                    clear c32
                    obtain rfl := Option.some.inj H
                    go_wp2
                    go_ret
                    exact ⟨by first | rfl | (simp; done) | (simp [*]; done), by repeat (first | exact Drawn0.refl _ | apply Drawn0.step)⟩
                   ·rw [if_neg c32] at H
                    have c32b0 : (a0 == 63) = false := beq_eq_false_iff_ne.mpr c32
                    have c32b1 : (a0 != 63) = true := bne_iff_ne.mpr c32
                    by_cases c33 : a0 = 64
                    ·rw [if_pos c33] at H
                     have c33b0 : (a0 == 64) = true := beq_iff_eq.mpr c33
                     have c33b1 : (a0 != 64) = false := bne_eq_false_iff_eq.mpr c33
                     clear c33
                     obtain rfl := Option.some.inj H
                     go_wp2
                     go_ret
                     exact ⟨by first | rfl | (simp; done) | (simp [*]; done), by repeat (first | exact Drawn0.refl _ | apply Drawn0.step)⟩
                    ·rw [if_neg c33] at H
                     have c33b0 : (a0 == 64) = false := beq_eq_false_iff_ne.mpr c33
                     have c33b1 : (a0 != 64) = true := bne_iff_ne.mpr c33
                     by_cases c34 : a0 = 94
                     ·rw [if_pos c34] at H
                      have c34b0 : (a0 == 94) = true := beq_iff_eq.mpr c34
                      have c34b1 : (a0 != 94) = false := bne_eq_false_iff_eq.mpr c34
                      clear c34
                      obtain rfl := Option.some.inj H
                      go_wp2
                      go_ret
                      exact ⟨by first | rfl | (simp; done) | (simp [*]; done), by repeat (first | exact Drawn0.refl _ | apply Drawn0.step)⟩
                     ·rw [if_neg c34] at H
                      have c34b0 : (a0 == 94) = false := beq_eq_false_iff_ne.mpr c34
                      have c34b1 : (a0 != 94) = true := bne_iff_ne.mpr c34
                      by_cases c35 : a0 = 124
                      ·rw [if_pos c35] at H
                       have c35b0 : (a0 == 124) = true := beq_iff_eq.mpr c35
                       have c35b1 : (a0 != 124) = false := bne_eq_false_iff_eq.mpr c35
                       clear c35
                       obtain rfl := Option.some.inj H
                       go_wp2
                       go_ret
                       exact ⟨by first | rfl | (simp; done) | (simp [*]; done), by repeat (first | exact Drawn0.refl _ | apply Drawn0.step)⟩
                      ·rw [if_neg c35] at H
                       have c35b0 : (a0 == 124) = false := beq_eq_false_iff_ne.mpr c35
                       have c35b1 : (a0 != 124) = true := bne_iff_ne.mpr c35
                       by_cases c36 : a0 = 126
                       ·rw [if_pos c36] at H
                        have c36b0 : (a0 == 126) = true := beq_iff_eq.mpr c36
                        have c36b1 : (a0 != 126) = false := bne_eq_false_iff_eq.mpr c36
                        clear c36
                        obtain rfl := Option.some.inj H
                        go_wp2
                        go_ret
                        exact ⟨by first | rfl | (simp; done) | (simp [*]; done), by repeat (first | exact Drawn0.refl _ | apply Drawn0.step)⟩
                       ·rw [if_neg c36] at H
                        have c36b0 : (a0 == 126) = false := beq_eq_false_iff_ne.mpr c36
                        have c36b1 : (a0 != 126) = true := bne_iff_ne.mpr c36
                        by_cases c37 : a0 = 45
                        ·rw [if_pos c37] at H
                         have c37b0 : (a0 == 45) = true := beq_iff_eq.mpr c37
                         have c37b1 : (a0 != 45) = false := bne_eq_false_iff_eq.mpr c37
                         clear c37
                         obtain rfl := Option.some.inj H
                         go_wp2
                         go_ret
                         exact ⟨by first | rfl | (simp; done) | (simp [*]; done), by repeat (first | exact Drawn0.refl _ | apply Drawn0.step)⟩
                        ·rw [if_neg c37] at H
                         have c37b0 : (a0 == 45) = false := beq_eq_false_iff_ne.mpr c37
                         have c37b1 : (a0 != 45) = true := bne_iff_ne.mpr c37
                         obtain rfl := Option.some.inj H
                         go_wp2
                         go_ret
                         exact ⟨by first | rfl | (simp; done) | (simp [*]; done), by repeat (first | exact Drawn0.refl _ | apply Drawn0.step)⟩

end Go.Proofs.Ytdjcelbicmpobaa.H
