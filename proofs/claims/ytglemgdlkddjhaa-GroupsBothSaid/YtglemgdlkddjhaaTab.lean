/-
The program's functions, as the value machine has them.
-/
import Derived.Test.YtglemgdlkddjhaaVm23
namespace Go.Proofs.Ytglemgdlkddjhaa.Vm
open Go

/-- changeling/changelinglaw11.GroupsAll -/
def v3 : VFunc := ⟨60,
  .seq (.region [
    ⟨(some 4), .mv, [.c (.bool false)], [], none⟩] [0, 1])
  (.seq (.seq (.region [
     ⟨(some 13), .mv, [.t 0], [], none⟩,
     ⟨(some 14), (.call false), [.c (.fn 8 []), .t 13], [13], none⟩,
     ⟨(some 15), .not, [.t 14], [], none⟩] [0, 1, 15])
   (.cond (.t 15)
    (.seq (.region [
      ⟨(some 16), (.call false), [.c (.fn 9 [])], [], none⟩,
      ⟨(some 4), .mv, [.t 16], [], none⟩] [4])
    (.ret))
    (.skip)))
  (.seq (.region [
    ⟨(some 18), .mv, [.t 0], [], none⟩,
    ⟨(some 19), (.call false), [.c (.fn 10 []), .t 18], [18], none⟩,
    ⟨(some 17), .mv, [.t 19], [19], none⟩,
    ⟨(some 20), (.extract 0), [.t 17], [], none⟩,
    ⟨(some 21), (.extract 1), [.t 17], [17], none⟩,
    ⟨(some 5), .mv, [.t 20], [20], none⟩,
    ⟨(some 6), .mv, [.t 21], [], none⟩] [0, 1, 5, 6])
  (.seq (.region [
    ⟨(some 23), .mv, [.t 0], [], none⟩,
    ⟨(some 24), (.call false), [.c (.fn 11 []), .t 23], [23], none⟩,
    ⟨(some 22), .mv, [.t 24], [24], none⟩,
    ⟨(some 25), (.extract 0), [.t 22], [], none⟩,
    ⟨(some 26), (.extract 1), [.t 22], [22], none⟩,
    ⟨(some 7), .mv, [.t 25], [25], none⟩,
    ⟨(some 8), .mv, [.t 26], [], none⟩] [0, 1, 5, 6, 7, 8])
  (.seq (.region [
    ⟨(some 28), .mv, [.t 0], [], none⟩,
    ⟨(some 29), .mv, [.t 1], [], none⟩,
    ⟨(some 30), (.call false), [.c (.fn 12 []), .t 28, .t 29], [28], none⟩,
    ⟨(some 27), .mv, [.t 30], [30], none⟩,
    ⟨(some 31), (.extract 0), [.t 27], [], none⟩,
    ⟨(some 32), (.extract 1), [.t 27], [27], none⟩,
    ⟨(some 9), .mv, [.t 31], [31], none⟩,
    ⟨(some 10), .mv, [.t 32], [], none⟩] [0, 1, 5, 6, 7, 8, 9, 10])
  (.seq (.region [
    ⟨(some 34), .mv, [.t 0], [0], none⟩,
    ⟨(some 35), .mv, [.t 1], [], none⟩,
    ⟨(some 36), (.call false), [.c (.fn 13 []), .t 34, .t 35], [34], none⟩,
    ⟨(some 33), .mv, [.t 36], [36], none⟩,
    ⟨(some 37), (.extract 0), [.t 33], [], none⟩,
    ⟨(some 38), (.extract 1), [.t 33], [33], none⟩,
    ⟨(some 11), .mv, [.t 37], [37], none⟩,
    ⟨(some 12), .mv, [.t 38], [], none⟩] [5, 6, 7, 8, 9, 10, 11, 12])
  (.seq (.region [
    ⟨(some 39), .mv, [.t 5], [5], none⟩,
    ⟨(some 40), .mv, [.t 7], [7], none⟩,
    ⟨(some 41), (.call false), [.c (.fn 14 []), .t 39, .t 40], [39, 40], none⟩,
    ⟨(some 42), .mv, [.t 41], [], none⟩,
    ⟨(some 43), .mv, [.t 6], [], some (42, true)⟩,
    ⟨(some 44), .mv, [.t 8], [], some (42, true)⟩,
    ⟨(some 45), (.bin .eql), [.t 43, .t 44], [], some (42, true)⟩,
    ⟨(some 46), .pick, [.t 42, .t 45, .c (.bool false)], [], none⟩,
    ⟨(some 47), .mv, [.t 46], [], none⟩,
    ⟨(some 48), .mv, [.t 9], [9], some (47, true)⟩,
    ⟨(some 49), .mv, [.t 11], [11], some (47, true)⟩,
    ⟨(some 50), (.call false), [.c (.fn 15 []), .t 48, .t 49], [48, 49], some (47, true)⟩,
    ⟨(some 51), .pick, [.t 47, .t 50, .c (.bool false)], [], none⟩,
    ⟨(some 52), .mv, [.t 51], [], none⟩,
    ⟨(some 53), .mv, [.t 10], [], some (52, true)⟩,
    ⟨(some 54), .mv, [.t 12], [], some (52, true)⟩,
    ⟨(some 55), (.bin .eql), [.t 53, .t 54], [], some (52, true)⟩,
    ⟨(some 56), .pick, [.t 52, .t 55, .c (.bool false)], [], none⟩,
    ⟨(some 57), .mv, [.t 56], [], none⟩,
    ⟨(some 58), (.call false), [.c (.fn 9 [])], [], some (57, true)⟩,
    ⟨(some 59), .pick, [.t 57, .t 58, .c (.bool false)], [], none⟩,
    ⟨(some 4), .mv, [.t 59], [], none⟩] [4])
  (.ret))))))),
  [.tmp 4]⟩
/-- changeling/changelinglaw11.GroupsOnce -/
def v4 : VFunc := ⟨96,
  .seq (.region [
    ⟨(some 2), .mv, [.c (.bool false)], [], none⟩] [0])
  (.seq (.region [
    ⟨(some 11), .mv, [.t 0], [], none⟩,
    ⟨(some 12), (.call false), [.c (.fn 10 []), .t 11], [11], none⟩,
    ⟨(some 10), .mv, [.t 12], [12], none⟩,
    ⟨(some 13), (.extract 0), [.t 10], [], none⟩,
    ⟨(some 14), (.extract 1), [.t 10], [10], none⟩,
    ⟨(some 3), .mv, [.t 13], [13], none⟩,
    ⟨(some 4), .mv, [.t 14], [], none⟩] [0, 3, 4])
  (.seq (.seq (.region [
     ⟨(some 15), .mv, [.t 4], [], none⟩,
     ⟨(some 16), (.bin .neq), [.t 15, .c (.int .i64 0)], [], none⟩] [0, 3, 4, 16])
   (.cond (.t 16)
    (.seq (.region [
      ⟨(some 17), .mv, [.t 3], [3], none⟩,
      ⟨(some 18), .len, [.t 17], [], none⟩,
      ⟨(some 19), (.bin .eql), [.t 18, .c (.int .i64 0)], [], none⟩,
      ⟨(some 20), .mv, [.t 19], [], none⟩,
      ⟨(some 21), .mv, [.t 4], [], some (20, true)⟩,
      ⟨(some 22), .mv, [.t 0], [0], some (20, true)⟩,
      ⟨(some 23), (.call false), [.c (.fn 16 []), .t 22], [22], some (20, true)⟩,
      ⟨(some 24), (.bin .eql), [.t 21, .t 23], [], some (20, true)⟩,
      ⟨(some 25), .pick, [.t 20, .t 24, .c (.bool false)], [], none⟩,
      ⟨(some 26), .mv, [.t 25], [], none⟩,
      ⟨(some 27), (.call false), [.c (.fn 9 [])], [], some (26, true)⟩,
      ⟨(some 28), .pick, [.t 26, .t 27, .c (.bool false)], [], none⟩,
      ⟨(some 2), .mv, [.t 28], [], none⟩] [2])
    (.ret))
    (.skip)))
  (.seq (.region [
    ⟨(some 29), .mv, [.t 0], [], none⟩,
    ⟨(some 30), .len, [.t 29], [], none⟩,
    ⟨(some 31), (.makeH 1 1 [.bool false]), [.t 30, .t 30], [], none⟩,
    ⟨(some 5), .thaw, [.t 31], [31], none⟩] [0, 3, 5])
  (.seq (.region [
    ⟨(some 6), .mv, [.c (.int .i64 0)], [], none⟩] [0, 3, 5, 6])
  (.seq (.seq (.region [
     ⟨(some 7), .mv, [.c (.int .i64 0)], [], none⟩] [0, 3, 5, 6, 7])
   (.block 0 (.loop (.seq (.seq (.region [
        ⟨(some 32), .mv, [.t 7], [], none⟩,
        ⟨(some 33), .mv, [.t 3], [], none⟩,
        ⟨(some 34), .len, [.t 33], [], none⟩,
        ⟨(some 35), (.bin .lss), [.t 32, .t 34], [], none⟩] [0, 3, 5, 6, 7, 35])
      (.cond (.t 35)
       (.skip)
       (.exit 0)))
     (.seq (.block 1 (.seq (.region [
         ⟨(some 8), .mv, [.c (.int .i64 0)], [], none⟩] [0, 3, 5, 6, 7, 8])
       (.block 2 (.loop (.seq (.seq (.region [
            ⟨(some 38), .mv, [.t 8], [], none⟩,
            ⟨(some 39), .mv, [.t 3], [], none⟩,
            ⟨(some 40), .mv, [.t 7], [], none⟩,
            ⟨(some 41), (.indexAddr 1), [.t 39, .t 40], [], none⟩,
            ⟨(some 42), (.load 1 false), [.t 41], [], none⟩,
            ⟨(some 43), .len, [.t 42], [], none⟩,
            ⟨(some 44), (.bin .lss), [.t 38, .t 43], [], none⟩] [0, 3, 5, 6, 7, 8, 44])
          (.cond (.t 44)
           (.skip)
           (.exit 2)))
         (.seq (.block 3 (.seq (.region [
             ⟨(some 47), .mv, [.t 3], [], none⟩,
             ⟨(some 48), .mv, [.t 7], [], none⟩,
             ⟨(some 49), (.indexAddr 1), [.t 47, .t 48], [], none⟩,
             ⟨(some 50), (.load 1 false), [.t 49], [], none⟩,
             ⟨(some 51), .mv, [.t 8], [], none⟩,
             ⟨(some 52), (.indexAddr 1), [.t 50, .t 51], [], none⟩,
             ⟨(some 53), (.load 1 false), [.t 52], [], none⟩,
             ⟨(some 9), .mv, [.t 53], [], none⟩] [0, 3, 5, 6, 7, 8, 9])
           (.seq (.seq (.region [
              ⟨(some 54), .mv, [.t 9], [], none⟩,
              ⟨(some 55), (.bin .lss), [.t 54, .c (.int .i64 0)], [], none⟩,
              ⟨(some 56), .mv, [.t 55], [], none⟩,
              ⟨(some 57), .mv, [.t 9], [], some (56, false)⟩,
              ⟨(some 58), .mv, [.t 0], [], some (56, false)⟩,
              ⟨(some 59), .len, [.t 58], [], some (56, false)⟩,
              ⟨(some 60), (.bin .geq), [.t 57, .t 59], [], some (56, false)⟩,
              ⟨(some 61), .pick, [.t 56, .c (.bool true), .t 60], [], none⟩,
              ⟨(some 62), .mv, [.t 61], [], none⟩,
              ⟨(some 63), .mv, [.t 5], [], some (62, false)⟩,
              ⟨(some 64), .mv, [.t 9], [], some (62, false)⟩,
              ⟨(some 65), (.indexAddr 1), [.t 63, .t 64], [], some (62, false)⟩,
              ⟨(some 66), (.load 1 false), [.t 65], [], some (62, false)⟩,
              ⟨(some 67), .pick, [.t 62, .c (.bool true), .t 66], [], none⟩,
              ⟨(some 68), .mv, [.t 67], [], none⟩,
              ⟨(some 69), .mv, [.t 8], [], some (68, false)⟩,
              ⟨(some 70), (.bin .gtr), [.t 69, .c (.int .i64 0)], [], some (68, false)⟩,
              ⟨(some 71), .mv, [.t 70], [], some (68, false)⟩,
              ⟨(some 72), .mv, [.t 9], [], some (71, true)⟩,
              ⟨(some 73), .mv, [.t 3], [], some (71, true)⟩,
              ⟨(some 74), .mv, [.t 7], [], some (71, true)⟩,
              ⟨(some 75), (.indexAddr 1), [.t 73, .t 74], [], some (71, true)⟩,
              ⟨(some 76), (.load 1 false), [.t 75], [], some (71, true)⟩,
              ⟨(some 77), .mv, [.t 8], [], some (71, true)⟩,
              ⟨(some 78), (.bin .sub), [.t 77, .c (.int .i64 1)], [], some (71, true)⟩,
              ⟨(some 79), (.indexAddr 1), [.t 76, .t 78], [], some (71, true)⟩,
              ⟨(some 80), (.load 1 false), [.t 79], [], some (71, true)⟩,
              ⟨(some 81), (.bin .leq), [.t 72, .t 80], [], some (71, true)⟩,
              ⟨(some 82), .pick, [.t 71, .t 81, .c (.bool false)], [], some (68, false)⟩,
              ⟨(some 83), .pick, [.t 68, .c (.bool true), .t 82], [], none⟩] [0, 3, 5, 6, 7, 8, 9, 83])
            (.cond (.t 83)
             (.seq (.region [
               ⟨(some 2), .mv, [.c (.bool false)], [], none⟩] [2])
             (.ret))
             (.skip)))
           (.seq (.region [
             ⟨(some 84), .mv, [.t 5], [], none⟩,
             ⟨(some 85), .mv, [.t 9], [], none⟩,
             ⟨(some 86), (.indexAddr 1), [.t 84, .t 85], [], none⟩,
             ⟨none, (.store 1), [.t 86, .c (.bool true)], [], none⟩] [0, 3, 5, 6, 7, 8])
           (.region [
            ⟨(some 87), .mv, [.t 6], [], none⟩,
            ⟨(some 88), (.bin .add), [.t 87, .c (.int .i64 1)], [], none⟩,
            ⟨(some 6), .mv, [.t 88], [], none⟩] [0, 3, 5, 6, 7, 8])))))
         (.region [
          ⟨(some 45), .mv, [.t 8], [], none⟩,
          ⟨(some 46), (.bin .add), [.t 45, .c (.int .i64 1)], [], none⟩,
          ⟨(some 8), .mv, [.t 46], [], none⟩] [0, 3, 5, 6, 7, 8])))))))
     (.region [
      ⟨(some 36), .mv, [.t 7], [], none⟩,
      ⟨(some 37), (.bin .add), [.t 36, .c (.int .i64 1)], [], none⟩,
      ⟨(some 7), .mv, [.t 37], [], none⟩] [0, 3, 5, 6, 7]))))))
  (.seq (.region [
    ⟨(some 89), .mv, [.t 6], [], none⟩,
    ⟨(some 90), .mv, [.t 0], [0], none⟩,
    ⟨(some 91), .len, [.t 90], [], none⟩,
    ⟨(some 92), (.bin .eql), [.t 89, .t 91], [], none⟩,
    ⟨(some 93), .mv, [.t 92], [], none⟩,
    ⟨(some 94), (.call false), [.c (.fn 9 [])], [], some (93, true)⟩,
    ⟨(some 95), .pick, [.t 93, .t 94, .c (.bool false)], [], none⟩,
    ⟨(some 2), .mv, [.t 95], [], none⟩] [2])
  (.ret))))))),
  [.tmp 2]⟩
/-- changeling/changelinglaw11.GroupsBehind -/
def v5 : VFunc := ⟨105,
  .seq (.region [
    ⟨(some 2), .mv, [.c (.bool false)], [], none⟩] [0])
  (.seq (.region [
    ⟨(some 12), .mv, [.t 0], [], none⟩,
    ⟨(some 13), (.call false), [.c (.fn 10 []), .t 12], [12], none⟩,
    ⟨(some 11), .mv, [.t 13], [13], none⟩,
    ⟨(some 14), (.extract 0), [.t 11], [], none⟩,
    ⟨(some 15), (.extract 1), [.t 11], [11], none⟩,
    ⟨(some 3), .mv, [.t 14], [14], none⟩,
    ⟨(some 4), .mv, [.t 15], [], none⟩] [0, 3, 4])
  (.seq (.seq (.region [
     ⟨(some 16), .mv, [.t 4], [], none⟩,
     ⟨(some 17), (.bin .neq), [.t 16, .c (.int .i64 0)], [], none⟩] [0, 3, 17])
   (.cond (.t 17)
    (.seq (.region [
      ⟨(some 18), .mv, [.t 3], [3], none⟩,
      ⟨(some 19), .len, [.t 18], [], none⟩,
      ⟨(some 20), (.bin .eql), [.t 19, .c (.int .i64 0)], [], none⟩,
      ⟨(some 21), .mv, [.t 20], [], none⟩,
      ⟨(some 22), (.call false), [.c (.fn 9 [])], [], some (21, true)⟩,
      ⟨(some 23), .pick, [.t 21, .t 22, .c (.bool false)], [], none⟩,
      ⟨(some 2), .mv, [.t 23], [], none⟩] [2])
    (.ret))
    (.skip)))
  (.seq (.region [
    ⟨(some 24), .mv, [.t 0], [], none⟩,
    ⟨(some 25), .len, [.t 24], [], none⟩,
    ⟨(some 26), (.makeH 1 1 [.bool false]), [.t 25, .t 25], [], none⟩,
    ⟨(some 5), .thaw, [.t 26], [26], none⟩] [0, 3, 5])
  (.seq (.seq (.region [
     ⟨(some 6), .mv, [.c (.int .i64 0)], [], none⟩] [0, 3, 5, 6])
   (.block 0 (.loop (.seq (.seq (.region [
        ⟨(some 27), .mv, [.t 6], [], none⟩,
        ⟨(some 28), .mv, [.t 3], [], none⟩,
        ⟨(some 29), .len, [.t 28], [], none⟩,
        ⟨(some 30), (.bin .lss), [.t 27, .t 29], [], none⟩] [0, 3, 5, 6, 30])
      (.cond (.t 30)
       (.skip)
       (.exit 0)))
     (.seq (.block 1 (.seq (.seq (.region [
          ⟨(some 7), .mv, [.c (.int .i64 0)], [], none⟩] [0, 3, 5, 6, 7])
        (.block 2 (.loop (.seq (.seq (.region [
             ⟨(some 33), .mv, [.t 7], [], none⟩,
             ⟨(some 34), .mv, [.t 3], [], none⟩,
             ⟨(some 35), .mv, [.t 6], [], none⟩,
             ⟨(some 36), (.indexAddr 1), [.t 34, .t 35], [], none⟩,
             ⟨(some 37), (.load 1 false), [.t 36], [], none⟩,
             ⟨(some 38), .len, [.t 37], [], none⟩,
             ⟨(some 39), (.bin .lss), [.t 33, .t 38], [], none⟩] [0, 3, 5, 6, 7, 39])
           (.cond (.t 39)
            (.skip)
            (.exit 2)))
          (.seq (.block 3 (.seq (.seq (.region [
               ⟨(some 42), .mv, [.t 3], [], none⟩,
               ⟨(some 43), .mv, [.t 6], [], none⟩,
               ⟨(some 44), (.indexAddr 1), [.t 42, .t 43], [], none⟩,
               ⟨(some 45), (.load 1 false), [.t 44], [], none⟩,
               ⟨(some 46), .mv, [.t 7], [], none⟩,
               ⟨(some 47), (.indexAddr 1), [.t 45, .t 46], [], none⟩,
               ⟨(some 48), (.load 1 false), [.t 47], [], none⟩,
               ⟨(some 49), (.bin .lss), [.t 48, .c (.int .i64 0)], [], none⟩,
               ⟨(some 50), .mv, [.t 49], [], none⟩,
               ⟨(some 51), .mv, [.t 3], [], some (50, false)⟩,
               ⟨(some 52), .mv, [.t 6], [], some (50, false)⟩,
               ⟨(some 53), (.indexAddr 1), [.t 51, .t 52], [], some (50, false)⟩,
               ⟨(some 54), (.load 1 false), [.t 53], [], some (50, false)⟩,
               ⟨(some 55), .mv, [.t 7], [], some (50, false)⟩,
               ⟨(some 56), (.indexAddr 1), [.t 54, .t 55], [], some (50, false)⟩,
               ⟨(some 57), (.load 1 false), [.t 56], [], some (50, false)⟩,
               ⟨(some 58), .mv, [.t 0], [], some (50, false)⟩,
               ⟨(some 59), .len, [.t 58], [], some (50, false)⟩,
               ⟨(some 60), (.bin .geq), [.t 57, .t 59], [], some (50, false)⟩,
               ⟨(some 61), .pick, [.t 50, .c (.bool true), .t 60], [], none⟩] [0, 3, 5, 6, 7, 61])
             (.cond (.t 61)
              (.seq (.region [
                ⟨(some 2), .mv, [.c (.bool false)], [], none⟩] [2])
              (.ret))
              (.skip)))
            (.region [
             ⟨(some 62), .mv, [.t 5], [], none⟩,
             ⟨(some 63), .mv, [.t 3], [], none⟩,
             ⟨(some 64), .mv, [.t 6], [], none⟩,
             ⟨(some 65), (.indexAddr 1), [.t 63, .t 64], [], none⟩,
             ⟨(some 66), (.load 1 false), [.t 65], [], none⟩,
             ⟨(some 67), .mv, [.t 7], [], none⟩,
             ⟨(some 68), (.indexAddr 1), [.t 66, .t 67], [], none⟩,
             ⟨(some 69), (.load 1 false), [.t 68], [], none⟩,
             ⟨(some 70), (.indexAddr 1), [.t 62, .t 69], [], none⟩,
             ⟨none, (.store 1), [.t 70, .c (.bool true)], [], none⟩] [0, 3, 5, 6, 7])))
          (.region [
           ⟨(some 40), .mv, [.t 7], [], none⟩,
           ⟨(some 41), (.bin .add), [.t 40, .c (.int .i64 1)], [], none⟩,
           ⟨(some 7), .mv, [.t 41], [], none⟩] [0, 3, 5, 6, 7]))))))
       (.seq (.region [
         ⟨(some 8), .mv, [.c (.int .i64 0)], [], none⟩] [0, 3, 5, 6, 8])
       (.block 4 (.loop (.seq (.seq (.region [
            ⟨(some 71), .mv, [.t 8], [], none⟩,
            ⟨(some 72), .mv, [.t 3], [], none⟩,
            ⟨(some 73), .mv, [.t 6], [], none⟩,
            ⟨(some 74), (.indexAddr 1), [.t 72, .t 73], [], none⟩,
            ⟨(some 75), (.load 1 false), [.t 74], [], none⟩,
            ⟨(some 76), .len, [.t 75], [], none⟩,
            ⟨(some 77), (.bin .lss), [.t 71, .t 76], [], none⟩] [0, 3, 5, 6, 8, 77])
          (.cond (.t 77)
           (.skip)
           (.exit 4)))
         (.seq (.block 5 (.seq (.region [
             ⟨(some 80), .mv, [.t 0], [], none⟩,
             ⟨(some 81), .mv, [.t 3], [], none⟩,
             ⟨(some 82), .mv, [.t 6], [], none⟩,
             ⟨(some 83), (.indexAddr 1), [.t 81, .t 82], [], none⟩,
             ⟨(some 84), (.load 1 false), [.t 83], [], none⟩,
             ⟨(some 85), .mv, [.t 8], [], none⟩,
             ⟨(some 86), (.indexAddr 1), [.t 84, .t 85], [], none⟩,
             ⟨(some 87), (.load 1 false), [.t 86], [], none⟩,
             ⟨(some 88), (.indexAddr 1), [.t 80, .t 87], [], none⟩,
             ⟨(some 89), (.load 1 false), [.t 88], [], none⟩,
             ⟨(some 9), .mv, [.t 89], [89], none⟩] [0, 3, 5, 6, 8, 9])
           (.seq (.region [
             ⟨(some 10), .mv, [.c (.int .i64 0)], [], none⟩] [0, 3, 5, 6, 8, 9, 10])
           (.block 6 (.loop (.seq (.seq (.region [
                ⟨(some 90), .mv, [.t 10], [], none⟩,
                ⟨(some 91), .mv, [.t 9], [], none⟩,
                ⟨(some 92), .len, [.t 91], [], none⟩,
                ⟨(some 93), (.bin .lss), [.t 90, .t 92], [], none⟩] [0, 3, 5, 6, 8, 9, 10, 93])
              (.cond (.t 93)
               (.skip)
               (.exit 6)))
             (.seq (.block 7 (.seq (.region [
                 ⟨(some 96), .mv, [.t 5], [], none⟩,
                 ⟨(some 97), .mv, [.t 9], [], none⟩,
                 ⟨(some 98), .mv, [.t 10], [], none⟩,
                 ⟨(some 99), (.indexAddr 1), [.t 97, .t 98], [], none⟩,
                 ⟨(some 100), (.load 1 false), [.t 99], [], none⟩,
                 ⟨(some 101), (.indexAddr 1), [.t 96, .t 100], [], none⟩,
                 ⟨(some 102), (.load 1 false), [.t 101], [], none⟩,
                 ⟨(some 103), .not, [.t 102], [], none⟩] [0, 3, 5, 6, 8, 9, 10, 103])
               (.cond (.t 103)
                (.seq (.region [
                  ⟨(some 2), .mv, [.c (.bool false)], [], none⟩] [2])
                (.ret))
                (.skip))))
             (.region [
              ⟨(some 94), .mv, [.t 10], [], none⟩,
              ⟨(some 95), (.bin .add), [.t 94, .c (.int .i64 1)], [], none⟩,
              ⟨(some 10), .mv, [.t 95], [], none⟩] [0, 3, 5, 6, 8, 9, 10]))))))))
         (.region [
          ⟨(some 78), .mv, [.t 8], [], none⟩,
          ⟨(some 79), (.bin .add), [.t 78, .c (.int .i64 1)], [], none⟩,
          ⟨(some 8), .mv, [.t 79], [], none⟩] [0, 3, 5, 6, 8]))))))))
     (.region [
      ⟨(some 31), .mv, [.t 6], [], none⟩,
      ⟨(some 32), (.bin .add), [.t 31, .c (.int .i64 1)], [], none⟩,
      ⟨(some 6), .mv, [.t 32], [], none⟩] [0, 3, 5, 6]))))))
  (.seq (.region [
    ⟨(some 104), (.call false), [.c (.fn 9 [])], [], none⟩,
    ⟨(some 2), .mv, [.t 104], [], none⟩] [2])
  (.ret)))))),
  [.tmp 2]⟩
/-- changeling/changelinglaw11.GroupsBoth -/
def v6 : VFunc := ⟨160,
  .seq (.region [
    ⟨(some 6), .mv, [.c (.bool false)], [], none⟩] [0, 1, 2])
  (.seq (.region [
    ⟨(some 23), .mv, [.t 0], [], none⟩,
    ⟨(some 24), (.call false), [.c (.fn 10 []), .t 23], [23], none⟩,
    ⟨(some 22), .mv, [.t 24], [24], none⟩,
    ⟨(some 25), (.extract 0), [.t 22], [], none⟩,
    ⟨(some 26), (.extract 1), [.t 22], [22], none⟩,
    ⟨(some 7), .mv, [.t 25], [25], none⟩,
    ⟨(some 8), .mv, [.t 26], [], none⟩] [0, 1, 2, 7, 8])
  (.seq (.seq (.region [
     ⟨(some 27), .mv, [.t 8], [], none⟩,
     ⟨(some 28), (.bin .neq), [.t 27, .c (.int .i64 0)], [], none⟩,
     ⟨(some 29), .mv, [.t 28], [], none⟩,
     ⟨(some 30), .mv, [.t 1], [], some (29, false)⟩,
     ⟨(some 31), (.bin .lss), [.t 30, .c (.int .i64 0)], [], some (29, false)⟩,
     ⟨(some 32), .pick, [.t 29, .c (.bool true), .t 31], [], none⟩,
     ⟨(some 33), .mv, [.t 32], [], none⟩,
     ⟨(some 34), .mv, [.t 2], [], some (33, false)⟩,
     ⟨(some 35), (.bin .lss), [.t 34, .c (.int .i64 0)], [], some (33, false)⟩,
     ⟨(some 36), .pick, [.t 33, .c (.bool true), .t 35], [], none⟩,
     ⟨(some 37), .mv, [.t 36], [], none⟩,
     ⟨(some 38), .mv, [.t 1], [], some (37, false)⟩,
     ⟨(some 39), .mv, [.t 0], [], some (37, false)⟩,
     ⟨(some 40), .len, [.t 39], [], some (37, false)⟩,
     ⟨(some 41), (.bin .geq), [.t 38, .t 40], [], some (37, false)⟩,
     ⟨(some 42), .pick, [.t 37, .c (.bool true), .t 41], [], none⟩,
     ⟨(some 43), .mv, [.t 42], [], none⟩,
     ⟨(some 44), .mv, [.t 2], [], some (43, false)⟩,
     ⟨(some 45), .mv, [.t 0], [], some (43, false)⟩,
     ⟨(some 46), .len, [.t 45], [], some (43, false)⟩,
     ⟨(some 47), (.bin .geq), [.t 44, .t 46], [], some (43, false)⟩,
     ⟨(some 48), .pick, [.t 43, .c (.bool true), .t 47], [], none⟩] [0, 1, 2, 7, 48])
   (.cond (.t 48)
    (.seq (.region [
      ⟨(some 49), (.call false), [.c (.fn 9 [])], [], none⟩,
      ⟨(some 6), .mv, [.t 49], [], none⟩] [6])
    (.ret))
    (.skip)))
  (.seq (.region [
    ⟨(some 51), .mv, [.t 0], [], none⟩,
    ⟨(some 52), .mv, [.t 1], [], none⟩,
    ⟨(some 53), (.call false), [.c (.fn 12 []), .t 51, .t 52], [51], none⟩,
    ⟨(some 50), .mv, [.t 53], [53], none⟩,
    ⟨(some 54), (.extract 0), [.t 50], [], none⟩,
    ⟨(some 55), (.extract 1), [.t 50], [50], none⟩,
    ⟨(some 9), .mv, [.t 54], [54], none⟩,
    ⟨(some 10), .mv, [.t 55], [], none⟩] [0, 1, 2, 7, 9, 10])
  (.seq (.region [
    ⟨(some 57), .mv, [.t 0], [0], none⟩,
    ⟨(some 58), .mv, [.t 2], [], none⟩,
    ⟨(some 59), (.call false), [.c (.fn 12 []), .t 57, .t 58], [57], none⟩,
    ⟨(some 56), .mv, [.t 59], [59], none⟩,
    ⟨(some 60), (.extract 0), [.t 56], [], none⟩,
    ⟨(some 61), (.extract 1), [.t 56], [56], none⟩,
    ⟨(some 11), .mv, [.t 60], [60], none⟩,
    ⟨(some 12), .mv, [.t 61], [], none⟩] [1, 2, 7, 9, 10, 11, 12])
  (.seq (.region [
    ⟨(some 13), .mv, [.c (.bool false)], [], none⟩,
    ⟨(some 14), .mv, [.c (.bool false)], [], none⟩] [1, 2, 7, 9, 10, 11, 12, 13, 14])
  (.seq (.seq (.region [
     ⟨(some 15), .mv, [.c (.int .i64 0)], [], none⟩] [1, 2, 7, 9, 10, 11, 12, 13, 14, 15])
   (.block 0 (.loop (.seq (.seq (.region [
        ⟨(some 62), .mv, [.t 15], [], none⟩,
        ⟨(some 63), .mv, [.t 9], [], none⟩,
        ⟨(some 64), .len, [.t 63], [], none⟩,
        ⟨(some 65), (.bin .lss), [.t 62, .t 64], [], none⟩] [1, 2, 7, 9, 10, 11, 12, 13, 14, 15, 65])
      (.cond (.t 65)
       (.skip)
       (.exit 0)))
     (.seq (.block 1 (.region [
        ⟨(some 68), .mv, [.t 13], [], none⟩,
        ⟨(some 69), .mv, [.t 68], [], none⟩,
        ⟨(some 70), .mv, [.t 9], [], some (69, false)⟩,
        ⟨(some 71), .mv, [.t 15], [], some (69, false)⟩,
        ⟨(some 72), (.indexAddr 1), [.t 70, .t 71], [], some (69, false)⟩,
        ⟨(some 73), (.load 1 false), [.t 72], [], some (69, false)⟩,
        ⟨(some 74), .mv, [.t 2], [], some (69, false)⟩,
        ⟨(some 75), (.bin .eql), [.t 73, .t 74], [], some (69, false)⟩,
        ⟨(some 76), .pick, [.t 69, .c (.bool true), .t 75], [], none⟩,
        ⟨(some 13), .mv, [.t 76], [], none⟩] [1, 2, 7, 9, 10, 11, 12, 13, 14, 15]))
     (.region [
      ⟨(some 66), .mv, [.t 15], [], none⟩,
      ⟨(some 67), (.bin .add), [.t 66, .c (.int .i64 1)], [], none⟩,
      ⟨(some 15), .mv, [.t 67], [], none⟩] [1, 2, 7, 9, 10, 11, 12, 13, 14, 15]))))))
  (.seq (.seq (.region [
     ⟨(some 16), .mv, [.c (.int .i64 0)], [], none⟩] [1, 2, 7, 10, 11, 12, 13, 14, 16])
   (.block 2 (.loop (.seq (.seq (.region [
        ⟨(some 77), .mv, [.t 16], [], none⟩,
        ⟨(some 78), .mv, [.t 11], [], none⟩,
        ⟨(some 79), .len, [.t 78], [], none⟩,
        ⟨(some 80), (.bin .lss), [.t 77, .t 79], [], none⟩] [1, 2, 7, 10, 11, 12, 13, 14, 16, 80])
      (.cond (.t 80)
       (.skip)
       (.exit 2)))
     (.seq (.block 3 (.region [
        ⟨(some 83), .mv, [.t 14], [], none⟩,
        ⟨(some 84), .mv, [.t 83], [], none⟩,
        ⟨(some 85), .mv, [.t 11], [], some (84, false)⟩,
        ⟨(some 86), .mv, [.t 16], [], some (84, false)⟩,
        ⟨(some 87), (.indexAddr 1), [.t 85, .t 86], [], some (84, false)⟩,
        ⟨(some 88), (.load 1 false), [.t 87], [], some (84, false)⟩,
        ⟨(some 89), .mv, [.t 1], [], some (84, false)⟩,
        ⟨(some 90), (.bin .eql), [.t 88, .t 89], [], some (84, false)⟩,
        ⟨(some 91), .pick, [.t 84, .c (.bool true), .t 90], [], none⟩,
        ⟨(some 14), .mv, [.t 91], [], none⟩] [1, 2, 7, 10, 11, 12, 13, 14, 16]))
     (.region [
      ⟨(some 81), .mv, [.t 16], [], none⟩,
      ⟨(some 82), (.bin .add), [.t 81, .c (.int .i64 1)], [], none⟩,
      ⟨(some 16), .mv, [.t 82], [], none⟩] [1, 2, 7, 10, 11, 12, 13, 14, 16]))))))
  (.seq (.region [
    ⟨(some 17), .mv, [.c (.bool false)], [], none⟩] [1, 2, 7, 10, 12, 13, 14, 17])
  (.seq (.seq (.region [
     ⟨(some 18), .mv, [.c (.int .i64 0)], [], none⟩] [1, 2, 7, 10, 12, 13, 14, 17, 18])
   (.block 4 (.loop (.seq (.seq (.region [
        ⟨(some 92), .mv, [.t 18], [], none⟩,
        ⟨(some 93), .mv, [.t 7], [], none⟩,
        ⟨(some 94), .len, [.t 93], [], none⟩,
        ⟨(some 95), (.bin .lss), [.t 92, .t 94], [], none⟩] [1, 2, 7, 10, 12, 13, 14, 17, 18, 95])
      (.cond (.t 95)
       (.skip)
       (.exit 4)))
     (.seq (.block 5 (.seq (.region [
         ⟨(some 19), .mv, [.c (.bool false)], [], none⟩,
         ⟨(some 20), .mv, [.c (.bool false)], [], none⟩] [1, 2, 7, 10, 12, 13, 14, 17, 18, 19, 20])
       (.seq (.seq (.region [
          ⟨(some 21), .mv, [.c (.int .i64 0)], [], none⟩] [1, 2, 7, 10, 12, 13, 14, 17, 18, 19, 20, 21])
        (.block 6 (.loop (.seq (.seq (.region [
             ⟨(some 98), .mv, [.t 21], [], none⟩,
             ⟨(some 99), .mv, [.t 7], [], none⟩,
             ⟨(some 100), .mv, [.t 18], [], none⟩,
             ⟨(some 101), (.indexAddr 1), [.t 99, .t 100], [], none⟩,
             ⟨(some 102), (.load 1 false), [.t 101], [], none⟩,
             ⟨(some 103), .len, [.t 102], [], none⟩,
             ⟨(some 104), (.bin .lss), [.t 98, .t 103], [], none⟩] [1, 2, 7, 10, 12, 13, 14, 17, 18, 19, 20, 21, 104])
           (.cond (.t 104)
            (.skip)
            (.exit 6)))
          (.seq (.block 7 (.seq (.region [
              ⟨(some 107), .mv, [.t 19], [], none⟩,
              ⟨(some 108), .mv, [.t 107], [], none⟩,
              ⟨(some 109), .mv, [.t 7], [], some (108, false)⟩,
              ⟨(some 110), .mv, [.t 18], [], some (108, false)⟩,
              ⟨(some 111), (.indexAddr 1), [.t 109, .t 110], [], some (108, false)⟩,
              ⟨(some 112), (.load 1 false), [.t 111], [], some (108, false)⟩,
              ⟨(some 113), .mv, [.t 21], [], some (108, false)⟩,
              ⟨(some 114), (.indexAddr 1), [.t 112, .t 113], [], some (108, false)⟩,
              ⟨(some 115), (.load 1 false), [.t 114], [], some (108, false)⟩,
              ⟨(some 116), .mv, [.t 1], [], some (108, false)⟩,
              ⟨(some 117), (.bin .eql), [.t 115, .t 116], [], some (108, false)⟩,
              ⟨(some 118), .pick, [.t 108, .c (.bool true), .t 117], [], none⟩,
              ⟨(some 19), .mv, [.t 118], [], none⟩] [1, 2, 7, 10, 12, 13, 14, 17, 18, 19, 20, 21])
            (.region [
             ⟨(some 119), .mv, [.t 20], [], none⟩,
             ⟨(some 120), .mv, [.t 119], [], none⟩,
             ⟨(some 121), .mv, [.t 7], [], some (120, false)⟩,
             ⟨(some 122), .mv, [.t 18], [], some (120, false)⟩,
             ⟨(some 123), (.indexAddr 1), [.t 121, .t 122], [], some (120, false)⟩,
             ⟨(some 124), (.load 1 false), [.t 123], [], some (120, false)⟩,
             ⟨(some 125), .mv, [.t 21], [], some (120, false)⟩,
             ⟨(some 126), (.indexAddr 1), [.t 124, .t 125], [], some (120, false)⟩,
             ⟨(some 127), (.load 1 false), [.t 126], [], some (120, false)⟩,
             ⟨(some 128), .mv, [.t 2], [], some (120, false)⟩,
             ⟨(some 129), (.bin .eql), [.t 127, .t 128], [], some (120, false)⟩,
             ⟨(some 130), .pick, [.t 120, .c (.bool true), .t 129], [], none⟩,
             ⟨(some 20), .mv, [.t 130], [], none⟩] [1, 2, 7, 10, 12, 13, 14, 17, 18, 19, 20, 21])))
          (.region [
           ⟨(some 105), .mv, [.t 21], [], none⟩,
           ⟨(some 106), (.bin .add), [.t 105, .c (.int .i64 1)], [], none⟩,
           ⟨(some 21), .mv, [.t 106], [], none⟩] [1, 2, 7, 10, 12, 13, 14, 17, 18, 19, 20, 21]))))))
       (.region [
        ⟨(some 131), .mv, [.t 17], [], none⟩,
        ⟨(some 132), .mv, [.t 131], [], none⟩,
        ⟨(some 133), .mv, [.t 19], [], some (132, false)⟩,
        ⟨(some 134), .mv, [.t 133], [], some (132, false)⟩,
        ⟨(some 135), .mv, [.t 20], [], some (134, true)⟩,
        ⟨(some 136), .pick, [.t 134, .t 135, .c (.bool false)], [], some (132, false)⟩,
        ⟨(some 137), .pick, [.t 132, .c (.bool true), .t 136], [], none⟩,
        ⟨(some 17), .mv, [.t 137], [], none⟩] [1, 2, 7, 10, 12, 13, 14, 17, 18]))))
     (.region [
      ⟨(some 96), .mv, [.t 18], [], none⟩,
      ⟨(some 97), (.bin .add), [.t 96, .c (.int .i64 1)], [], none⟩,
      ⟨(some 18), .mv, [.t 97], [], none⟩] [1, 2, 7, 10, 12, 13, 14, 17, 18]))))))
  (.seq (.region [
    ⟨(some 138), .mv, [.t 10], [], none⟩,
    ⟨(some 139), (.bin .eql), [.t 138, .c (.int .i64 0)], [], none⟩,
    ⟨(some 140), .mv, [.t 139], [], none⟩,
    ⟨(some 141), .mv, [.t 12], [], some (140, true)⟩,
    ⟨(some 142), (.bin .eql), [.t 141, .c (.int .i64 0)], [], some (140, true)⟩,
    ⟨(some 143), .pick, [.t 140, .t 142, .c (.bool false)], [], none⟩,
    ⟨(some 144), .mv, [.t 143], [], none⟩,
    ⟨(some 145), .mv, [.t 17], [], some (144, true)⟩,
    ⟨(some 146), .mv, [.t 1], [], some (144, true)⟩,
    ⟨(some 147), .mv, [.t 2], [], some (144, true)⟩,
    ⟨(some 148), (.bin .eql), [.t 146, .t 147], [], some (144, true)⟩,
    ⟨(some 149), .mv, [.t 148], [], some (144, true)⟩,
    ⟨(some 150), .mv, [.t 13], [], some (149, false)⟩,
    ⟨(some 151), .mv, [.t 150], [], some (149, false)⟩,
    ⟨(some 152), .mv, [.t 14], [], some (151, true)⟩,
    ⟨(some 153), .pick, [.t 151, .t 152, .c (.bool false)], [], some (149, false)⟩,
    ⟨(some 154), .pick, [.t 149, .c (.bool true), .t 153], [], some (144, true)⟩,
    ⟨(some 155), (.eqc false false [.b]), [.t 145, .t 154], [], some (144, true)⟩,
    ⟨(some 156), .pick, [.t 144, .t 155, .c (.bool false)], [], none⟩,
    ⟨(some 157), .mv, [.t 156], [], none⟩,
    ⟨(some 158), (.call false), [.c (.fn 9 [])], [], some (157, true)⟩,
    ⟨(some 159), .pick, [.t 157, .t 158, .c (.bool false)], [], none⟩,
    ⟨(some 6), .mv, [.t 159], [], none⟩] [6])
  (.ret))))))))))),
  [.tmp 6]⟩
/-- changeling/changelinglaw11.GroupsRings -/
def v7 : VFunc := ⟨105,
  .seq (.region [
    ⟨(some 2), .mv, [.c (.bool false)], [], none⟩] [0])
  (.seq (.seq (.region [
     ⟨(some 11), .mv, [.t 0], [], none⟩,
     ⟨(some 12), (.bin .lss), [.t 11, .c (.int .i64 1)], [], none⟩,
     ⟨(some 13), .mv, [.t 12], [], none⟩,
     ⟨(some 14), .mv, [.t 0], [], some (13, false)⟩,
     ⟨(some 15), (.bin .gtr), [.t 14, .c (.int .i64 400)], [], some (13, false)⟩,
     ⟨(some 16), .pick, [.t 13, .c (.bool true), .t 15], [], none⟩] [0, 16])
   (.cond (.t 16)
    (.seq (.region [
      ⟨(some 17), (.call false), [.c (.fn 9 [])], [], none⟩,
      ⟨(some 2), .mv, [.t 17], [], none⟩] [2])
    (.ret))
    (.skip)))
  (.seq (.region [
    ⟨(some 3), .mv, [.c (.sl true 1 [])], [], none⟩,
    ⟨(some 4), .mv, [.c (.sl true 1 [])], [], none⟩] [0, 3, 4])
  (.seq (.seq (.region [
     ⟨(some 5), .mv, [.c (.int .i64 0)], [], none⟩] [0, 3, 4, 5])
   (.block 0 (.loop (.seq (.seq (.region [
        ⟨(some 18), .mv, [.t 5], [], none⟩,
        ⟨(some 19), .mv, [.t 0], [], none⟩,
        ⟨(some 20), (.bin .lss), [.t 18, .t 19], [], none⟩] [0, 3, 4, 5, 20])
      (.cond (.t 20)
       (.skip)
       (.exit 0)))
     (.seq (.block 1 (.seq (.region [
         ⟨(some 23), .mv, [.t 3], [3], none⟩,
         ⟨(some 24), .mv, [.t 5], [], none⟩,
         ⟨(some 25), (.bin .add), [.t 24, .c (.int .i64 1)], [], none⟩,
         ⟨(some 26), .mv, [.t 0], [], none⟩,
         ⟨(some 27), (.bin .rem), [.t 25, .t 26], [], none⟩,
         ⟨(some 28), (.buildSl 1), [.t 27], [], none⟩,
         ⟨(some 29), (.buildSl 1), [.t 28], [28], none⟩,
         ⟨(some 30), (.append 1 24), [.t 23, .t 29], [23], none⟩,
         ⟨(some 3), .mv, [.t 30], [30], none⟩] [0, 3, 4, 5])
       (.seq (.region [
         ⟨(some 31), .mv, [.t 5], [], none⟩,
         ⟨(some 32), .mv, [.t 0], [], none⟩,
         ⟨(some 33), (.bin .sub), [.t 32, .c (.int .i64 1)], [], none⟩,
         ⟨(some 34), (.bin .lss), [.t 31, .t 33], [], none⟩] [0, 3, 4, 5, 34])
       (.cond (.t 34)
        (.region [
         ⟨(some 35), .mv, [.t 4], [4], none⟩,
         ⟨(some 36), .mv, [.t 5], [], none⟩,
         ⟨(some 37), (.bin .add), [.t 36, .c (.int .i64 1)], [], none⟩,
         ⟨(some 38), (.buildSl 1), [.t 37], [], none⟩,
         ⟨(some 39), (.buildSl 1), [.t 38], [38], none⟩,
         ⟨(some 40), (.append 1 24), [.t 35, .t 39], [35], none⟩,
         ⟨(some 4), .mv, [.t 40], [40], none⟩] [0, 3, 4, 5])
        (.region [
         ⟨(some 41), .mv, [.t 4], [4], none⟩,
         ⟨(some 42), (.buildSl 1), [], [], none⟩,
         ⟨(some 43), (.buildSl 1), [.t 42], [42], none⟩,
         ⟨(some 44), (.append 1 24), [.t 41, .t 43], [41], none⟩,
         ⟨(some 4), .mv, [.t 44], [44], none⟩] [0, 3, 4, 5])))))
     (.region [
      ⟨(some 21), .mv, [.t 5], [], none⟩,
      ⟨(some 22), (.bin .add), [.t 21, .c (.int .i64 1)], [], none⟩,
      ⟨(some 5), .mv, [.t 22], [], none⟩] [0, 3, 4, 5]))))))
  (.seq (.region [
    ⟨(some 46), .mv, [.t 3], [3], none⟩,
    ⟨(some 47), (.call false), [.c (.fn 10 []), .t 46], [46], none⟩,
    ⟨(some 45), .mv, [.t 47], [47], none⟩,
    ⟨(some 48), (.extract 0), [.t 45], [], none⟩,
    ⟨(some 49), (.extract 1), [.t 45], [45], none⟩,
    ⟨(some 6), .mv, [.t 48], [48], none⟩,
    ⟨(some 7), .mv, [.t 49], [], none⟩] [0, 4, 6, 7])
  (.seq (.region [
    ⟨(some 51), .mv, [.t 4], [4], none⟩,
    ⟨(some 52), (.call false), [.c (.fn 10 []), .t 51], [51], none⟩,
    ⟨(some 50), .mv, [.t 52], [52], none⟩,
    ⟨(some 53), (.extract 0), [.t 50], [], none⟩,
    ⟨(some 54), (.extract 1), [.t 50], [50], none⟩,
    ⟨(some 8), .mv, [.t 53], [53], none⟩,
    ⟨(some 9), .mv, [.t 54], [], none⟩] [0, 6, 7, 8, 9])
  (.seq (.seq (.region [
     ⟨(some 55), .mv, [.t 7], [], none⟩,
     ⟨(some 56), (.bin .neq), [.t 55, .c (.int .i64 0)], [], none⟩,
     ⟨(some 57), .mv, [.t 56], [], none⟩,
     ⟨(some 58), .mv, [.t 9], [], some (57, false)⟩,
     ⟨(some 59), (.bin .neq), [.t 58, .c (.int .i64 0)], [], some (57, false)⟩,
     ⟨(some 60), .pick, [.t 57, .c (.bool true), .t 59], [], none⟩,
     ⟨(some 61), .mv, [.t 60], [], none⟩,
     ⟨(some 62), .mv, [.t 6], [], some (61, false)⟩,
     ⟨(some 63), .len, [.t 62], [], some (61, false)⟩,
     ⟨(some 64), (.bin .neq), [.t 63, .c (.int .i64 1)], [], some (61, false)⟩,
     ⟨(some 65), .pick, [.t 61, .c (.bool true), .t 64], [], none⟩,
     ⟨(some 66), .mv, [.t 65], [], none⟩,
     ⟨(some 67), .mv, [.t 6], [6], some (66, false)⟩,
     ⟨(some 68), (.indexAddr 1), [.t 67, .c (.int .i64 0)], [], some (66, false)⟩,
     ⟨(some 69), (.load 1 false), [.t 68], [], some (66, false)⟩,
     ⟨(some 70), .len, [.t 69], [], some (66, false)⟩,
     ⟨(some 71), .mv, [.t 0], [], some (66, false)⟩,
     ⟨(some 72), (.bin .neq), [.t 70, .t 71], [], some (66, false)⟩,
     ⟨(some 73), .pick, [.t 66, .c (.bool true), .t 72], [], none⟩,
     ⟨(some 74), .mv, [.t 73], [], none⟩,
     ⟨(some 75), .mv, [.t 8], [], some (74, false)⟩,
     ⟨(some 76), .len, [.t 75], [], some (74, false)⟩,
     ⟨(some 77), .mv, [.t 0], [], some (74, false)⟩,
     ⟨(some 78), (.bin .neq), [.t 76, .t 77], [], some (74, false)⟩,
     ⟨(some 79), .pick, [.t 74, .c (.bool true), .t 78], [], none⟩] [0, 8, 79])
   (.cond (.t 79)
    (.seq (.region [
      ⟨(some 2), .mv, [.c (.bool false)], [], none⟩] [2])
    (.ret))
    (.skip)))
  (.seq (.seq (.region [
     ⟨(some 10), .mv, [.c (.int .i64 0)], [], none⟩] [0, 8, 10])
   (.block 2 (.loop (.seq (.seq (.region [
        ⟨(some 80), .mv, [.t 10], [], none⟩,
        ⟨(some 81), .mv, [.t 0], [], none⟩,
        ⟨(some 82), (.bin .lss), [.t 80, .t 81], [], none⟩] [0, 8, 10, 82])
      (.cond (.t 82)
       (.skip)
       (.exit 2)))
     (.seq (.block 3 (.seq (.region [
         ⟨(some 85), .mv, [.t 8], [], none⟩,
         ⟨(some 86), .mv, [.t 10], [], none⟩,
         ⟨(some 87), (.indexAddr 1), [.t 85, .t 86], [], none⟩,
         ⟨(some 88), (.load 1 false), [.t 87], [], none⟩,
         ⟨(some 89), .len, [.t 88], [], none⟩,
         ⟨(some 90), (.bin .neq), [.t 89, .c (.int .i64 1)], [], none⟩,
         ⟨(some 91), .mv, [.t 90], [], none⟩,
         ⟨(some 92), .mv, [.t 8], [], some (91, false)⟩,
         ⟨(some 93), .mv, [.t 10], [], some (91, false)⟩,
         ⟨(some 94), (.indexAddr 1), [.t 92, .t 93], [], some (91, false)⟩,
         ⟨(some 95), (.load 1 false), [.t 94], [], some (91, false)⟩,
         ⟨(some 96), (.indexAddr 1), [.t 95, .c (.int .i64 0)], [], some (91, false)⟩,
         ⟨(some 97), (.load 1 false), [.t 96], [], some (91, false)⟩,
         ⟨(some 98), .mv, [.t 0], [], some (91, false)⟩,
         ⟨(some 99), (.bin .sub), [.t 98, .c (.int .i64 1)], [], some (91, false)⟩,
         ⟨(some 100), .mv, [.t 10], [], some (91, false)⟩,
         ⟨(some 101), (.bin .sub), [.t 99, .t 100], [], some (91, false)⟩,
         ⟨(some 102), (.bin .neq), [.t 97, .t 101], [], some (91, false)⟩,
         ⟨(some 103), .pick, [.t 91, .c (.bool true), .t 102], [], none⟩] [0, 8, 10, 103])
       (.cond (.t 103)
        (.seq (.region [
          ⟨(some 2), .mv, [.c (.bool false)], [], none⟩] [2])
        (.ret))
        (.skip))))
     (.region [
      ⟨(some 83), .mv, [.t 10], [], none⟩,
      ⟨(some 84), (.bin .add), [.t 83, .c (.int .i64 1)], [], none⟩,
      ⟨(some 10), .mv, [.t 84], [], none⟩] [0, 8, 10]))))))
  (.seq (.region [
    ⟨(some 104), (.call false), [.c (.fn 9 [])], [], none⟩,
    ⟨(some 2), .mv, [.t 104], [], none⟩] [2])
  (.ret))))))))),
  [.tmp 2]⟩
/-- changeling/changelinglaw11.few -/
def v8 : VFunc := ⟨19,
  .seq (.region [
    ⟨(some 2), .mv, [.c (.bool false)], [], none⟩] [0])
  (.seq (.seq (.region [
     ⟨(some 4), .mv, [.t 0], [], none⟩,
     ⟨(some 5), .len, [.t 4], [], none⟩,
     ⟨(some 6), (.bin .gtr), [.t 5, .c (.int .i64 100)], [], none⟩] [0, 6])
   (.cond (.t 6)
    (.seq (.region [
      ⟨(some 2), .mv, [.c (.bool false)], [], none⟩] [2])
    (.ret))
    (.skip)))
  (.seq (.seq (.region [
     ⟨(some 3), .mv, [.c (.int .i64 0)], [], none⟩] [0, 3])
   (.block 0 (.loop (.seq (.seq (.region [
        ⟨(some 7), .mv, [.t 3], [], none⟩,
        ⟨(some 8), .mv, [.t 0], [], none⟩,
        ⟨(some 9), .len, [.t 8], [], none⟩,
        ⟨(some 10), (.bin .lss), [.t 7, .t 9], [], none⟩] [0, 3, 10])
      (.cond (.t 10)
       (.skip)
       (.exit 0)))
     (.seq (.block 1 (.seq (.region [
         ⟨(some 13), .mv, [.t 0], [], none⟩,
         ⟨(some 14), .mv, [.t 3], [], none⟩,
         ⟨(some 15), (.indexAddr 1), [.t 13, .t 14], [], none⟩,
         ⟨(some 16), (.load 1 false), [.t 15], [], none⟩,
         ⟨(some 17), .len, [.t 16], [], none⟩,
         ⟨(some 18), (.bin .gtr), [.t 17, .c (.int .i64 200)], [], none⟩] [0, 3, 18])
       (.cond (.t 18)
        (.seq (.region [
          ⟨(some 2), .mv, [.c (.bool false)], [], none⟩] [2])
        (.ret))
        (.skip))))
     (.region [
      ⟨(some 11), .mv, [.t 3], [], none⟩,
      ⟨(some 12), (.bin .add), [.t 11, .c (.int .i64 1)], [], none⟩,
      ⟨(some 3), .mv, [.t 12], [], none⟩] [0, 3]))))))
  (.seq (.region [
    ⟨(some 2), .mv, [.c (.bool true)], [], none⟩] [2])
  (.ret)))),
  [.tmp 2]⟩
/-- changeling/changelinglaw11.known -/
def v9 : VFunc := ⟨39,
  .seq (.region [
    ⟨(some 0), .mv, [.c (.bool false)], [], none⟩] [])
  (.seq (.region [
    ⟨(some 6), (.buildSl 1), [.c (.int .i64 1)], [], none⟩,
    ⟨(some 7), (.buildSl 1), [.c (.int .i64 0), .c (.int .i64 2)], [], none⟩,
    ⟨(some 8), (.buildSl 1), [], [], none⟩,
    ⟨(some 9), (.buildSl 1), [.t 6, .t 7, .t 8], [6, 7, 8], none⟩,
    ⟨(some 10), (.call false), [.c (.fn 10 []), .t 9], [9], none⟩,
    ⟨(some 5), .mv, [.t 10], [10], none⟩,
    ⟨(some 11), (.extract 0), [.t 5], [], none⟩,
    ⟨(some 12), (.extract 1), [.t 5], [5], none⟩,
    ⟨(some 1), .mv, [.t 11], [11], none⟩,
    ⟨(some 2), .mv, [.t 12], [], none⟩] [1, 2])
  (.seq (.region [
    ⟨(some 14), (.buildSl 1), [.c (.int .i64 1)], [], none⟩,
    ⟨(some 15), (.buildSl 1), [.c (.int .i64 0), .c (.int .i64 2)], [], none⟩,
    ⟨(some 16), (.buildSl 1), [], [], none⟩,
    ⟨(some 17), (.buildSl 1), [.t 14, .t 15, .t 16], [14, 15, 16], none⟩,
    ⟨(some 18), (.call false), [.c (.fn 12 []), .t 17, .c (.int .i64 0)], [17], none⟩,
    ⟨(some 13), .mv, [.t 18], [18], none⟩,
    ⟨(some 19), (.extract 0), [.t 13], [], none⟩,
    ⟨(some 20), (.extract 1), [.t 13], [13], none⟩,
    ⟨(some 3), .mv, [.t 19], [19], none⟩,
    ⟨(some 4), .mv, [.t 20], [], none⟩] [1, 2, 3, 4])
  (.seq (.region [
    ⟨(some 21), .mv, [.t 2], [], none⟩,
    ⟨(some 22), (.bin .eql), [.t 21, .c (.int .i64 0)], [], none⟩,
    ⟨(some 23), .mv, [.t 22], [], none⟩,
    ⟨(some 24), .mv, [.t 1], [1], some (23, true)⟩,
    ⟨(some 25), (.buildSl 1), [.c (.int .i64 2)], [], some (23, true)⟩,
    ⟨(some 26), (.buildSl 1), [.c (.int .i64 0), .c (.int .i64 1)], [], some (23, true)⟩,
    ⟨(some 27), (.buildSl 1), [.t 25, .t 26], [25, 26], some (23, true)⟩,
    ⟨(some 28), (.call false), [.c (.fn 14 []), .t 24, .t 27], [24, 27], some (23, true)⟩,
    ⟨(some 29), .pick, [.t 23, .t 28, .c (.bool false)], [], none⟩,
    ⟨(some 30), .mv, [.t 29], [], none⟩,
    ⟨(some 31), .mv, [.t 4], [], some (30, true)⟩,
    ⟨(some 32), (.bin .eql), [.t 31, .c (.int .i64 0)], [], some (30, true)⟩,
    ⟨(some 33), .pick, [.t 30, .t 32, .c (.bool false)], [], none⟩,
    ⟨(some 34), .mv, [.t 33], [], none⟩,
    ⟨(some 35), .mv, [.t 3], [3], some (34, true)⟩,
    ⟨(some 36), (.buildSl 1), [.c (.int .i64 0), .c (.int .i64 1), .c (.int .i64 2)], [], some (34, true)⟩,
    ⟨(some 37), (.call false), [.c (.fn 15 []), .t 35, .t 36], [35, 36], some (34, true)⟩,
    ⟨(some 38), .pick, [.t 34, .t 37, .c (.bool false)], [], none⟩,
    ⟨(some 0), .mv, [.t 38], [], none⟩] [0])
  (.ret)))),
  [.tmp 0]⟩
/-- changeling/group.Groups -/
def v10 : VFunc := ⟨65,
  .seq (.region [
    ⟨(some 2), .mv, [.c (.sl true 1 [])], [], none⟩,
    ⟨(some 3), .mv, [.c (.int .i64 0)], [], none⟩] [0])
  (.seq (.seq (.region [
     ⟨(some 13), .mv, [.t 0], [], none⟩,
     ⟨(some 14), (.call false), [.c (.fn 17 []), .t 13], [13], none⟩,
     ⟨(some 4), .mv, [.t 14], [], none⟩] [0, 4])
   (.seq (.region [
     ⟨(some 15), .mv, [.t 4], [], none⟩,
     ⟨(some 16), (.bin .neq), [.t 15, .c (.int .i64 0)], [], none⟩] [0, 4, 16])
   (.cond (.t 16)
    (.seq (.region [
      ⟨(some 17), .mv, [.t 4], [], none⟩,
      ⟨(some 2), .mv, [.c (.sl true 1 [])], [], none⟩,
      ⟨(some 3), .mv, [.t 17], [], none⟩] [2, 3])
    (.ret))
    (.skip))))
  (.seq (.region [
    ⟨(some 19), .mv, [.t 0], [], none⟩,
    ⟨(some 20), (.call false), [.c (.fn 18 []), .t 19], [19], none⟩,
    ⟨(some 18), .mv, [.t 20], [20], none⟩,
    ⟨(some 21), (.extract 0), [.t 18], [], none⟩,
    ⟨(some 22), (.extract 1), [.t 18], [18], none⟩,
    ⟨(some 5), .mv, [.t 21], [21], none⟩,
    ⟨(some 6), .mv, [.t 22], [], none⟩] [0, 5, 6])
  (.seq (.region [
    ⟨(some 23), .mv, [.t 6], [], none⟩,
    ⟨(some 24), (.makeH 1 24 [.sl true 1 []]), [.t 23, .t 23], [], none⟩,
    ⟨(some 7), .thaw, [.t 24], [24], none⟩] [0, 5, 6, 7])
  (.seq (.seq (.region [
     ⟨(some 25), .mv, [.t 5], [], none⟩,
     ⟨(some 26), .len, [.t 25], [], none⟩,
     ⟨(some 27), .mv, [.c (.int .i64 0)], [], none⟩] [0, 5, 6, 7, 25, 26, 27])
   (.block 0 (.loop (.seq (.region [
       ⟨(some 28), (.bin .lss), [.t 27, .t 26], [], none⟩] [0, 5, 6, 7, 25, 26, 27, 28])
     (.seq (.cond (.t 28)
       (.skip)
       (.exit 0))
     (.seq (.block 1 (.seq (.region [
         ⟨(some 29), .mv, [.t 27], [], none⟩,
         ⟨(some 30), (.indexAddr 1), [.t 25, .t 27], [], none⟩,
         ⟨(some 31), (.load 1 false), [.t 30], [], none⟩,
         ⟨(some 8), .mv, [.t 29], [], none⟩,
         ⟨(some 9), .mv, [.t 31], [], none⟩] [0, 5, 6, 7, 8, 9, 25, 26, 27])
       (.region [
        ⟨(some 32), .mv, [.t 7], [], none⟩,
        ⟨(some 33), .mv, [.t 9], [], none⟩,
        ⟨(some 34), .mv, [.t 7], [], none⟩,
        ⟨(some 35), .mv, [.t 9], [], none⟩,
        ⟨(some 36), (.indexAddr 1), [.t 34, .t 35], [], none⟩,
        ⟨(some 37), (.loadT 1 false), [.t 36], [], none⟩,
        ⟨(some 38), .mv, [.t 8], [], none⟩,
        ⟨(some 39), (.buildSl 1), [.t 38], [], none⟩,
        ⟨(some 40), (.append 1 8), [.t 37, .t 39], [37], none⟩,
        ⟨(some 41), (.indexAddr 1), [.t 32, .t 33], [], none⟩,
        ⟨none, (.store 1), [.t 41, .t 40], [40], none⟩] [0, 5, 6, 7, 25, 26, 27])))
     (.region [
      ⟨(some 42), (.bin .add), [.t 27, .c (.int .i64 1)], [], none⟩,
      ⟨(some 27), .mv, [.t 42], [], none⟩] [0, 5, 6, 7, 25, 26, 27])))))))
  (.seq (.region [
    ⟨(some 43), .mv, [.t 6], [], none⟩,
    ⟨(some 44), (.makeH 1 1 [.bool false]), [.t 43, .t 43], [], none⟩,
    ⟨(some 10), .thaw, [.t 44], [44], none⟩] [0, 5, 6, 7, 10])
  (.seq (.region [
    ⟨(some 11), .mv, [.c (.sl true 1 [])], [], none⟩] [0, 5, 6, 7, 10, 11])
  (.seq (.seq (.region [
     ⟨(some 45), .mv, [.t 6], [], none⟩,
     ⟨(some 46), .mv, [.c (.int .i64 0)], [], none⟩] [0, 5, 7, 10, 11, 45, 46])
   (.block 2 (.loop (.seq (.region [
       ⟨(some 47), (.bin .lss), [.t 46, .t 45], [], none⟩] [0, 5, 7, 10, 11, 45, 46, 47])
     (.seq (.cond (.t 47)
       (.skip)
       (.exit 2))
     (.seq (.block 3 (.seq (.region [
         ⟨(some 48), .mv, [.t 0], [], none⟩,
         ⟨(some 49), .mv, [.t 5], [], none⟩,
         ⟨(some 50), .mv, [.t 7], [], none⟩,
         ⟨(some 51), .mv, [.t 10], [], none⟩,
         ⟨(some 52), (.call false), [.c (.fn 19 []), .t 48, .t 49, .t 50, .t 51], [48, 49, 50, 51], none⟩,
         ⟨(some 12), .mv, [.t 52], [], none⟩] [0, 5, 7, 10, 11, 12, 45, 46])
       (.seq (.region [
         ⟨(some 53), .mv, [.t 10], [], none⟩,
         ⟨(some 54), .mv, [.t 12], [], none⟩,
         ⟨(some 55), (.indexAddr 1), [.t 53, .t 54], [], none⟩,
         ⟨none, (.store 1), [.t 55, .c (.bool true)], [], none⟩] [0, 5, 7, 10, 11, 12, 45, 46])
       (.region [
        ⟨(some 56), .mv, [.t 11], [11], none⟩,
        ⟨(some 57), .mv, [.t 7], [], none⟩,
        ⟨(some 58), .mv, [.t 12], [], none⟩,
        ⟨(some 59), (.indexAddr 1), [.t 57, .t 58], [], none⟩,
        ⟨(some 60), (.load 1 false), [.t 59], [], none⟩,
        ⟨(some 61), (.buildSl 1), [.t 60], [60], none⟩,
        ⟨(some 62), (.append 1 24), [.t 56, .t 61], [56], none⟩,
        ⟨(some 11), .mv, [.t 62], [62], none⟩] [0, 5, 7, 10, 11, 45, 46]))))
     (.region [
      ⟨(some 63), (.bin .add), [.t 46, .c (.int .i64 1)], [], none⟩,
      ⟨(some 46), .mv, [.t 63], [], none⟩] [0, 5, 7, 10, 11, 45, 46])))))))
  (.seq (.region [
    ⟨(some 64), .mv, [.t 11], [11], none⟩,
    ⟨(some 2), .mv, [.t 64], [64], none⟩,
    ⟨(some 3), .mv, [.c (.int .i64 0)], [], none⟩] [2, 3])
  (.ret))))))))),
  [.tmp 2, .tmp 3]⟩
/-- changeling/changelingref11.Groups -/
def v11 : VFunc := ⟨59,
  .seq (.region [
    ⟨(some 2), .mv, [.c (.sl true 1 [])], [], none⟩,
    ⟨(some 3), .mv, [.c (.int .i64 0)], [], none⟩] [0])
  (.seq (.region [
    ⟨(some 11), .mv, [.t 0], [], none⟩,
    ⟨(some 12), (.call false), [.c (.fn 16 []), .t 11], [11], none⟩,
    ⟨(some 4), .mv, [.t 12], [], none⟩] [0, 4])
  (.seq (.seq (.region [
     ⟨(some 13), .mv, [.t 4], [], none⟩,
     ⟨(some 14), (.bin .neq), [.t 13, .c (.int .i64 0)], [], none⟩] [0, 4, 14])
   (.cond (.t 14)
    (.seq (.region [
      ⟨(some 15), (.buildSl 1), [], [], none⟩,
      ⟨(some 16), .mv, [.t 4], [], none⟩,
      ⟨(some 2), .mv, [.t 15], [15], none⟩,
      ⟨(some 3), .mv, [.t 16], [], none⟩] [2, 3])
    (.ret))
    (.skip)))
  (.seq (.region [
    ⟨(some 17), .mv, [.t 0], [], none⟩,
    ⟨(some 18), (.call false), [.c (.fn 20 []), .t 17], [17], none⟩,
    ⟨(some 5), .mv, [.t 18], [18], none⟩] [0, 5])
  (.seq (.region [
    ⟨(some 19), .mv, [.t 0], [], none⟩,
    ⟨(some 20), .len, [.t 19], [], none⟩,
    ⟨(some 21), (.makeH 1 1 [.bool false]), [.t 20, .t 20], [], none⟩,
    ⟨(some 6), .thaw, [.t 21], [21], none⟩] [0, 5, 6])
  (.seq (.region [
    ⟨(some 7), .mv, [.c (.sl true 1 [])], [], none⟩] [0, 5, 6, 7])
  (.seq (.region [
    ⟨(some 8), .mv, [.c (.int .i64 0)], [], none⟩] [0, 5, 6, 7, 8])
  (.seq (.block 0 (.loop (.seq (.seq (.region [
        ⟨(some 22), .mv, [.t 8], [], none⟩,
        ⟨(some 23), .mv, [.t 0], [], none⟩,
        ⟨(some 24), .len, [.t 23], [], none⟩,
        ⟨(some 25), (.bin .lss), [.t 22, .t 24], [], none⟩] [0, 5, 6, 7, 8, 25])
      (.cond (.t 25)
       (.skip)
       (.exit 0)))
     (.block 1 (.seq (.region [
        ⟨(some 26), .mv, [.t 5], [], none⟩,
        ⟨(some 27), .mv, [.t 8], [], none⟩,
        ⟨(some 28), (.call false), [.c (.fn 21 []), .t 26, .t 27], [26], none⟩,
        ⟨(some 9), .mv, [.t 28], [28], none⟩] [0, 5, 6, 7, 8, 9])
      (.seq (.region [
        ⟨(some 29), .mv, [.t 6], [], none⟩,
        ⟨(some 30), .mv, [.t 8], [], none⟩,
        ⟨(some 31), (.indexAddr 1), [.t 29, .t 30], [], none⟩,
        ⟨(some 32), (.load 1 false), [.t 31], [], none⟩,
        ⟨(some 33), .mv, [.t 32], [], none⟩,
        ⟨(some 34), .mv, [.t 5], [], some (33, false)⟩,
        ⟨(some 35), .mv, [.t 9], [], some (33, false)⟩,
        ⟨(some 36), .mv, [.t 6], [], some (33, false)⟩,
        ⟨(some 37), (.call false), [.c (.fn 22 []), .t 34, .t 35, .t 36], [34, 35, 36], some (33, false)⟩,
        ⟨(some 38), .not, [.t 37], [], some (33, false)⟩,
        ⟨(some 39), .pick, [.t 33, .c (.bool true), .t 38], [], none⟩] [0, 5, 6, 7, 8, 9, 39])
      (.cond (.t 39)
       (.region [
        ⟨(some 40), .mv, [.t 8], [], none⟩,
        ⟨(some 41), (.bin .add), [.t 40, .c (.int .i64 1)], [], none⟩,
        ⟨(some 8), .mv, [.t 41], [], none⟩] [0, 5, 6, 7, 8])
       (.seq (.seq (.region [
          ⟨(some 10), .mv, [.c (.int .i64 0)], [], none⟩] [0, 5, 6, 7, 9, 10])
        (.block 2 (.loop (.seq (.seq (.region [
             ⟨(some 42), .mv, [.t 10], [], none⟩,
             ⟨(some 43), .mv, [.t 9], [], none⟩,
             ⟨(some 44), .len, [.t 43], [], none⟩,
             ⟨(some 45), (.bin .lss), [.t 42, .t 44], [], none⟩] [0, 5, 6, 7, 9, 10, 45])
           (.cond (.t 45)
            (.skip)
            (.exit 2)))
          (.seq (.block 3 (.region [
             ⟨(some 48), .mv, [.t 6], [], none⟩,
             ⟨(some 49), .mv, [.t 9], [], none⟩,
             ⟨(some 50), .mv, [.t 10], [], none⟩,
             ⟨(some 51), (.indexAddr 1), [.t 49, .t 50], [], none⟩,
             ⟨(some 52), (.load 1 false), [.t 51], [], none⟩,
             ⟨(some 53), (.indexAddr 1), [.t 48, .t 52], [], none⟩,
             ⟨none, (.store 1), [.t 53, .c (.bool true)], [], none⟩] [0, 5, 6, 7, 9, 10]))
          (.region [
           ⟨(some 46), .mv, [.t 10], [], none⟩,
           ⟨(some 47), (.bin .add), [.t 46, .c (.int .i64 1)], [], none⟩,
           ⟨(some 10), .mv, [.t 47], [], none⟩] [0, 5, 6, 7, 9, 10]))))))
       (.seq (.region [
         ⟨(some 54), .mv, [.t 7], [7], none⟩,
         ⟨(some 55), .mv, [.t 9], [9], none⟩,
         ⟨(some 56), (.buildSl 1), [.t 55], [55], none⟩,
         ⟨(some 57), (.append 1 24), [.t 54, .t 56], [54], none⟩,
         ⟨(some 7), .mv, [.t 57], [57], none⟩] [0, 5, 6, 7])
       (.region [
        ⟨(some 8), .mv, [.c (.int .i64 0)], [], none⟩] [0, 5, 6, 7, 8]))))))))))
  (.seq (.region [
    ⟨(some 58), .mv, [.t 7], [7], none⟩,
    ⟨(some 2), .mv, [.t 58], [58], none⟩,
    ⟨(some 3), .mv, [.c (.int .i64 0)], [], none⟩] [2, 3])
  (.ret))))))))),
  [.tmp 2, .tmp 3]⟩
/-- changeling/group.Reach -/
def v12 : VFunc := ⟨83,
  .seq (.region [
    ⟨(some 4), .mv, [.c (.sl true 1 [])], [], none⟩,
    ⟨(some 5), .mv, [.c (.int .i64 0)], [], none⟩] [0, 1])
  (.seq (.seq (.region [
     ⟨(some 15), .mv, [.t 0], [], none⟩,
     ⟨(some 16), (.call false), [.c (.fn 17 []), .t 15], [15], none⟩,
     ⟨(some 6), .mv, [.t 16], [], none⟩] [0, 1, 6])
   (.seq (.region [
     ⟨(some 17), .mv, [.t 6], [], none⟩,
     ⟨(some 18), (.bin .neq), [.t 17, .c (.int .i64 0)], [], none⟩] [0, 1, 6, 18])
   (.cond (.t 18)
    (.seq (.region [
      ⟨(some 19), .mv, [.t 6], [], none⟩,
      ⟨(some 4), .mv, [.c (.sl true 1 [])], [], none⟩,
      ⟨(some 5), .mv, [.t 19], [], none⟩] [4, 5])
    (.ret))
    (.skip))))
  (.seq (.seq (.region [
     ⟨(some 20), .mv, [.t 1], [], none⟩,
     ⟨(some 21), (.bin .lss), [.t 20, .c (.int .i64 0)], [], none⟩,
     ⟨(some 22), .mv, [.t 21], [], none⟩,
     ⟨(some 23), .mv, [.t 1], [], some (22, false)⟩,
     ⟨(some 24), .mv, [.t 0], [], some (22, false)⟩,
     ⟨(some 25), .len, [.t 24], [], some (22, false)⟩,
     ⟨(some 26), (.bin .geq), [.t 23, .t 25], [], some (22, false)⟩,
     ⟨(some 27), .pick, [.t 22, .c (.bool true), .t 26], [], none⟩] [0, 1, 27])
   (.cond (.t 27)
    (.seq (.region [
      ⟨(some 4), .mv, [.c (.sl true 1 [])], [], none⟩,
      ⟨(some 5), .mv, [.c (.int .i64 1)], [], none⟩] [4, 5])
    (.ret))
    (.skip)))
  (.seq (.region [
    ⟨(some 28), .mv, [.t 0], [], none⟩,
    ⟨(some 29), .len, [.t 28], [], none⟩,
    ⟨(some 30), (.makeH 1 1 [.bool false]), [.t 29, .t 29], [], none⟩,
    ⟨(some 7), .thaw, [.t 30], [30], none⟩] [0, 1, 7])
  (.seq (.region [
    ⟨(some 31), .mv, [.t 1], [], none⟩,
    ⟨(some 32), (.buildFr 1), [.t 31], [], none⟩,
    ⟨(some 8), .thaw, [.t 32], [32], none⟩] [0, 7, 8])
  (.seq (.block 0 (.loop (.seq (.seq (.region [
        ⟨(some 33), .mv, [.t 8], [], none⟩,
        ⟨(some 34), .len, [.t 33], [], none⟩,
        ⟨(some 35), (.bin .gtr), [.t 34, .c (.int .i64 0)], [], none⟩] [0, 7, 8, 35])
      (.cond (.t 35)
       (.skip)
       (.exit 0)))
     (.block 1 (.seq (.region [
        ⟨(some 36), .mv, [.t 8], [], none⟩,
        ⟨(some 37), .mv, [.t 8], [], none⟩,
        ⟨(some 38), .len, [.t 37], [], none⟩,
        ⟨(some 39), (.bin .sub), [.t 38, .c (.int .i64 1)], [], none⟩,
        ⟨(some 40), (.indexAddr 1), [.t 36, .t 39], [], none⟩,
        ⟨(some 41), (.load 1 false), [.t 40], [], none⟩,
        ⟨(some 9), .mv, [.t 41], [], none⟩] [0, 7, 8, 9])
      (.seq (.region [
        ⟨(some 42), .mv, [.t 8], [], none⟩,
        ⟨(some 43), .mv, [.t 8], [8], none⟩,
        ⟨(some 44), .len, [.t 43], [], none⟩,
        ⟨(some 45), (.bin .sub), [.t 44, .c (.int .i64 1)], [], none⟩,
        ⟨(some 46), (.slice false true 1), [.t 42, .t 45], [], none⟩,
        ⟨(some 8), .mv, [.t 46], [46], none⟩] [0, 7, 8, 9])
      (.seq (.region [
        ⟨(some 47), .mv, [.t 0], [], none⟩,
        ⟨(some 48), .mv, [.t 9], [], none⟩,
        ⟨(some 49), (.indexAddr 1), [.t 47, .t 48], [], none⟩,
        ⟨(some 50), (.load 1 false), [.t 49], [], none⟩,
        ⟨(some 51), .len, [.t 50], [], none⟩,
        ⟨(some 52), .mv, [.c (.int .i64 0)], [], none⟩] [0, 7, 8, 50, 51, 52])
      (.block 2 (.loop (.seq (.region [
          ⟨(some 53), (.bin .lss), [.t 52, .t 51], [], none⟩] [0, 7, 8, 50, 51, 52, 53])
        (.seq (.cond (.t 53)
          (.skip)
          (.exit 2))
        (.seq (.block 3 (.seq (.region [
            ⟨(some 54), (.indexAddr 1), [.t 50, .t 52], [], none⟩,
            ⟨(some 55), (.load 1 false), [.t 54], [], none⟩,
            ⟨(some 11), .mv, [.t 55], [], none⟩] [0, 7, 8, 11, 50, 51, 52])
          (.seq (.region [
            ⟨(some 56), .mv, [.t 7], [], none⟩,
            ⟨(some 57), .mv, [.t 11], [], none⟩,
            ⟨(some 58), (.indexAddr 1), [.t 56, .t 57], [], none⟩,
            ⟨(some 59), (.load 1 false), [.t 58], [], none⟩,
            ⟨(some 60), .not, [.t 59], [], none⟩] [0, 7, 8, 11, 50, 51, 52, 60])
          (.cond (.t 60)
           (.seq (.region [
             ⟨(some 61), .mv, [.t 7], [], none⟩,
             ⟨(some 62), .mv, [.t 11], [], none⟩,
             ⟨(some 63), (.indexAddr 1), [.t 61, .t 62], [], none⟩,
             ⟨none, (.store 1), [.t 63, .c (.bool true)], [], none⟩] [0, 7, 8, 11, 50, 51, 52])
           (.region [
            ⟨(some 64), .mv, [.t 8], [8], none⟩,
            ⟨(some 65), .mv, [.t 11], [], none⟩,
            ⟨(some 66), (.buildSl 1), [.t 65], [], none⟩,
            ⟨(some 67), (.appendH 1 8), [.t 64, .t 66], [], none⟩,
            ⟨(some 8), .thaw, [.t 67], [67], none⟩] [0, 7, 8, 50, 51, 52]))
           (.skip)))))
        (.region [
         ⟨(some 68), (.bin .add), [.t 52, .c (.int .i64 1)], [], none⟩,
         ⟨(some 52), .mv, [.t 68], [], none⟩] [0, 7, 8, 50, 51, 52])))))))))))))
  (.seq (.region [
    ⟨(some 12), .mv, [.c (.sl true 1 [])], [], none⟩] [7, 12])
  (.seq (.seq (.region [
     ⟨(some 69), .mv, [.t 7], [7], none⟩,
     ⟨(some 70), .len, [.t 69], [], none⟩,
     ⟨(some 71), .mv, [.c (.int .i64 0)], [], none⟩] [12, 69, 70, 71])
   (.block 4 (.loop (.seq (.region [
       ⟨(some 72), (.bin .lss), [.t 71, .t 70], [], none⟩] [12, 69, 70, 71, 72])
     (.seq (.cond (.t 72)
       (.skip)
       (.exit 4))
     (.seq (.block 5 (.seq (.region [
         ⟨(some 73), .mv, [.t 71], [], none⟩,
         ⟨(some 74), (.indexAddr 1), [.t 69, .t 71], [], none⟩,
         ⟨(some 75), (.load 1 false), [.t 74], [], none⟩,
         ⟨(some 13), .mv, [.t 73], [], none⟩,
         ⟨(some 14), .mv, [.t 75], [], none⟩] [12, 13, 14, 69, 70, 71])
       (.seq (.region [
         ⟨(some 76), .mv, [.t 14], [], none⟩] [12, 13, 69, 70, 71, 76])
       (.cond (.t 76)
        (.region [
         ⟨(some 77), .mv, [.t 12], [12], none⟩,
         ⟨(some 78), .mv, [.t 13], [], none⟩,
         ⟨(some 79), (.buildSl 1), [.t 78], [], none⟩,
         ⟨(some 80), (.append 1 8), [.t 77, .t 79], [77], none⟩,
         ⟨(some 12), .mv, [.t 80], [80], none⟩] [12, 69, 70, 71])
        (.skip)))))
     (.region [
      ⟨(some 81), (.bin .add), [.t 71, .c (.int .i64 1)], [], none⟩,
      ⟨(some 71), .mv, [.t 81], [], none⟩] [12, 69, 70, 71])))))))
  (.seq (.region [
    ⟨(some 82), .mv, [.t 12], [12], none⟩,
    ⟨(some 4), .mv, [.t 82], [82], none⟩,
    ⟨(some 5), .mv, [.c (.int .i64 0)], [], none⟩] [4, 5])
  (.ret))))))))),
  [.tmp 4, .tmp 5]⟩
/-- changeling/changelingref11.Reach -/
def v13 : VFunc := ⟨48,
  .seq (.region [
    ⟨(some 4), .mv, [.c (.sl true 1 [])], [], none⟩,
    ⟨(some 5), .mv, [.c (.int .i64 0)], [], none⟩] [0, 1])
  (.seq (.region [
    ⟨(some 10), .mv, [.t 0], [], none⟩,
    ⟨(some 11), (.call false), [.c (.fn 16 []), .t 10], [10], none⟩,
    ⟨(some 6), .mv, [.t 11], [], none⟩] [0, 1, 6])
  (.seq (.seq (.region [
     ⟨(some 12), .mv, [.t 6], [], none⟩,
     ⟨(some 13), (.bin .eql), [.t 12, .c (.int .i64 0)], [], none⟩,
     ⟨(some 14), .mv, [.t 13], [], none⟩,
     ⟨(some 15), .mv, [.t 1], [], some (14, true)⟩,
     ⟨(some 16), (.bin .lss), [.t 15, .c (.int .i64 0)], [], some (14, true)⟩,
     ⟨(some 17), .mv, [.t 16], [], some (14, true)⟩,
     ⟨(some 18), .mv, [.t 1], [], some (17, false)⟩,
     ⟨(some 19), .mv, [.t 0], [], some (17, false)⟩,
     ⟨(some 20), .len, [.t 19], [], some (17, false)⟩,
     ⟨(some 21), (.bin .geq), [.t 18, .t 20], [], some (17, false)⟩,
     ⟨(some 22), .pick, [.t 17, .c (.bool true), .t 21], [], some (14, true)⟩,
     ⟨(some 23), .pick, [.t 14, .t 22, .c (.bool false)], [], none⟩] [0, 1, 6, 23])
   (.cond (.t 23)
    (.region [
     ⟨(some 6), .mv, [.c (.int .i64 1)], [], none⟩] [0, 1, 6])
    (.skip)))
  (.seq (.seq (.region [
     ⟨(some 24), .mv, [.t 6], [], none⟩,
     ⟨(some 25), (.bin .neq), [.t 24, .c (.int .i64 0)], [], none⟩] [0, 1, 6, 25])
   (.cond (.t 25)
    (.seq (.region [
      ⟨(some 26), (.buildSl 1), [], [], none⟩,
      ⟨(some 27), .mv, [.t 6], [], none⟩,
      ⟨(some 4), .mv, [.t 26], [26], none⟩,
      ⟨(some 5), .mv, [.t 27], [], none⟩] [4, 5])
    (.ret))
    (.skip)))
  (.seq (.region [
    ⟨(some 28), .mv, [.t 0], [], none⟩,
    ⟨(some 29), (.call false), [.c (.fn 20 []), .t 28], [28], none⟩,
    ⟨(some 7), .mv, [.t 29], [29], none⟩] [0, 1, 7])
  (.seq (.region [
    ⟨(some 8), .mv, [.c (.sl true 1 [])], [], none⟩] [0, 1, 7, 8])
  (.seq (.seq (.region [
     ⟨(some 9), .mv, [.c (.int .i64 0)], [], none⟩] [0, 1, 7, 8, 9])
   (.block 0 (.loop (.seq (.seq (.region [
        ⟨(some 30), .mv, [.t 9], [], none⟩,
        ⟨(some 31), .mv, [.t 0], [], none⟩,
        ⟨(some 32), .len, [.t 31], [], none⟩,
        ⟨(some 33), (.bin .lss), [.t 30, .t 32], [], none⟩] [0, 1, 7, 8, 9, 33])
      (.cond (.t 33)
       (.skip)
       (.exit 0)))
     (.seq (.block 1 (.seq (.region [
         ⟨(some 36), .mv, [.t 7], [], none⟩,
         ⟨(some 37), .mv, [.t 1], [], none⟩,
         ⟨(some 38), (.indexAddr 1), [.t 36, .t 37], [], none⟩,
         ⟨(some 39), (.load 1 false), [.t 38], [], none⟩,
         ⟨(some 40), .mv, [.t 9], [], none⟩,
         ⟨(some 41), (.indexAddr 1), [.t 39, .t 40], [], none⟩,
         ⟨(some 42), (.load 1 false), [.t 41], [], none⟩] [0, 1, 7, 8, 9, 42])
       (.cond (.t 42)
        (.region [
         ⟨(some 43), .mv, [.t 8], [8], none⟩,
         ⟨(some 44), .mv, [.t 9], [], none⟩,
         ⟨(some 45), (.buildSl 1), [.t 44], [], none⟩,
         ⟨(some 46), (.append 1 8), [.t 43, .t 45], [43], none⟩,
         ⟨(some 8), .mv, [.t 46], [46], none⟩] [0, 1, 7, 8, 9])
        (.skip))))
     (.region [
      ⟨(some 34), .mv, [.t 9], [], none⟩,
      ⟨(some 35), (.bin .add), [.t 34, .c (.int .i64 1)], [], none⟩,
      ⟨(some 9), .mv, [.t 35], [], none⟩] [0, 1, 7, 8, 9]))))))
  (.seq (.region [
    ⟨(some 47), .mv, [.t 8], [8], none⟩,
    ⟨(some 4), .mv, [.t 47], [47], none⟩,
    ⟨(some 5), .mv, [.c (.int .i64 0)], [], none⟩] [4, 5])
  (.ret)))))))),
  [.tmp 4, .tmp 5]⟩
/-- changeling/changelingref11.Same -/
def v14 : VFunc := ⟨27,
  .seq (.region [
    ⟨(some 4), .mv, [.c (.bool false)], [], none⟩] [0, 1])
  (.seq (.seq (.region [
     ⟨(some 6), .mv, [.t 0], [], none⟩,
     ⟨(some 7), .len, [.t 6], [], none⟩,
     ⟨(some 8), .mv, [.t 1], [], none⟩,
     ⟨(some 9), .len, [.t 8], [], none⟩,
     ⟨(some 10), (.bin .neq), [.t 7, .t 9], [], none⟩] [0, 1, 10])
   (.cond (.t 10)
    (.seq (.region [
      ⟨(some 4), .mv, [.c (.bool false)], [], none⟩] [4])
    (.ret))
    (.skip)))
  (.seq (.seq (.region [
     ⟨(some 5), .mv, [.c (.int .i64 0)], [], none⟩] [0, 1, 5])
   (.block 0 (.loop (.seq (.seq (.region [
        ⟨(some 11), .mv, [.t 5], [], none⟩,
        ⟨(some 12), .mv, [.t 0], [], none⟩,
        ⟨(some 13), .len, [.t 12], [], none⟩,
        ⟨(some 14), (.bin .lss), [.t 11, .t 13], [], none⟩] [0, 1, 5, 14])
      (.cond (.t 14)
       (.skip)
       (.exit 0)))
     (.seq (.block 1 (.seq (.region [
         ⟨(some 17), .mv, [.t 0], [], none⟩,
         ⟨(some 18), .mv, [.t 5], [], none⟩,
         ⟨(some 19), (.indexAddr 1), [.t 17, .t 18], [], none⟩,
         ⟨(some 20), (.load 1 false), [.t 19], [], none⟩,
         ⟨(some 21), .mv, [.t 1], [], none⟩,
         ⟨(some 22), .mv, [.t 5], [], none⟩,
         ⟨(some 23), (.indexAddr 1), [.t 21, .t 22], [], none⟩,
         ⟨(some 24), (.load 1 false), [.t 23], [], none⟩,
         ⟨(some 25), (.call false), [.c (.fn 15 []), .t 20, .t 24], [20, 24], none⟩,
         ⟨(some 26), .not, [.t 25], [], none⟩] [0, 1, 5, 26])
       (.cond (.t 26)
        (.seq (.region [
          ⟨(some 4), .mv, [.c (.bool false)], [], none⟩] [4])
        (.ret))
        (.skip))))
     (.region [
      ⟨(some 15), .mv, [.t 5], [], none⟩,
      ⟨(some 16), (.bin .add), [.t 15, .c (.int .i64 1)], [], none⟩,
      ⟨(some 5), .mv, [.t 16], [], none⟩] [0, 1, 5]))))))
  (.seq (.region [
    ⟨(some 4), .mv, [.c (.bool true)], [], none⟩] [4])
  (.ret)))),
  [.tmp 4]⟩
/-- changeling/changelingref01.SameInts -/
def v15 : VFunc := ⟨26,
  .seq (.region [
    ⟨(some 4), .mv, [.c (.bool false)], [], none⟩] [0, 1])
  (.seq (.seq (.region [
     ⟨(some 6), .mv, [.t 0], [], none⟩,
     ⟨(some 7), .len, [.t 6], [], none⟩,
     ⟨(some 8), .mv, [.t 1], [], none⟩,
     ⟨(some 9), .len, [.t 8], [], none⟩,
     ⟨(some 10), (.bin .neq), [.t 7, .t 9], [], none⟩] [0, 1, 10])
   (.cond (.t 10)
    (.seq (.region [
      ⟨(some 4), .mv, [.c (.bool false)], [], none⟩] [4])
    (.ret))
    (.skip)))
  (.seq (.seq (.region [
     ⟨(some 5), .mv, [.c (.int .i64 0)], [], none⟩] [0, 1, 5])
   (.block 0 (.loop (.seq (.seq (.region [
        ⟨(some 11), .mv, [.t 5], [], none⟩,
        ⟨(some 12), .mv, [.t 0], [], none⟩,
        ⟨(some 13), .len, [.t 12], [], none⟩,
        ⟨(some 14), (.bin .lss), [.t 11, .t 13], [], none⟩] [0, 1, 5, 14])
      (.cond (.t 14)
       (.skip)
       (.exit 0)))
     (.seq (.block 1 (.seq (.region [
         ⟨(some 17), .mv, [.t 0], [], none⟩,
         ⟨(some 18), .mv, [.t 5], [], none⟩,
         ⟨(some 19), (.indexAddr 1), [.t 17, .t 18], [], none⟩,
         ⟨(some 20), (.load 1 false), [.t 19], [], none⟩,
         ⟨(some 21), .mv, [.t 1], [], none⟩,
         ⟨(some 22), .mv, [.t 5], [], none⟩,
         ⟨(some 23), (.indexAddr 1), [.t 21, .t 22], [], none⟩,
         ⟨(some 24), (.load 1 false), [.t 23], [], none⟩,
         ⟨(some 25), (.bin .neq), [.t 20, .t 24], [], none⟩] [0, 1, 5, 25])
       (.cond (.t 25)
        (.seq (.region [
          ⟨(some 4), .mv, [.c (.bool false)], [], none⟩] [4])
        (.ret))
        (.skip))))
     (.region [
      ⟨(some 15), .mv, [.t 5], [], none⟩,
      ⟨(some 16), (.bin .add), [.t 15, .c (.int .i64 1)], [], none⟩,
      ⟨(some 5), .mv, [.t 16], [], none⟩] [0, 1, 5]))))))
  (.seq (.region [
    ⟨(some 4), .mv, [.c (.bool true)], [], none⟩] [4])
  (.ret)))),
  [.tmp 4]⟩
/-- changeling/changelingref11.Wrong -/
def v16 : VFunc := ⟨43,
  .seq (.region [
    ⟨(some 2), .mv, [.c (.int .i64 0)], [], none⟩] [0])
  (.seq (.seq (.region [
     ⟨(some 5), .mv, [.t 0], [], none⟩,
     ⟨(some 6), .len, [.t 5], [], none⟩,
     ⟨(some 7), (.bin .gtr), [.t 6, .c (.int .i64 2048)], [], none⟩] [0, 7])
   (.cond (.t 7)
    (.seq (.region [
      ⟨(some 2), .mv, [.c (.int .i64 2)], [], none⟩] [2])
    (.ret))
    (.skip)))
  (.seq (.seq (.region [
     ⟨(some 3), .mv, [.c (.int .i64 0)], [], none⟩] [0, 3])
   (.block 0 (.loop (.seq (.seq (.region [
        ⟨(some 8), .mv, [.t 3], [], none⟩,
        ⟨(some 9), .mv, [.t 0], [], none⟩,
        ⟨(some 10), .len, [.t 9], [], none⟩,
        ⟨(some 11), (.bin .lss), [.t 8, .t 10], [], none⟩] [0, 3, 11])
      (.cond (.t 11)
       (.skip)
       (.exit 0)))
     (.seq (.block 1 (.seq (.region [
         ⟨(some 4), .mv, [.c (.int .i64 0)], [], none⟩] [0, 3, 4])
       (.block 2 (.loop (.seq (.seq (.region [
            ⟨(some 14), .mv, [.t 4], [], none⟩,
            ⟨(some 15), .mv, [.t 0], [], none⟩,
            ⟨(some 16), .mv, [.t 3], [], none⟩,
            ⟨(some 17), (.indexAddr 1), [.t 15, .t 16], [], none⟩,
            ⟨(some 18), (.load 1 false), [.t 17], [], none⟩,
            ⟨(some 19), .len, [.t 18], [], none⟩,
            ⟨(some 20), (.bin .lss), [.t 14, .t 19], [], none⟩] [0, 3, 4, 20])
          (.cond (.t 20)
           (.skip)
           (.exit 2)))
         (.seq (.block 3 (.seq (.region [
             ⟨(some 23), .mv, [.t 0], [], none⟩,
             ⟨(some 24), .mv, [.t 3], [], none⟩,
             ⟨(some 25), (.indexAddr 1), [.t 23, .t 24], [], none⟩,
             ⟨(some 26), (.load 1 false), [.t 25], [], none⟩,
             ⟨(some 27), .mv, [.t 4], [], none⟩,
             ⟨(some 28), (.indexAddr 1), [.t 26, .t 27], [], none⟩,
             ⟨(some 29), (.load 1 false), [.t 28], [], none⟩,
             ⟨(some 30), (.bin .lss), [.t 29, .c (.int .i64 0)], [], none⟩,
             ⟨(some 31), .mv, [.t 30], [], none⟩,
             ⟨(some 32), .mv, [.t 0], [], some (31, false)⟩,
             ⟨(some 33), .mv, [.t 3], [], some (31, false)⟩,
             ⟨(some 34), (.indexAddr 1), [.t 32, .t 33], [], some (31, false)⟩,
             ⟨(some 35), (.load 1 false), [.t 34], [], some (31, false)⟩,
             ⟨(some 36), .mv, [.t 4], [], some (31, false)⟩,
             ⟨(some 37), (.indexAddr 1), [.t 35, .t 36], [], some (31, false)⟩,
             ⟨(some 38), (.load 1 false), [.t 37], [], some (31, false)⟩,
             ⟨(some 39), .mv, [.t 0], [], some (31, false)⟩,
             ⟨(some 40), .len, [.t 39], [], some (31, false)⟩,
             ⟨(some 41), (.bin .geq), [.t 38, .t 40], [], some (31, false)⟩,
             ⟨(some 42), .pick, [.t 31, .c (.bool true), .t 41], [], none⟩] [0, 3, 4, 42])
           (.cond (.t 42)
            (.seq (.region [
              ⟨(some 2), .mv, [.c (.int .i64 1)], [], none⟩] [2])
            (.ret))
            (.skip))))
         (.region [
          ⟨(some 21), .mv, [.t 4], [], none⟩,
          ⟨(some 22), (.bin .add), [.t 21, .c (.int .i64 1)], [], none⟩,
          ⟨(some 4), .mv, [.t 22], [], none⟩] [0, 3, 4])))))))
     (.region [
      ⟨(some 12), .mv, [.t 3], [], none⟩,
      ⟨(some 13), (.bin .add), [.t 12, .c (.int .i64 1)], [], none⟩,
      ⟨(some 3), .mv, [.t 13], [], none⟩] [0, 3]))))))
  (.seq (.region [
    ⟨(some 2), .mv, [.c (.int .i64 0)], [], none⟩] [2])
  (.ret)))),
  [.tmp 2]⟩
/-- changeling/group.right -/
def v17 : VFunc := ⟨32,
  .seq (.region [
    ⟨(some 2), .mv, [.c (.int .i64 0)], [], none⟩] [0])
  (.seq (.seq (.region [
     ⟨(some 7), .mv, [.t 0], [], none⟩,
     ⟨(some 8), .len, [.t 7], [], none⟩,
     ⟨(some 9), (.bin .gtr), [.t 8, .c (.int .i64 2048)], [], none⟩] [0, 9])
   (.cond (.t 9)
    (.seq (.region [
      ⟨(some 2), .mv, [.c (.int .i64 2)], [], none⟩] [2])
    (.ret))
    (.skip)))
  (.seq (.seq (.region [
     ⟨(some 10), .mv, [.t 0], [], none⟩,
     ⟨(some 11), .len, [.t 10], [], none⟩,
     ⟨(some 12), .mv, [.c (.int .i64 0)], [], none⟩] [0, 10, 11, 12])
   (.block 0 (.loop (.seq (.region [
       ⟨(some 13), (.bin .lss), [.t 12, .t 11], [], none⟩] [0, 10, 11, 12, 13])
     (.seq (.cond (.t 13)
       (.skip)
       (.exit 0))
     (.seq (.block 1 (.seq (.region [
         ⟨(some 14), (.indexAddr 1), [.t 10, .t 12], [], none⟩,
         ⟨(some 15), (.load 1 false), [.t 14], [], none⟩,
         ⟨(some 4), .mv, [.t 15], [15], none⟩] [0, 4, 10, 11, 12])
       (.seq (.region [
         ⟨(some 16), .mv, [.t 4], [4], none⟩,
         ⟨(some 17), .len, [.t 16], [], none⟩,
         ⟨(some 18), .mv, [.c (.int .i64 0)], [], none⟩] [0, 10, 11, 12, 16, 17, 18])
       (.block 2 (.loop (.seq (.region [
           ⟨(some 19), (.bin .lss), [.t 18, .t 17], [], none⟩] [0, 10, 11, 12, 16, 17, 18, 19])
         (.seq (.cond (.t 19)
           (.skip)
           (.exit 2))
         (.seq (.block 3 (.seq (.region [
             ⟨(some 20), (.indexAddr 1), [.t 16, .t 18], [], none⟩,
             ⟨(some 21), (.load 1 false), [.t 20], [], none⟩,
             ⟨(some 6), .mv, [.t 21], [], none⟩] [0, 6, 10, 11, 12, 16, 17, 18])
           (.seq (.region [
             ⟨(some 22), .mv, [.t 6], [], none⟩,
             ⟨(some 23), (.bin .lss), [.t 22, .c (.int .i64 0)], [], none⟩,
             ⟨(some 24), .mv, [.t 23], [], none⟩,
             ⟨(some 25), .mv, [.t 6], [], some (24, false)⟩,
             ⟨(some 26), .mv, [.t 0], [], some (24, false)⟩,
             ⟨(some 27), .len, [.t 26], [], some (24, false)⟩,
             ⟨(some 28), (.bin .geq), [.t 25, .t 27], [], some (24, false)⟩,
             ⟨(some 29), .pick, [.t 24, .c (.bool true), .t 28], [], none⟩] [0, 10, 11, 12, 16, 17, 18, 29])
           (.cond (.t 29)
            (.seq (.region [
              ⟨(some 2), .mv, [.c (.int .i64 1)], [], none⟩] [2])
            (.ret))
            (.skip)))))
         (.region [
          ⟨(some 30), (.bin .add), [.t 18, .c (.int .i64 1)], [], none⟩,
          ⟨(some 18), .mv, [.t 30], [], none⟩] [0, 10, 11, 12, 16, 17, 18])))))))))
     (.region [
      ⟨(some 31), (.bin .add), [.t 12, .c (.int .i64 1)], [], none⟩,
      ⟨(some 12), .mv, [.t 31], [], none⟩] [0, 10, 11, 12])))))))
  (.seq (.region [
    ⟨(some 2), .mv, [.c (.int .i64 0)], [], none⟩] [2])
  (.ret)))),
  [.tmp 2]⟩
/-- changeling/group.find -/
def v18 : VFunc := ⟨45,
  .seq (.region [
    ⟨(some 2), .mv, [.c (.nilh 1)], [], none⟩,
    ⟨(some 3), .mv, [.c (.int .i64 0)], [], none⟩] [0])
  (.seq (.region [
    ⟨(some 7), .mv, [.t 0], [], none⟩,
    ⟨(some 8), .len, [.t 7], [], none⟩,
    ⟨(some 4), .mv, [.t 8], [], none⟩] [0, 4])
  (.seq (.region [
    ⟨(some 9), .mv, [.t 0], [], none⟩,
    ⟨(some 10), .mv, [.t 4], [], none⟩,
    ⟨(some 11), (.makeSl 1 8 [.int .i64 0]), [.t 10, .t 10], [], none⟩,
    ⟨(some 12), .mv, [.t 4], [], none⟩,
    ⟨(some 13), (.makeSl 1 8 [.int .i64 0]), [.t 12, .t 12], [], none⟩,
    ⟨(some 14), .mv, [.t 4], [], none⟩,
    ⟨(some 15), (.makeSl 1 1 [.bool false]), [.t 14, .t 14], [], none⟩,
    ⟨(some 16), .mv, [.t 4], [], none⟩,
    ⟨(some 17), (.makeSl 1 8 [.int .i64 0]), [.t 16, .t 16], [], none⟩,
    ⟨(some 18), (.build [.sl true 1 [], .nilh 1, .nilh 1, .nilh 1, .nilh 1, .nilh 1, .int .i64 0, .int .i64 0] [(0, 1), (1, 1), (2, 1), (4, 1), (5, 1)]), [.t 9, .t 11, .t 13, .t 15, .t 17], [9, 11, 13, 15, 17], none⟩,
    ⟨(some 19), .box, [.t 18], [18], none⟩,
    ⟨(some 5), .mv, [.t 19], [], none⟩] [0, 5])
  (.seq (.seq (.region [
     ⟨(some 20), .mv, [.t 0], [0], none⟩,
     ⟨(some 21), .len, [.t 20], [], none⟩,
     ⟨(some 22), .mv, [.c (.int .i64 0)], [], none⟩] [5, 21, 22])
   (.block 0 (.loop (.seq (.region [
       ⟨(some 23), (.bin .lss), [.t 22, .t 21], [], none⟩] [5, 21, 22, 23])
     (.seq (.cond (.t 23)
       (.skip)
       (.exit 0))
     (.seq (.block 1 (.seq (.region [
         ⟨(some 24), .mv, [.t 22], [], none⟩,
         ⟨(some 6), .mv, [.t 24], [], none⟩] [5, 6, 21, 22])
       (.seq (.region [
         ⟨(some 25), .mv, [.t 5], [], none⟩,
         ⟨(some 26), .nilCheck, [.t 25], [], none⟩,
         ⟨(some 27), (.fieldAddr 1), [.t 26], [], none⟩,
         ⟨(some 28), (.load 1 false), [.t 27], [], none⟩,
         ⟨(some 29), .mv, [.t 6], [], none⟩,
         ⟨(some 30), (.indexAddr 1), [.t 28, .t 29], [], none⟩,
         ⟨(some 31), (.load 1 false), [.t 30], [], none⟩,
         ⟨(some 32), (.bin .eql), [.t 31, .c (.int .i64 0)], [], none⟩] [5, 6, 21, 22, 32])
       (.cond (.t 32)
        (.region [
         ⟨(some 33), .mv, [.t 5], [], none⟩,
         ⟨(some 34), .mv, [.t 6], [], none⟩,
         ⟨(some 35), (.call false), [.c (.fn 23 []), .t 33, .t 34], [], none⟩] [5, 21, 22])
        (.skip)))))
     (.region [
      ⟨(some 36), (.bin .add), [.t 22, .c (.int .i64 1)], [], none⟩,
      ⟨(some 22), .mv, [.t 36], [], none⟩] [5, 21, 22])))))))
  (.seq (.region [
    ⟨(some 37), .mv, [.t 5], [], none⟩,
    ⟨(some 38), .nilCheck, [.t 37], [], none⟩,
    ⟨(some 39), (.fieldAddr 5), [.t 38], [], none⟩,
    ⟨(some 40), (.load 1 false), [.t 39], [], none⟩,
    ⟨(some 41), .mv, [.t 5], [], none⟩,
    ⟨(some 42), .nilCheck, [.t 41], [], none⟩,
    ⟨(some 43), (.fieldAddr 7), [.t 42], [], none⟩,
    ⟨(some 44), (.load 1 false), [.t 43], [], none⟩,
    ⟨(some 2), .mv, [.t 40], [40], none⟩,
    ⟨(some 3), .mv, [.t 44], [], none⟩] [2, 3])
  (.ret))))),
  [.tmp 2, .tmp 3]⟩
/-- changeling/group.ready -/
def v19 : VFunc := ⟨47,
  .seq (.region [
    ⟨(some 8), .mv, [.c (.int .i64 0)], [], none⟩] [0, 1, 2, 3])
  (.seq (.seq (.region [
     ⟨(some 11), .mv, [.t 0], [], none⟩,
     ⟨(some 12), .len, [.t 11], [], none⟩,
     ⟨(some 13), .mv, [.c (.int .i64 0)], [], none⟩] [0, 1, 2, 3, 12, 13])
   (.block 0 (.loop (.seq (.region [
       ⟨(some 14), (.bin .lss), [.t 13, .t 12], [], none⟩] [0, 1, 2, 3, 12, 13, 14])
     (.seq (.cond (.t 14)
       (.skip)
       (.exit 0))
     (.seq (.block 1 (.seq (.region [
         ⟨(some 15), .mv, [.t 13], [], none⟩,
         ⟨(some 9), .mv, [.t 15], [], none⟩] [0, 1, 2, 3, 9, 12, 13])
       (.seq (.region [
         ⟨(some 16), .mv, [.t 1], [], none⟩,
         ⟨(some 17), .mv, [.t 9], [], none⟩,
         ⟨(some 18), (.indexAddr 1), [.t 16, .t 17], [], none⟩,
         ⟨(some 19), (.load 1 false), [.t 18], [], none⟩,
         ⟨(some 10), .mv, [.t 19], [], none⟩] [0, 1, 2, 3, 9, 10, 12, 13])
       (.seq (.region [
         ⟨(some 20), .mv, [.t 3], [], none⟩,
         ⟨(some 21), .mv, [.t 10], [], none⟩,
         ⟨(some 22), (.indexAddr 1), [.t 20, .t 21], [], none⟩,
         ⟨(some 23), (.load 1 false), [.t 22], [], none⟩,
         ⟨(some 24), .not, [.t 23], [], none⟩,
         ⟨(some 25), .mv, [.t 24], [], none⟩,
         ⟨(some 26), .mv, [.t 2], [], some (25, true)⟩,
         ⟨(some 27), .mv, [.t 10], [], some (25, true)⟩,
         ⟨(some 28), (.indexAddr 1), [.t 26, .t 27], [], some (25, true)⟩,
         ⟨(some 29), (.load 1 false), [.t 28], [], some (25, true)⟩,
         ⟨(some 30), (.indexAddr 1), [.t 29, .c (.int .i64 0)], [], some (25, true)⟩,
         ⟨(some 31), (.load 1 false), [.t 30], [], some (25, true)⟩,
         ⟨(some 32), .mv, [.t 9], [], some (25, true)⟩,
         ⟨(some 33), (.bin .eql), [.t 31, .t 32], [], some (25, true)⟩,
         ⟨(some 34), .pick, [.t 25, .t 33, .c (.bool false)], [], none⟩,
         ⟨(some 35), .mv, [.t 34], [], none⟩,
         ⟨(some 36), .mv, [.t 0], [], some (35, true)⟩,
         ⟨(some 37), .mv, [.t 1], [], some (35, true)⟩,
         ⟨(some 38), .mv, [.t 2], [], some (35, true)⟩,
         ⟨(some 39), .mv, [.t 10], [], some (35, true)⟩,
         ⟨(some 40), (.indexAddr 1), [.t 38, .t 39], [], some (35, true)⟩,
         ⟨(some 41), (.load 1 false), [.t 40], [], some (35, true)⟩,
         ⟨(some 42), .mv, [.t 3], [], some (35, true)⟩,
         ⟨(some 43), (.call false), [.c (.fn 24 []), .t 36, .t 37, .t 41, .t 42], [36, 37, 41, 42], some (35, true)⟩,
         ⟨(some 44), .pick, [.t 35, .t 43, .c (.bool false)], [], none⟩] [0, 1, 2, 3, 10, 12, 13, 44])
       (.cond (.t 44)
        (.seq (.region [
          ⟨(some 45), .mv, [.t 10], [], none⟩,
          ⟨(some 8), .mv, [.t 45], [], none⟩] [8])
        (.ret))
        (.skip))))))
     (.region [
      ⟨(some 46), (.bin .add), [.t 13, .c (.int .i64 1)], [], none⟩,
      ⟨(some 13), .mv, [.t 46], [], none⟩] [0, 1, 2, 3, 12, 13])))))))
  (.seq (.region [
    ⟨(some 8), .mv, [.c (.int .i64 0)], [], none⟩] [8])
  (.ret))),
  [.tmp 8]⟩
/-- changeling/changelingref11.Needs -/
def v20 : VFunc := ⟨92,
  .seq (.region [
    ⟨(some 2), .mv, [.c (.nilh 1)], [], none⟩] [0])
  (.seq (.region [
    ⟨(some 10), .mv, [.t 0], [], none⟩,
    ⟨(some 11), .len, [.t 10], [], none⟩,
    ⟨(some 3), .mv, [.t 11], [], none⟩] [0, 3])
  (.seq (.region [
    ⟨(some 12), .mv, [.t 3], [], none⟩,
    ⟨(some 13), (.makeH 1 24 [.sl true 1 []]), [.t 12, .t 12], [], none⟩,
    ⟨(some 4), .thaw, [.t 13], [13], none⟩] [0, 3, 4])
  (.seq (.seq (.region [
     ⟨(some 5), .mv, [.c (.int .i64 0)], [], none⟩] [0, 3, 4, 5])
   (.block 0 (.loop (.seq (.seq (.region [
        ⟨(some 14), .mv, [.t 5], [], none⟩,
        ⟨(some 15), .mv, [.t 3], [], none⟩,
        ⟨(some 16), (.bin .lss), [.t 14, .t 15], [], none⟩] [0, 3, 4, 5, 16])
      (.cond (.t 16)
       (.skip)
       (.exit 0)))
     (.seq (.block 1 (.seq (.region [
         ⟨(some 19), .mv, [.t 4], [], none⟩,
         ⟨(some 20), .mv, [.t 5], [], none⟩,
         ⟨(some 21), .mv, [.t 3], [], none⟩,
         ⟨(some 22), (.makeH 1 1 [.bool false]), [.t 21, .t 21], [], none⟩,
         ⟨(some 23), (.indexAddr 1), [.t 19, .t 20], [], none⟩,
         ⟨none, (.store 1), [.t 23, .t 22], [22], none⟩] [0, 3, 4, 5])
       (.seq (.region [
         ⟨(some 6), .mv, [.c (.int .i64 0)], [], none⟩] [0, 3, 4, 5, 6])
       (.block 2 (.loop (.seq (.seq (.region [
            ⟨(some 24), .mv, [.t 6], [], none⟩,
            ⟨(some 25), .mv, [.t 0], [], none⟩,
            ⟨(some 26), .mv, [.t 5], [], none⟩,
            ⟨(some 27), (.indexAddr 1), [.t 25, .t 26], [], none⟩,
            ⟨(some 28), (.load 1 false), [.t 27], [], none⟩,
            ⟨(some 29), .len, [.t 28], [], none⟩,
            ⟨(some 30), (.bin .lss), [.t 24, .t 29], [], none⟩] [0, 3, 4, 5, 6, 30])
          (.cond (.t 30)
           (.skip)
           (.exit 2)))
         (.seq (.block 3 (.region [
            ⟨(some 33), .mv, [.t 4], [], none⟩,
            ⟨(some 34), .mv, [.t 5], [], none⟩,
            ⟨(some 35), (.indexAddr 1), [.t 33, .t 34], [], none⟩,
            ⟨(some 36), (.load 1 false), [.t 35], [], none⟩,
            ⟨(some 37), .mv, [.t 0], [], none⟩,
            ⟨(some 38), .mv, [.t 5], [], none⟩,
            ⟨(some 39), (.indexAddr 1), [.t 37, .t 38], [], none⟩,
            ⟨(some 40), (.load 1 false), [.t 39], [], none⟩,
            ⟨(some 41), .mv, [.t 6], [], none⟩,
            ⟨(some 42), (.indexAddr 1), [.t 40, .t 41], [], none⟩,
            ⟨(some 43), (.load 1 false), [.t 42], [], none⟩,
            ⟨(some 44), (.indexAddr 1), [.t 36, .t 43], [], none⟩,
            ⟨none, (.store 1), [.t 44, .c (.bool true)], [], none⟩] [0, 3, 4, 5, 6]))
         (.region [
          ⟨(some 31), .mv, [.t 6], [], none⟩,
          ⟨(some 32), (.bin .add), [.t 31, .c (.int .i64 1)], [], none⟩,
          ⟨(some 6), .mv, [.t 32], [], none⟩] [0, 3, 4, 5, 6]))))))))
     (.region [
      ⟨(some 17), .mv, [.t 5], [], none⟩,
      ⟨(some 18), (.bin .add), [.t 17, .c (.int .i64 1)], [], none⟩,
      ⟨(some 5), .mv, [.t 18], [], none⟩] [0, 3, 4, 5]))))))
  (.seq (.seq (.region [
     ⟨(some 7), .mv, [.c (.int .i64 0)], [], none⟩] [3, 4, 7])
   (.block 4 (.loop (.seq (.seq (.region [
        ⟨(some 45), .mv, [.t 7], [], none⟩,
        ⟨(some 46), .mv, [.t 3], [], none⟩,
        ⟨(some 47), (.bin .lss), [.t 45, .t 46], [], none⟩] [3, 4, 7, 47])
      (.cond (.t 47)
       (.skip)
       (.exit 4)))
     (.seq (.block 5 (.seq (.region [
         ⟨(some 8), .mv, [.c (.int .i64 0)], [], none⟩] [3, 4, 7, 8])
       (.block 6 (.loop (.seq (.seq (.region [
            ⟨(some 50), .mv, [.t 8], [], none⟩,
            ⟨(some 51), .mv, [.t 3], [], none⟩,
            ⟨(some 52), (.bin .lss), [.t 50, .t 51], [], none⟩] [3, 4, 7, 8, 52])
          (.cond (.t 52)
           (.skip)
           (.exit 6)))
         (.seq (.block 7 (.seq (.region [
             ⟨(some 9), .mv, [.c (.int .i64 0)], [], none⟩] [3, 4, 7, 8, 9])
           (.block 8 (.loop (.seq (.seq (.region [
                ⟨(some 55), .mv, [.t 9], [], none⟩,
                ⟨(some 56), .mv, [.t 3], [], none⟩,
                ⟨(some 57), (.bin .lss), [.t 55, .t 56], [], none⟩,
                ⟨(some 58), .mv, [.t 57], [], none⟩,
                ⟨(some 59), .mv, [.t 4], [], some (58, true)⟩,
                ⟨(some 60), .mv, [.t 8], [], some (58, true)⟩,
                ⟨(some 61), (.indexAddr 1), [.t 59, .t 60], [], some (58, true)⟩,
                ⟨(some 62), (.load 1 false), [.t 61], [], some (58, true)⟩,
                ⟨(some 63), .mv, [.t 7], [], some (58, true)⟩,
                ⟨(some 64), (.indexAddr 1), [.t 62, .t 63], [], some (58, true)⟩,
                ⟨(some 65), (.load 1 false), [.t 64], [], some (58, true)⟩,
                ⟨(some 66), .pick, [.t 58, .t 65, .c (.bool false)], [], none⟩] [3, 4, 7, 8, 9, 66])
              (.cond (.t 66)
               (.skip)
               (.exit 8)))
             (.seq (.block 9 (.region [
                ⟨(some 69), .mv, [.t 4], [], none⟩,
                ⟨(some 70), .mv, [.t 8], [], none⟩,
                ⟨(some 71), (.indexAddr 1), [.t 69, .t 70], [], none⟩,
                ⟨(some 72), (.load 1 false), [.t 71], [], none⟩,
                ⟨(some 73), .mv, [.t 9], [], none⟩,
                ⟨(some 74), .mv, [.t 4], [], none⟩,
                ⟨(some 75), .mv, [.t 8], [], none⟩,
                ⟨(some 76), (.indexAddr 1), [.t 74, .t 75], [], none⟩,
                ⟨(some 77), (.load 1 false), [.t 76], [], none⟩,
                ⟨(some 78), .mv, [.t 9], [], none⟩,
                ⟨(some 79), (.indexAddr 1), [.t 77, .t 78], [], none⟩,
                ⟨(some 80), (.load 1 false), [.t 79], [], none⟩,
                ⟨(some 81), .mv, [.t 80], [], none⟩,
                ⟨(some 82), .mv, [.t 4], [], some (81, false)⟩,
                ⟨(some 83), .mv, [.t 7], [], some (81, false)⟩,
                ⟨(some 84), (.indexAddr 1), [.t 82, .t 83], [], some (81, false)⟩,
                ⟨(some 85), (.load 1 false), [.t 84], [], some (81, false)⟩,
                ⟨(some 86), .mv, [.t 9], [], some (81, false)⟩,
                ⟨(some 87), (.indexAddr 1), [.t 85, .t 86], [], some (81, false)⟩,
                ⟨(some 88), (.load 1 false), [.t 87], [], some (81, false)⟩,
                ⟨(some 89), .pick, [.t 81, .c (.bool true), .t 88], [], none⟩,
                ⟨(some 90), (.indexAddr 1), [.t 72, .t 73], [], none⟩,
                ⟨none, (.store 1), [.t 90, .t 89], [], none⟩] [3, 4, 7, 8, 9]))
             (.region [
              ⟨(some 67), .mv, [.t 9], [], none⟩,
              ⟨(some 68), (.bin .add), [.t 67, .c (.int .i64 1)], [], none⟩,
              ⟨(some 9), .mv, [.t 68], [], none⟩] [3, 4, 7, 8, 9])))))))
         (.region [
          ⟨(some 53), .mv, [.t 8], [], none⟩,
          ⟨(some 54), (.bin .add), [.t 53, .c (.int .i64 1)], [], none⟩,
          ⟨(some 8), .mv, [.t 54], [], none⟩] [3, 4, 7, 8])))))))
     (.region [
      ⟨(some 48), .mv, [.t 7], [], none⟩,
      ⟨(some 49), (.bin .add), [.t 48, .c (.int .i64 1)], [], none⟩,
      ⟨(some 7), .mv, [.t 49], [], none⟩] [3, 4, 7]))))))
  (.seq (.region [
    ⟨(some 91), .mv, [.t 4], [4], none⟩,
    ⟨(some 2), .mv, [.t 91], [91], none⟩] [2])
  (.ret)))))),
  [.tmp 2]⟩
/-- changeling/changelingref11.group -/
def v21 : VFunc := ⟨39,
  .seq (.region [
    ⟨(some 4), .mv, [.c (.sl true 1 [])], [], none⟩] [0, 1])
  (.seq (.region [
    ⟨(some 5), .mv, [.c (.sl true 1 [])], [], none⟩] [0, 1, 5])
  (.seq (.seq (.region [
     ⟨(some 6), .mv, [.c (.int .i64 0)], [], none⟩] [0, 1, 5, 6])
   (.block 0 (.loop (.seq (.seq (.region [
        ⟨(some 7), .mv, [.t 6], [], none⟩,
        ⟨(some 8), .mv, [.t 0], [], none⟩,
        ⟨(some 9), .len, [.t 8], [], none⟩,
        ⟨(some 10), (.bin .lss), [.t 7, .t 9], [], none⟩] [0, 1, 5, 6, 10])
      (.cond (.t 10)
       (.skip)
       (.exit 0)))
     (.seq (.block 1 (.seq (.region [
         ⟨(some 13), .mv, [.t 6], [], none⟩,
         ⟨(some 14), .mv, [.t 1], [], none⟩,
         ⟨(some 15), (.bin .eql), [.t 13, .t 14], [], none⟩,
         ⟨(some 16), .mv, [.t 15], [], none⟩,
         ⟨(some 17), .mv, [.t 0], [], some (16, false)⟩,
         ⟨(some 18), .mv, [.t 6], [], some (16, false)⟩,
         ⟨(some 19), (.indexAddr 1), [.t 17, .t 18], [], some (16, false)⟩,
         ⟨(some 20), (.load 1 false), [.t 19], [], some (16, false)⟩,
         ⟨(some 21), .mv, [.t 1], [], some (16, false)⟩,
         ⟨(some 22), (.indexAddr 1), [.t 20, .t 21], [], some (16, false)⟩,
         ⟨(some 23), (.load 1 false), [.t 22], [], some (16, false)⟩,
         ⟨(some 24), .mv, [.t 23], [], some (16, false)⟩,
         ⟨(some 25), .mv, [.t 0], [], some (24, true)⟩,
         ⟨(some 26), .mv, [.t 1], [], some (24, true)⟩,
         ⟨(some 27), (.indexAddr 1), [.t 25, .t 26], [], some (24, true)⟩,
         ⟨(some 28), (.load 1 false), [.t 27], [], some (24, true)⟩,
         ⟨(some 29), .mv, [.t 6], [], some (24, true)⟩,
         ⟨(some 30), (.indexAddr 1), [.t 28, .t 29], [], some (24, true)⟩,
         ⟨(some 31), (.load 1 false), [.t 30], [], some (24, true)⟩,
         ⟨(some 32), .pick, [.t 24, .t 31, .c (.bool false)], [], some (16, false)⟩,
         ⟨(some 33), .pick, [.t 16, .c (.bool true), .t 32], [], none⟩] [0, 1, 5, 6, 33])
       (.cond (.t 33)
        (.region [
         ⟨(some 34), .mv, [.t 5], [5], none⟩,
         ⟨(some 35), .mv, [.t 6], [], none⟩,
         ⟨(some 36), (.buildSl 1), [.t 35], [], none⟩,
         ⟨(some 37), (.append 1 8), [.t 34, .t 36], [34], none⟩,
         ⟨(some 5), .mv, [.t 37], [37], none⟩] [0, 1, 5, 6])
        (.skip))))
     (.region [
      ⟨(some 11), .mv, [.t 6], [], none⟩,
      ⟨(some 12), (.bin .add), [.t 11, .c (.int .i64 1)], [], none⟩,
      ⟨(some 6), .mv, [.t 12], [], none⟩] [0, 1, 5, 6]))))))
  (.seq (.region [
    ⟨(some 38), .mv, [.t 5], [5], none⟩,
    ⟨(some 4), .mv, [.t 38], [38], none⟩] [4])
  (.ret)))),
  [.tmp 4]⟩
/-- changeling/changelingref11.ready -/
def v22 : VFunc := ⟨42,
  .seq (.region [
    ⟨(some 6), .mv, [.c (.bool false)], [], none⟩] [0, 1, 2])
  (.seq (.seq (.region [
     ⟨(some 7), .mv, [.c (.int .i64 0)], [], none⟩] [0, 1, 2, 7])
   (.block 0 (.loop (.seq (.seq (.region [
        ⟨(some 8), .mv, [.t 7], [], none⟩,
        ⟨(some 9), .mv, [.t 0], [], none⟩,
        ⟨(some 10), .len, [.t 9], [], none⟩,
        ⟨(some 11), (.bin .lss), [.t 8, .t 10], [], none⟩] [0, 1, 2, 7, 11])
      (.cond (.t 11)
       (.skip)
       (.exit 0)))
     (.seq (.block 1 (.seq (.region [
         ⟨(some 14), .mv, [.t 0], [], none⟩,
         ⟨(some 15), .mv, [.t 1], [], none⟩,
         ⟨(some 16), (.indexAddr 1), [.t 15, .c (.int .i64 0)], [], none⟩,
         ⟨(some 17), (.load 1 false), [.t 16], [], none⟩,
         ⟨(some 18), (.indexAddr 1), [.t 14, .t 17], [], none⟩,
         ⟨(some 19), (.load 1 false), [.t 18], [], none⟩,
         ⟨(some 20), .mv, [.t 7], [], none⟩,
         ⟨(some 21), (.indexAddr 1), [.t 19, .t 20], [], none⟩,
         ⟨(some 22), (.load 1 false), [.t 21], [], none⟩,
         ⟨(some 23), .mv, [.t 22], [], none⟩,
         ⟨(some 24), .mv, [.t 2], [], some (23, true)⟩,
         ⟨(some 25), .mv, [.t 7], [], some (23, true)⟩,
         ⟨(some 26), (.indexAddr 1), [.t 24, .t 25], [], some (23, true)⟩,
         ⟨(some 27), (.load 1 false), [.t 26], [], some (23, true)⟩,
         ⟨(some 28), .not, [.t 27], [], some (23, true)⟩,
         ⟨(some 29), .pick, [.t 23, .t 28, .c (.bool false)], [], none⟩,
         ⟨(some 30), .mv, [.t 29], [], none⟩,
         ⟨(some 31), .mv, [.t 0], [], some (30, true)⟩,
         ⟨(some 32), .mv, [.t 7], [], some (30, true)⟩,
         ⟨(some 33), (.indexAddr 1), [.t 31, .t 32], [], some (30, true)⟩,
         ⟨(some 34), (.load 1 false), [.t 33], [], some (30, true)⟩,
         ⟨(some 35), .mv, [.t 1], [], some (30, true)⟩,
         ⟨(some 36), (.indexAddr 1), [.t 35, .c (.int .i64 0)], [], some (30, true)⟩,
         ⟨(some 37), (.load 1 false), [.t 36], [], some (30, true)⟩,
         ⟨(some 38), (.indexAddr 1), [.t 34, .t 37], [], some (30, true)⟩,
         ⟨(some 39), (.load 1 false), [.t 38], [], some (30, true)⟩,
         ⟨(some 40), .not, [.t 39], [], some (30, true)⟩,
         ⟨(some 41), .pick, [.t 30, .t 40, .c (.bool false)], [], none⟩] [0, 1, 2, 7, 41])
       (.cond (.t 41)
        (.seq (.region [
          ⟨(some 6), .mv, [.c (.bool false)], [], none⟩] [6])
        (.ret))
        (.skip))))
     (.region [
      ⟨(some 12), .mv, [.t 7], [], none⟩,
      ⟨(some 13), (.bin .add), [.t 12, .c (.int .i64 1)], [], none⟩,
      ⟨(some 7), .mv, [.t 13], [], none⟩] [0, 1, 2, 7]))))))
  (.seq (.region [
    ⟨(some 6), .mv, [.c (.bool true)], [], none⟩] [6])
  (.ret))),
  [.tmp 6]⟩
/-- (*changeling/group.finder).look -/
def v23 : VFunc := ⟨154,
  .scope (.seq (.region [
     ⟨(some 10), .mv, [.t 0], [], none⟩,
     ⟨(some 11), .mv, [.t 1], [], none⟩,
     ⟨(some 12), (.call false), [.c (.fn 25 []), .t 10, .t 11], [], none⟩,
     ⟨(some 13), (.buildFr 2), [.t 12], [], none⟩,
     ⟨(some 4), .thaw, [.t 13], [13], none⟩] [0, 4])
   (.seq (.label)
   (.block 0 (.loop (.seq (.seq (.region [
        ⟨(some 14), .mv, [.t 4], [], none⟩,
        ⟨(some 15), .len, [.t 14], [], none⟩,
        ⟨(some 16), (.bin .gtr), [.t 15, .c (.int .i64 0)], [], none⟩] [0, 4, 16])
      (.cond (.t 16)
       (.skip)
       (.exit 0)))
     (.block 1 (.seq (.region [
        ⟨(some 17), .mv, [.t 4], [], none⟩,
        ⟨(some 18), .mv, [.t 4], [], none⟩,
        ⟨(some 19), .len, [.t 18], [], none⟩,
        ⟨(some 20), (.bin .sub), [.t 19, .c (.int .i64 1)], [], none⟩,
        ⟨(some 21), (.indexAddr 2), [.t 17, .t 20], [], none⟩,
        ⟨(some 5), .mv, [.t 21], [], none⟩] [0, 4, 5])
      (.seq (.block 2 (.loop (.seq (.seq (.region [
            ⟨(some 22), .mv, [.t 5], [], none⟩,
            ⟨(some 23), .nilCheck, [.t 22], [], none⟩,
            ⟨(some 24), (.fieldAddr 1), [.t 23], [], none⟩,
            ⟨(some 25), (.load 1 false), [.t 24], [], none⟩,
            ⟨(some 26), .mv, [.t 0], [], none⟩,
            ⟨(some 27), .nilCheck, [.t 26], [], none⟩,
            ⟨(some 28), (.fieldAddr 0), [.t 27], [], none⟩,
            ⟨(some 29), (.load 1 false), [.t 28], [], none⟩,
            ⟨(some 30), .mv, [.t 5], [], none⟩,
            ⟨(some 31), .nilCheck, [.t 30], [], none⟩,
            ⟨(some 32), (.fieldAddr 0), [.t 31], [], none⟩,
            ⟨(some 33), (.load 1 false), [.t 32], [], none⟩,
            ⟨(some 34), (.indexAddr 1), [.t 29, .t 33], [], none⟩,
            ⟨(some 35), (.load 1 false), [.t 34], [], none⟩,
            ⟨(some 36), .len, [.t 35], [], none⟩,
            ⟨(some 37), (.bin .lss), [.t 25, .t 36], [], none⟩] [0, 4, 5, 37])
          (.cond (.t 37)
           (.skip)
           (.exit 2)))
         (.block 3 (.seq (.region [
            ⟨(some 38), .mv, [.t 0], [], none⟩,
            ⟨(some 39), .nilCheck, [.t 38], [], none⟩,
            ⟨(some 40), (.fieldAddr 0), [.t 39], [], none⟩,
            ⟨(some 41), (.load 1 false), [.t 40], [], none⟩,
            ⟨(some 42), .mv, [.t 5], [], none⟩,
            ⟨(some 43), .nilCheck, [.t 42], [], none⟩,
            ⟨(some 44), (.fieldAddr 0), [.t 43], [], none⟩,
            ⟨(some 45), (.load 1 false), [.t 44], [], none⟩,
            ⟨(some 46), (.indexAddr 1), [.t 41, .t 45], [], none⟩,
            ⟨(some 47), (.load 1 false), [.t 46], [], none⟩,
            ⟨(some 48), .mv, [.t 5], [], none⟩,
            ⟨(some 49), .nilCheck, [.t 48], [], none⟩,
            ⟨(some 50), (.fieldAddr 1), [.t 49], [], none⟩,
            ⟨(some 51), (.load 1 false), [.t 50], [], none⟩,
            ⟨(some 52), (.indexAddr 1), [.t 47, .t 51], [], none⟩,
            ⟨(some 53), (.load 1 false), [.t 52], [], none⟩,
            ⟨(some 6), .mv, [.t 53], [], none⟩] [0, 4, 5, 6])
          (.seq (.region [
            ⟨(some 54), .mv, [.t 5], [], none⟩,
            ⟨(some 55), .nilCheck, [.t 54], [], none⟩,
            ⟨(some 56), (.fieldAddr 1), [.t 55], [], none⟩,
            ⟨(some 57), (.load 1 false), [.t 56], [], none⟩,
            ⟨(some 58), (.bin .add), [.t 57, .c (.int .i64 1)], [], none⟩,
            ⟨(some 59), .nilCheck, [.t 54], [], none⟩,
            ⟨(some 60), (.fieldAddr 1), [.t 59], [], none⟩,
            ⟨none, (.store 1), [.t 60, .t 58], [], none⟩] [0, 4, 5, 6])
          (.block 4 (.seq (.region [
             ⟨(some 62), .mv, [.t 0], [], none⟩,
             ⟨(some 63), .nilCheck, [.t 62], [], none⟩,
             ⟨(some 64), (.fieldAddr 1), [.t 63], [], none⟩,
             ⟨(some 65), (.load 1 false), [.t 64], [], none⟩,
             ⟨(some 66), .mv, [.t 6], [], none⟩,
             ⟨(some 67), (.indexAddr 1), [.t 65, .t 66], [], none⟩,
             ⟨(some 68), (.load 1 false), [.t 67], [], none⟩,
             ⟨(some 69), (.bin .eql), [.t 68, .c (.int .i64 0)], [], none⟩,
             ⟨(some 61), .mv, [.t 69], [], none⟩] [0, 4, 5, 6, 61])
           (.cond (.t 61)
            (.seq (.region [
              ⟨(some 70), .mv, [.t 4], [4], none⟩,
              ⟨(some 71), .mv, [.t 0], [], none⟩,
              ⟨(some 72), .mv, [.t 6], [], none⟩,
              ⟨(some 73), (.call false), [.c (.fn 25 []), .t 71, .t 72], [], none⟩,
              ⟨(some 74), (.buildSl 2), [.t 73], [], none⟩,
              ⟨(some 75), (.appendH 2 16), [.t 70, .t 74], [], none⟩,
              ⟨(some 4), .thaw, [.t 75], [75], none⟩] [0, 4])
            (.exit 1))
            (.seq (.region [
              ⟨(some 77), .mv, [.t 0], [], none⟩,
              ⟨(some 78), .nilCheck, [.t 77], [], none⟩,
              ⟨(some 79), (.fieldAddr 4), [.t 78], [], none⟩,
              ⟨(some 80), (.load 1 false), [.t 79], [], none⟩,
              ⟨(some 81), .mv, [.t 6], [], none⟩,
              ⟨(some 82), (.indexAddr 1), [.t 80, .t 81], [], none⟩,
              ⟨(some 83), (.load 1 false), [.t 82], [], none⟩,
              ⟨(some 76), .mv, [.t 83], [], none⟩] [0, 4, 5, 6, 76])
            (.cond (.t 76)
             (.region [
              ⟨(some 84), .mv, [.t 0], [], none⟩,
              ⟨(some 85), .nilCheck, [.t 84], [], none⟩,
              ⟨(some 86), (.fieldAddr 2), [.t 85], [], none⟩,
              ⟨(some 87), (.load 1 false), [.t 86], [], none⟩,
              ⟨(some 88), .mv, [.t 5], [], none⟩,
              ⟨(some 89), .nilCheck, [.t 88], [], none⟩,
              ⟨(some 90), (.fieldAddr 0), [.t 89], [], none⟩,
              ⟨(some 91), (.load 1 false), [.t 90], [], none⟩,
              ⟨(some 92), .mv, [.t 0], [], none⟩,
              ⟨(some 93), .nilCheck, [.t 92], [], none⟩,
              ⟨(some 94), (.fieldAddr 2), [.t 93], [], none⟩,
              ⟨(some 95), (.load 1 false), [.t 94], [], none⟩,
              ⟨(some 96), .mv, [.t 5], [], none⟩,
              ⟨(some 97), .nilCheck, [.t 96], [], none⟩,
              ⟨(some 98), (.fieldAddr 0), [.t 97], [], none⟩,
              ⟨(some 99), (.load 1 false), [.t 98], [], none⟩,
              ⟨(some 100), (.indexAddr 1), [.t 95, .t 99], [], none⟩,
              ⟨(some 101), (.load 1 false), [.t 100], [], none⟩,
              ⟨(some 102), .mv, [.t 0], [], none⟩,
              ⟨(some 103), .nilCheck, [.t 102], [], none⟩,
              ⟨(some 104), (.fieldAddr 1), [.t 103], [], none⟩,
              ⟨(some 105), (.load 1 false), [.t 104], [], none⟩,
              ⟨(some 106), .mv, [.t 6], [], none⟩,
              ⟨(some 107), (.indexAddr 1), [.t 105, .t 106], [], none⟩,
              ⟨(some 108), (.load 1 false), [.t 107], [], none⟩,
              ⟨(some 109), .min, [.t 101, .t 108], [], none⟩,
              ⟨(some 110), (.indexAddr 1), [.t 87, .t 91], [], none⟩,
              ⟨none, (.store 1), [.t 110, .t 109], [], none⟩] [0, 4, 5])
             (.skip))))))))))))
      (.seq (.region [
        ⟨(some 111), .mv, [.t 5], [], none⟩,
        ⟨(some 112), .nilCheck, [.t 111], [], none⟩,
        ⟨(some 113), (.fieldAddr 0), [.t 112], [], none⟩,
        ⟨(some 114), (.load 1 false), [.t 113], [], none⟩,
        ⟨(some 7), .mv, [.t 114], [], none⟩] [0, 4, 7])
      (.seq (.region [
        ⟨(some 115), .mv, [.t 4], [], none⟩,
        ⟨(some 116), .mv, [.t 4], [4], none⟩,
        ⟨(some 117), .len, [.t 116], [], none⟩,
        ⟨(some 118), (.bin .sub), [.t 117, .c (.int .i64 1)], [], none⟩,
        ⟨(some 119), (.slice false true 2), [.t 115, .t 118], [], none⟩,
        ⟨(some 4), .mv, [.t 119], [119], none⟩] [0, 4, 7])
      (.seq (.seq (.region [
         ⟨(some 120), .mv, [.t 4], [], none⟩,
         ⟨(some 121), .len, [.t 120], [], none⟩,
         ⟨(some 8), .mv, [.t 121], [], none⟩] [0, 4, 7, 8])
       (.seq (.region [
         ⟨(some 122), .mv, [.t 8], [], none⟩,
         ⟨(some 123), (.bin .gtr), [.t 122, .c (.int .i64 0)], [], none⟩] [0, 4, 7, 8, 123])
       (.cond (.t 123)
        (.seq (.region [
          ⟨(some 124), .mv, [.t 4], [], none⟩,
          ⟨(some 125), .mv, [.t 8], [], none⟩,
          ⟨(some 126), (.bin .sub), [.t 125, .c (.int .i64 1)], [], none⟩,
          ⟨(some 127), (.indexAddr 2), [.t 124, .t 126], [], none⟩,
          ⟨(some 128), (.fieldAddr 0), [.t 127], [], none⟩,
          ⟨(some 129), (.load 1 false), [.t 128], [], none⟩,
          ⟨(some 9), .mv, [.t 129], [], none⟩] [0, 4, 7, 9])
        (.region [
         ⟨(some 130), .mv, [.t 0], [], none⟩,
         ⟨(some 131), .nilCheck, [.t 130], [], none⟩,
         ⟨(some 132), (.fieldAddr 2), [.t 131], [], none⟩,
         ⟨(some 133), (.load 1 false), [.t 132], [], none⟩,
         ⟨(some 134), .mv, [.t 9], [], none⟩,
         ⟨(some 135), .mv, [.t 0], [], none⟩,
         ⟨(some 136), .nilCheck, [.t 135], [], none⟩,
         ⟨(some 137), (.fieldAddr 2), [.t 136], [], none⟩,
         ⟨(some 138), (.load 1 false), [.t 137], [], none⟩,
         ⟨(some 139), .mv, [.t 9], [], none⟩,
         ⟨(some 140), (.indexAddr 1), [.t 138, .t 139], [], none⟩,
         ⟨(some 141), (.load 1 false), [.t 140], [], none⟩,
         ⟨(some 142), .mv, [.t 0], [], none⟩,
         ⟨(some 143), .nilCheck, [.t 142], [], none⟩,
         ⟨(some 144), (.fieldAddr 2), [.t 143], [], none⟩,
         ⟨(some 145), (.load 1 false), [.t 144], [], none⟩,
         ⟨(some 146), .mv, [.t 7], [], none⟩,
         ⟨(some 147), (.indexAddr 1), [.t 145, .t 146], [], none⟩,
         ⟨(some 148), (.load 1 false), [.t 147], [], none⟩,
         ⟨(some 149), .min, [.t 141, .t 148], [], none⟩,
         ⟨(some 150), (.indexAddr 1), [.t 133, .t 134], [], none⟩,
         ⟨none, (.store 1), [.t 150, .t 149], [], none⟩] [0, 4, 7]))
        (.skip))))
      (.region [
       ⟨(some 151), .mv, [.t 0], [], none⟩,
       ⟨(some 152), .mv, [.t 7], [], none⟩,
       ⟨(some 153), (.call false), [.c (.fn 26 []), .t 151, .t 152], [], none⟩] [0, 4])))))))))))),
  []⟩
/-- changeling/group.needs -/
def v24 : VFunc := ⟨49,
  .seq (.region [
    ⟨(some 8), .mv, [.c (.bool false)], [], none⟩] [0, 1, 2, 3])
  (.seq (.seq (.region [
     ⟨(some 13), .mv, [.t 2], [2], none⟩,
     ⟨(some 14), .len, [.t 13], [], none⟩,
     ⟨(some 15), .mv, [.c (.int .i64 0)], [], none⟩] [0, 1, 3, 13, 14, 15])
   (.block 0 (.loop (.seq (.region [
       ⟨(some 16), (.bin .lss), [.t 15, .t 14], [], none⟩] [0, 1, 3, 13, 14, 15, 16])
     (.seq (.cond (.t 16)
       (.skip)
       (.exit 0))
     (.seq (.block 1 (.seq (.region [
         ⟨(some 17), (.indexAddr 1), [.t 13, .t 15], [], none⟩,
         ⟨(some 18), (.load 1 false), [.t 17], [], none⟩,
         ⟨(some 10), .mv, [.t 18], [], none⟩] [0, 1, 3, 10, 13, 14, 15])
       (.seq (.region [
         ⟨(some 19), .mv, [.t 0], [], none⟩,
         ⟨(some 20), .mv, [.t 10], [], none⟩,
         ⟨(some 21), (.indexAddr 1), [.t 19, .t 20], [], none⟩,
         ⟨(some 22), (.load 1 false), [.t 21], [], none⟩,
         ⟨(some 23), .len, [.t 22], [], none⟩,
         ⟨(some 24), .mv, [.c (.int .i64 0)], [], none⟩] [0, 1, 3, 10, 13, 14, 15, 22, 23, 24])
       (.block 2 (.loop (.seq (.region [
           ⟨(some 25), (.bin .lss), [.t 24, .t 23], [], none⟩] [0, 1, 3, 10, 13, 14, 15, 22, 23, 24, 25])
         (.seq (.cond (.t 25)
           (.skip)
           (.exit 2))
         (.seq (.block 3 (.seq (.region [
             ⟨(some 26), (.indexAddr 1), [.t 22, .t 24], [], none⟩,
             ⟨(some 27), (.load 1 false), [.t 26], [], none⟩,
             ⟨(some 12), .mv, [.t 27], [], none⟩] [0, 1, 3, 10, 12, 13, 14, 15, 22, 23, 24])
           (.seq (.region [
             ⟨(some 28), .mv, [.t 3], [], none⟩,
             ⟨(some 29), .mv, [.t 1], [], none⟩,
             ⟨(some 30), .mv, [.t 12], [], none⟩,
             ⟨(some 31), (.indexAddr 1), [.t 29, .t 30], [], none⟩,
             ⟨(some 32), (.load 1 false), [.t 31], [], none⟩,
             ⟨(some 33), (.indexAddr 1), [.t 28, .t 32], [], none⟩,
             ⟨(some 34), (.load 1 false), [.t 33], [], none⟩,
             ⟨(some 35), .not, [.t 34], [], none⟩,
             ⟨(some 36), .mv, [.t 35], [], none⟩,
             ⟨(some 37), .mv, [.t 1], [], some (36, true)⟩,
             ⟨(some 38), .mv, [.t 12], [], some (36, true)⟩,
             ⟨(some 39), (.indexAddr 1), [.t 37, .t 38], [], some (36, true)⟩,
             ⟨(some 40), (.load 1 false), [.t 39], [], some (36, true)⟩,
             ⟨(some 41), .mv, [.t 1], [], some (36, true)⟩,
             ⟨(some 42), .mv, [.t 10], [], some (36, true)⟩,
             ⟨(some 43), (.indexAddr 1), [.t 41, .t 42], [], some (36, true)⟩,
             ⟨(some 44), (.load 1 false), [.t 43], [], some (36, true)⟩,
             ⟨(some 45), (.bin .neq), [.t 40, .t 44], [], some (36, true)⟩,
             ⟨(some 46), .pick, [.t 36, .t 45, .c (.bool false)], [], none⟩] [0, 1, 3, 10, 13, 14, 15, 22, 23, 24, 46])
           (.cond (.t 46)
            (.seq (.region [
              ⟨(some 8), .mv, [.c (.bool false)], [], none⟩] [8])
            (.ret))
            (.skip)))))
         (.region [
          ⟨(some 47), (.bin .add), [.t 24, .c (.int .i64 1)], [], none⟩,
          ⟨(some 24), .mv, [.t 47], [], none⟩] [0, 1, 3, 10, 13, 14, 15, 22, 23, 24])))))))))
     (.region [
      ⟨(some 48), (.bin .add), [.t 15, .c (.int .i64 1)], [], none⟩,
      ⟨(some 15), .mv, [.t 48], [], none⟩] [0, 1, 3, 13, 14, 15])))))))
  (.seq (.region [
    ⟨(some 8), .mv, [.c (.bool true)], [], none⟩] [8])
  (.ret))),
  [.tmp 8]⟩
/-- (*changeling/group.finder).enter -/
def v25 : VFunc := ⟨50,
  .seq (.region [
    ⟨(some 4), (.alloc [.int .i64 0, .int .i64 0]), [], [], none⟩] [0, 1, 4])
  (.seq (.region [
    ⟨(some 5), .mv, [.t 0], [], none⟩,
    ⟨(some 6), .nilCheck, [.t 5], [], none⟩,
    ⟨(some 7), (.fieldAddr 6), [.t 6], [], none⟩,
    ⟨(some 8), (.load 1 false), [.t 7], [], none⟩,
    ⟨(some 9), (.bin .add), [.t 8, .c (.int .i64 1)], [], none⟩,
    ⟨(some 10), .nilCheck, [.t 5], [], none⟩,
    ⟨(some 11), (.fieldAddr 6), [.t 10], [], none⟩,
    ⟨none, (.store 1), [.t 11, .t 9], [], none⟩] [0, 1, 4])
  (.seq (.region [
    ⟨(some 12), .mv, [.t 0], [], none⟩,
    ⟨(some 13), .nilCheck, [.t 12], [], none⟩,
    ⟨(some 14), (.fieldAddr 1), [.t 13], [], none⟩,
    ⟨(some 15), (.load 1 false), [.t 14], [], none⟩,
    ⟨(some 16), .mv, [.t 1], [], none⟩,
    ⟨(some 17), .mv, [.t 0], [], none⟩,
    ⟨(some 18), .nilCheck, [.t 17], [], none⟩,
    ⟨(some 19), (.fieldAddr 2), [.t 18], [], none⟩,
    ⟨(some 20), (.load 1 false), [.t 19], [], none⟩,
    ⟨(some 21), .mv, [.t 1], [], none⟩,
    ⟨(some 22), .mv, [.t 0], [], none⟩,
    ⟨(some 23), .nilCheck, [.t 22], [], none⟩,
    ⟨(some 24), (.fieldAddr 6), [.t 23], [], none⟩,
    ⟨(some 25), (.load 1 false), [.t 24], [], none⟩,
    ⟨(some 26), .mv, [.t 0], [], none⟩,
    ⟨(some 27), .nilCheck, [.t 26], [], none⟩,
    ⟨(some 28), (.fieldAddr 6), [.t 27], [], none⟩,
    ⟨(some 29), (.load 1 false), [.t 28], [], none⟩,
    ⟨(some 30), (.indexAddr 1), [.t 15, .t 16], [], none⟩,
    ⟨none, (.store 1), [.t 30, .t 25], [], none⟩,
    ⟨(some 31), (.indexAddr 1), [.t 20, .t 21], [], none⟩,
    ⟨none, (.store 1), [.t 31, .t 29], [], none⟩] [0, 1, 4])
  (.seq (.region [
    ⟨(some 32), .mv, [.t 0], [], none⟩,
    ⟨(some 33), .mv, [.t 0], [], none⟩,
    ⟨(some 34), .nilCheck, [.t 33], [], none⟩,
    ⟨(some 35), (.fieldAddr 3), [.t 34], [], none⟩,
    ⟨(some 36), (.load 1 false), [.t 35], [], none⟩,
    ⟨(some 37), .mv, [.t 1], [], none⟩,
    ⟨(some 38), (.buildSl 1), [.t 37], [], none⟩,
    ⟨(some 39), (.appendH 1 8), [.t 36, .t 38], [], none⟩,
    ⟨(some 40), .nilCheck, [.t 32], [], none⟩,
    ⟨(some 41), (.fieldAddr 3), [.t 40], [], none⟩,
    ⟨none, (.store 1), [.t 41, .t 39], [39], none⟩] [0, 1, 4])
  (.seq (.region [
    ⟨(some 42), .mv, [.t 0], [], none⟩,
    ⟨(some 43), .nilCheck, [.t 42], [], none⟩,
    ⟨(some 44), (.fieldAddr 4), [.t 43], [], none⟩,
    ⟨(some 45), (.load 1 false), [.t 44], [], none⟩,
    ⟨(some 46), .mv, [.t 1], [], none⟩,
    ⟨(some 47), (.indexAddr 1), [.t 45, .t 46], [], none⟩,
    ⟨none, (.store 1), [.t 47, .c (.bool true)], [], none⟩] [1, 4])
  (.seq (.region [
    ⟨(some 48), .mv, [.t 1], [], none⟩,
    ⟨(some 49), (.build [.int .i64 0, .int .i64 0] [(0, 1)]), [.t 48], [], none⟩,
    ⟨none, (.store 2), [.t 4, .t 49], [], none⟩] [4])
  (.ret)))))),
  [.cell 4 2 true]⟩
/-- (*changeling/group.finder).leave -/
def v26 : VFunc := ⟨72,
  .seq (.seq (.region [
     ⟨(some 5), .mv, [.t 0], [], none⟩,
     ⟨(some 6), .nilCheck, [.t 5], [], none⟩,
     ⟨(some 7), (.fieldAddr 2), [.t 6], [], none⟩,
     ⟨(some 8), (.load 1 false), [.t 7], [], none⟩,
     ⟨(some 9), .mv, [.t 1], [], none⟩,
     ⟨(some 10), (.indexAddr 1), [.t 8, .t 9], [], none⟩,
     ⟨(some 11), (.load 1 false), [.t 10], [], none⟩,
     ⟨(some 12), .mv, [.t 0], [], none⟩,
     ⟨(some 13), .nilCheck, [.t 12], [], none⟩,
     ⟨(some 14), (.fieldAddr 1), [.t 13], [], none⟩,
     ⟨(some 15), (.load 1 false), [.t 14], [], none⟩,
     ⟨(some 16), .mv, [.t 1], [], none⟩,
     ⟨(some 17), (.indexAddr 1), [.t 15, .t 16], [], none⟩,
     ⟨(some 18), (.load 1 false), [.t 17], [], none⟩,
     ⟨(some 19), (.bin .neq), [.t 11, .t 18], [], none⟩] [0, 1, 19])
   (.cond (.t 19)
    (.ret)
    (.skip)))
  (.seq (.block 0 (.loop (.block 1 (.seq (.region [
        ⟨(some 20), .mv, [.t 0], [], none⟩,
        ⟨(some 21), .nilCheck, [.t 20], [], none⟩,
        ⟨(some 22), (.fieldAddr 3), [.t 21], [], none⟩,
        ⟨(some 23), (.load 1 false), [.t 22], [], none⟩,
        ⟨(some 24), .mv, [.t 0], [], none⟩,
        ⟨(some 25), .nilCheck, [.t 24], [], none⟩,
        ⟨(some 26), (.fieldAddr 3), [.t 25], [], none⟩,
        ⟨(some 27), (.load 1 false), [.t 26], [], none⟩,
        ⟨(some 28), .len, [.t 27], [], none⟩,
        ⟨(some 29), (.bin .sub), [.t 28, .c (.int .i64 1)], [], none⟩,
        ⟨(some 30), (.indexAddr 1), [.t 23, .t 29], [], none⟩,
        ⟨(some 31), (.load 1 false), [.t 30], [], none⟩,
        ⟨(some 4), .mv, [.t 31], [], none⟩] [0, 1, 4])
      (.seq (.region [
        ⟨(some 32), .mv, [.t 0], [], none⟩,
        ⟨(some 33), .mv, [.t 0], [], none⟩,
        ⟨(some 34), .nilCheck, [.t 33], [], none⟩,
        ⟨(some 35), (.fieldAddr 3), [.t 34], [], none⟩,
        ⟨(some 36), (.load 1 false), [.t 35], [], none⟩,
        ⟨(some 37), .mv, [.t 0], [], none⟩,
        ⟨(some 38), .nilCheck, [.t 37], [], none⟩,
        ⟨(some 39), (.fieldAddr 3), [.t 38], [], none⟩,
        ⟨(some 40), (.load 1 false), [.t 39], [], none⟩,
        ⟨(some 41), .len, [.t 40], [], none⟩,
        ⟨(some 42), (.bin .sub), [.t 41, .c (.int .i64 1)], [], none⟩,
        ⟨(some 43), (.slice false true 1), [.t 36, .t 42], [], none⟩,
        ⟨(some 44), .nilCheck, [.t 32], [], none⟩,
        ⟨(some 45), (.fieldAddr 3), [.t 44], [], none⟩,
        ⟨none, (.store 1), [.t 45, .t 43], [43], none⟩] [0, 1, 4])
      (.seq (.region [
        ⟨(some 46), .mv, [.t 0], [], none⟩,
        ⟨(some 47), .nilCheck, [.t 46], [], none⟩,
        ⟨(some 48), (.fieldAddr 4), [.t 47], [], none⟩,
        ⟨(some 49), (.load 1 false), [.t 48], [], none⟩,
        ⟨(some 50), .mv, [.t 4], [], none⟩,
        ⟨(some 51), (.indexAddr 1), [.t 49, .t 50], [], none⟩,
        ⟨none, (.store 1), [.t 51, .c (.bool false)], [], none⟩] [0, 1, 4])
      (.seq (.region [
        ⟨(some 52), .mv, [.t 0], [], none⟩,
        ⟨(some 53), .nilCheck, [.t 52], [], none⟩,
        ⟨(some 54), (.fieldAddr 5), [.t 53], [], none⟩,
        ⟨(some 55), (.load 1 false), [.t 54], [], none⟩,
        ⟨(some 56), .mv, [.t 4], [], none⟩,
        ⟨(some 57), .mv, [.t 0], [], none⟩,
        ⟨(some 58), .nilCheck, [.t 57], [], none⟩,
        ⟨(some 59), (.fieldAddr 7), [.t 58], [], none⟩,
        ⟨(some 60), (.load 1 false), [.t 59], [], none⟩,
        ⟨(some 61), (.indexAddr 1), [.t 55, .t 56], [], none⟩,
        ⟨none, (.store 1), [.t 61, .t 60], [], none⟩] [0, 1, 4])
      (.seq (.region [
        ⟨(some 62), .mv, [.t 4], [], none⟩,
        ⟨(some 63), .mv, [.t 1], [], none⟩,
        ⟨(some 64), (.bin .eql), [.t 62, .t 63], [], none⟩] [0, 1, 64])
      (.cond (.t 64)
       (.exit 0)
       (.skip))))))))))
  (.region [
   ⟨(some 65), .mv, [.t 0], [], none⟩,
   ⟨(some 66), .nilCheck, [.t 65], [], none⟩,
   ⟨(some 67), (.fieldAddr 7), [.t 66], [], none⟩,
   ⟨(some 68), (.load 1 false), [.t 67], [], none⟩,
   ⟨(some 69), (.bin .add), [.t 68, .c (.int .i64 1)], [], none⟩,
   ⟨(some 70), .nilCheck, [.t 65], [], none⟩,
   ⟨(some 71), (.fieldAddr 7), [.t 70], [], none⟩,
   ⟨none, (.store 1), [.t 71, .t 69], [], none⟩] [])),
  []⟩

def tab : List Entry := [⟨3, v3, false⟩, ⟨4, v4, false⟩, ⟨5, v5, false⟩, ⟨6, v6, false⟩, ⟨7, v7, false⟩, ⟨8, v8, false⟩, ⟨9, v9, false⟩, ⟨10, v10, false⟩, ⟨11, v11, false⟩, ⟨12, v12, false⟩, ⟨13, v13, false⟩, ⟨14, v14, false⟩, ⟨15, v15, false⟩, ⟨16, v16, false⟩, ⟨17, v17, false⟩, ⟨18, v18, false⟩, ⟨19, v19, false⟩, ⟨20, v20, false⟩, ⟨21, v21, false⟩, ⟨22, v22, false⟩, ⟨23, v23, true⟩, ⟨24, v24, false⟩, ⟨25, v25, true⟩, ⟨26, v26, true⟩]

theorem c3 : chkFn Try.prog 3 v3 = true := by kernel_rfl
theorem c4 : chkFn Try.prog 4 v4 = true := by kernel_rfl
theorem c5 : chkFn Try.prog 5 v5 = true := by kernel_rfl
theorem c6 : chkFn Try.prog 6 v6 = true := by kernel_rfl
theorem c7 : chkFn Try.prog 7 v7 = true := by kernel_rfl
theorem c8 : chkFn Try.prog 8 v8 = true := by kernel_rfl
theorem c9 : chkFn Try.prog 9 v9 = true := by kernel_rfl
theorem c10 : chkFn Try.prog 10 v10 = true := by kernel_rfl
theorem c11 : chkFn Try.prog 11 v11 = true := by kernel_rfl
theorem c12 : chkFn Try.prog 12 v12 = true := by kernel_rfl
theorem c13 : chkFn Try.prog 13 v13 = true := by kernel_rfl
theorem c14 : chkFn Try.prog 14 v14 = true := by kernel_rfl
theorem c15 : chkFn Try.prog 15 v15 = true := by kernel_rfl
theorem c16 : chkFn Try.prog 16 v16 = true := by kernel_rfl
theorem c17 : chkFn Try.prog 17 v17 = true := by kernel_rfl
theorem c18 : chkFn Try.prog 18 v18 = true := by kernel_rfl
theorem c19 : chkFn Try.prog 19 v19 = true := by kernel_rfl
theorem c20 : chkFn Try.prog 20 v20 = true := by kernel_rfl
theorem c21 : chkFn Try.prog 21 v21 = true := by kernel_rfl
theorem c22 : chkFn Try.prog 22 v22 = true := by kernel_rfl
theorem c23 : chkFn Try.prog 23 v23 = true := by kernel_rfl
theorem c24 : chkFn Try.prog 24 v24 = true := by kernel_rfl
theorem c25 : chkFn Try.prog 25 v25 = true := by kernel_rfl
theorem c26 : chkFn Try.prog 26 v26 = true := by kernel_rfl
theorem mix : Try.prog.follows .mixedOrders = true := by kernel_rfl
theorem tab_ok : tabOk Try.prog tab := by
  intro e h
  simp only [tab, List.mem_cons, List.not_mem_nil, or_false] at h
  rcases h with rfl | rfl | rfl | rfl | rfl | rfl | rfl | rfl | rfl | rfl | rfl | rfl | rfl | rfl | rfl | rfl | rfl | rfl | rfl | rfl | rfl | rfl | rfl | rfl
  · exact c3
  · exact c4
  · exact c5
  · exact c6
  · exact c7
  · exact c8
  · exact c9
  · exact c10
  · exact c11
  · exact c12
  · exact c13
  · exact c14
  · exact c15
  · exact c16
  · exact c17
  · exact c18
  · exact c19
  · exact c20
  · exact c21
  · exact c22
  · exact c23
  · exact c24
  · exact c25
  · exact c26

end Go.Proofs.Ytglemgdlkddjhaa.Vm
