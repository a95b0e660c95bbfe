/-
The program's functions, as the value machine has them.
The layout: what must come of fixed calls.
The value machine, part 25: what must hold ahead, so that this holds behind.
The value machine, part 26: code without loops, at one go.
The value machine, part 27: equations for what is done in the heap.
The value machine, part 28: functions that begin in an empty heap.
The value machine, part 29: functions that leave another heap behind.
The value machine, part 30: what is done without a heap is done beside every heap.
The value machine, part 24: a law's arguments stand for values; what a law answers.
The value machine, part 31: numbers and rows of numbers as a law is handed them.
-/
import Derived.Test.YtdmnacjpgaopfaaB1
import Derived.ChangeOld
import Derived.Below
import Derived.RowKit
import Derived.ChangeBook
import Derived.ChangeStays
import Derived.ChangeShapes
import Derived.SizedLaws
import Derived.WideShapes
namespace Go.Proofs.Ytdmnacjpgaopfaa.Vm
open Go

/-- changeling/changelinglaw04.LayoutLays -/
def v3 : VFunc := ⟨22,
  .seq (.region [
    ⟨(some 2), .mv, [.c (.bool false)], [], none⟩] [0])
  (.seq (.region [
    ⟨(some 6), .mv, [.t 0], [], none⟩,
    ⟨(some 7), (.call .wr), [.c (.fn 11 []), .t 6], [], none⟩,
    ⟨(some 5), .mv, [.t 7], [7], none⟩,
    ⟨(some 8), (.extract 0), [.t 5], [], none⟩,
    ⟨(some 9), (.extract 1), [.t 5], [5], none⟩,
    ⟨(some 4), (.alloc [.int .i64 0, .int .i64 0, .int .i64 0]), [], [], none⟩,
    ⟨(some 3), .mv, [.t 8], [8], none⟩,
    ⟨none, (.store 3), [.t 4, .t 9], [], none⟩] [3, 4])
  (.seq (.seq (.region [
     ⟨(some 10), (.fieldAddr 0), [.t 4], [], none⟩,
     ⟨(some 11), (.load 1 false), [.t 10], [], none⟩,
     ⟨(some 12), (.bin .neq), [.t 11, .c (.int .i64 0)], [], none⟩] [3, 12])
   (.cond (.t 12)
    (.seq (.region [
      ⟨(some 13), (.call .wr), [.c (.fn 12 [])], [], none⟩,
      ⟨(some 2), .mv, [.t 13], [], none⟩] [2])
    (.ret))
    (.skip)))
  (.seq (.region [
    ⟨(some 14), .mv, [.t 3], [], none⟩,
    ⟨(some 15), (.call .wr), [.c (.fn 14 []), .t 14], [14], none⟩,
    ⟨(some 16), .mv, [.t 3], [3], none⟩,
    ⟨(some 17), (.call .wr), [.c (.fn 15 []), .t 16], [16], none⟩,
    ⟨(some 18), (.call .wr), [.c (.fn 13 []), .t 15, .t 17], [15, 17], none⟩,
    ⟨(some 19), .mv, [.t 18], [], none⟩,
    ⟨(some 20), (.call .wr), [.c (.fn 12 [])], [], some (19, true)⟩,
    ⟨(some 21), .pick, [.t 19, .t 20, .c (.bool false)], [], none⟩,
    ⟨(some 2), .mv, [.t 21], [], none⟩] [2])
  (.ret)))),
  [.tmp 2]⟩
/-- changeling/changelinglaw04.LayoutRaw -/
def v4 : VFunc := ⟨47,
  .seq (.region [
    ⟨(some 2), .mv, [.c (.bool false)], [], none⟩] [0])
  (.seq (.seq (.region [
     ⟨(some 8), .mv, [.t 0], [], none⟩,
     ⟨(some 9), .len, [.t 8], [], none⟩,
     ⟨(some 10), (.bin .gtr), [.t 9, .c (.int .i64 3000)], [], none⟩] [0, 10])
   (.cond (.t 10)
    (.seq (.region [
      ⟨(some 11), (.call .wr), [.c (.fn 12 [])], [], none⟩,
      ⟨(some 2), .mv, [.t 11], [], none⟩] [2])
    (.ret))
    (.skip)))
  (.seq (.region [
    ⟨(some 12), .mv, [.t 0], [], none⟩,
    ⟨(some 13), (.call .wr), [.c (.fn 14 []), .t 12], [12], none⟩,
    ⟨(some 14), .mv, [.t 0], [], none⟩,
    ⟨(some 15), (.call .wr), [.c (.fn 15 []), .t 14], [14], none⟩,
    ⟨(some 3), .mv, [.t 13], [13], none⟩,
    ⟨(some 4), .mv, [.t 15], [15], none⟩] [0, 3, 4])
  (.seq (.region [
    ⟨(some 16), .mv, [.t 0], [], none⟩,
    ⟨(some 17), (.call .wr), [.c (.fn 16 []), .t 16], [16], none⟩,
    ⟨(some 5), .mv, [.t 17], [17], none⟩] [0, 3, 4, 5])
  (.seq (.seq (.region [
     ⟨(some 18), .mv, [.t 3], [3], none⟩,
     ⟨(some 19), .mv, [.t 4], [4], none⟩,
     ⟨(some 20), (.call .wr), [.c (.fn 13 []), .t 18, .t 19], [18, 19], none⟩,
     ⟨(some 21), .not, [.t 20], [], none⟩,
     ⟨(some 22), .mv, [.t 21], [], none⟩,
     ⟨(some 23), .mv, [.t 5], [], some (22, false)⟩,
     ⟨(some 24), .len, [.t 23], [], some (22, false)⟩,
     ⟨(some 25), .mv, [.t 0], [], some (22, false)⟩,
     ⟨(some 26), .len, [.t 25], [], some (22, false)⟩,
     ⟨(some 27), (.bin .neq), [.t 24, .t 26], [], some (22, false)⟩,
     ⟨(some 28), .pick, [.t 22, .c (.bool true), .t 27], [], none⟩] [0, 5, 28])
   (.cond (.t 28)
    (.seq (.region [
      ⟨(some 2), .mv, [.c (.bool false)], [], none⟩] [2])
    (.ret))
    (.skip)))
  (.seq (.seq (.region [
     ⟨(some 6), .mv, [.c (.int .i64 0)], [], none⟩] [0, 5, 6])
   (.block 0 (.loop (.seq (.seq (.region [
        ⟨(some 29), .mv, [.t 6], [], none⟩,
        ⟨(some 30), .mv, [.t 0], [], none⟩,
        ⟨(some 31), .len, [.t 30], [], none⟩,
        ⟨(some 32), (.bin .lss), [.t 29, .t 31], [], none⟩] [0, 5, 6, 32])
      (.cond (.t 32)
       (.skip)
       (.exit 0)))
     (.seq (.block 1 (.seq (.region [
         ⟨(some 35), .mv, [.t 0], [], none⟩,
         ⟨(some 36), .mv, [.t 6], [], none⟩,
         ⟨(some 37), (.indexAddr 6), [.t 35, .t 36], [], none⟩,
         ⟨(some 38), (.load 6 true), [.t 37], [], none⟩,
         ⟨(some 7), (.alloc [.int .i64 0, .str [], .int .i64 0, .int .i64 0, .int .i64 0, .bool false]), [], [], none⟩,
         ⟨none, (.store 6), [.t 7, .t 38], [], none⟩] [0, 5, 6, 7])
       (.seq (.region [
         ⟨(some 39), (.fieldAddr 5), [.t 7], [], none⟩,
         ⟨none, (.store 1), [.t 39, .c (.bool false)], [], none⟩] [0, 5, 6, 7])
       (.seq (.region [
         ⟨(some 40), .mv, [.t 5], [], none⟩,
         ⟨(some 41), .mv, [.t 6], [], none⟩,
         ⟨(some 42), (.indexAddr 6), [.t 40, .t 41], [], none⟩,
         ⟨(some 43), (.load 6 true), [.t 42], [], none⟩,
         ⟨(some 44), (.load 6 true), [.t 7], [], none⟩,
         ⟨(some 45), (.eqc true true [.i, .s, .i, .i, .i, .b]), [.t 43, .t 44], [], none⟩] [0, 5, 6, 45])
       (.cond (.t 45)
        (.seq (.region [
          ⟨(some 2), .mv, [.c (.bool false)], [], none⟩] [2])
        (.ret))
        (.skip))))))
     (.region [
      ⟨(some 33), .mv, [.t 6], [], none⟩,
      ⟨(some 34), (.bin .add), [.t 33, .c (.int .i64 1)], [], none⟩,
      ⟨(some 6), .mv, [.t 34], [], none⟩] [0, 5, 6]))))))
  (.seq (.region [
    ⟨(some 46), (.call .wr), [.c (.fn 12 [])], [], none⟩,
    ⟨(some 2), .mv, [.t 46], [], none⟩] [2])
  (.ret))))))),
  [.tmp 2]⟩
/-- changeling/changelinglaw04.LayoutKeeps -/
def v5 : VFunc := ⟨18,
  .seq (.region [
    ⟨(some 2), .mv, [.c (.bool false)], [], none⟩] [0])
  (.seq (.seq (.region [
     ⟨(some 4), .mv, [.t 0], [], none⟩,
     ⟨(some 5), .len, [.t 4], [], none⟩,
     ⟨(some 6), (.bin .gtr), [.t 5, .c (.int .i64 3000)], [], none⟩] [0, 6])
   (.cond (.t 6)
    (.seq (.region [
      ⟨(some 7), (.call .wr), [.c (.fn 12 [])], [], none⟩,
      ⟨(some 2), .mv, [.t 7], [], none⟩] [2])
    (.ret))
    (.skip)))
  (.seq (.region [
    ⟨(some 8), .mv, [.t 0], [0], none⟩,
    ⟨(some 9), (.call .wr), [.c (.fn 16 []), .t 8], [8], none⟩,
    ⟨(some 3), .mv, [.t 9], [9], none⟩] [3])
  (.seq (.region [
    ⟨(some 10), .mv, [.t 3], [], none⟩,
    ⟨(some 11), (.call .wr), [.c (.fn 14 []), .t 10], [10], none⟩,
    ⟨(some 12), (.call .wr), [.c (.fn 17 []), .t 11], [11], none⟩,
    ⟨(some 13), .mv, [.t 3], [3], none⟩,
    ⟨(some 14), (.call .wr), [.c (.fn 13 []), .t 12, .t 13], [12, 13], none⟩,
    ⟨(some 15), .mv, [.t 14], [], none⟩,
    ⟨(some 16), (.call .wr), [.c (.fn 12 [])], [], some (15, true)⟩,
    ⟨(some 17), .pick, [.t 15, .t 16, .c (.bool false)], [], none⟩,
    ⟨(some 2), .mv, [.t 17], [], none⟩] [2])
  (.ret)))),
  [.tmp 2]⟩
/-- changeling/changelinglaw04.LayoutPairs -/
def v6 : VFunc := ⟨90,
  .seq (.region [
    ⟨(some 2), .mv, [.c (.bool false)], [], none⟩] [0])
  (.seq (.seq (.region [
     ⟨(some 6), .mv, [.t 0], [], none⟩,
     ⟨(some 7), .len, [.t 6], [], none⟩,
     ⟨(some 8), (.bin .gtr), [.t 7, .c (.int .i64 3000)], [], none⟩] [0, 8])
   (.cond (.t 8)
    (.seq (.region [
      ⟨(some 9), (.call .wr), [.c (.fn 12 [])], [], none⟩,
      ⟨(some 2), .mv, [.t 9], [], none⟩] [2])
    (.ret))
    (.skip)))
  (.seq (.region [
    ⟨(some 10), .mv, [.t 0], [0], none⟩,
    ⟨(some 11), (.call .wr), [.c (.fn 16 []), .t 10], [10], none⟩,
    ⟨(some 12), (.call .wr), [.c (.fn 14 []), .t 11], [11], none⟩,
    ⟨(some 3), .mv, [.t 12], [12], none⟩] [3])
  (.seq (.region [
    ⟨(some 4), .mv, [.c (.int .i64 0)], [], none⟩] [3, 4])
  (.seq (.seq (.region [
     ⟨(some 5), .mv, [.c (.int .i64 0)], [], none⟩] [3, 4, 5])
   (.block 0 (.loop (.seq (.seq (.region [
        ⟨(some 13), .mv, [.t 5], [], none⟩,
        ⟨(some 14), .mv, [.t 3], [], none⟩,
        ⟨(some 15), .len, [.t 14], [], none⟩,
        ⟨(some 16), (.bin .lss), [.t 13, .t 15], [], none⟩] [3, 4, 5, 16])
      (.cond (.t 16)
       (.skip)
       (.exit 0)))
     (.seq (.block 1 (.seq (.seq (.region [
          ⟨(some 19), .mv, [.t 3], [], none⟩,
          ⟨(some 20), .mv, [.t 5], [], none⟩,
          ⟨(some 21), (.indexAddr 6), [.t 19, .t 20], [], none⟩,
          ⟨(some 22), (.fieldAddr 5), [.t 21], [], none⟩,
          ⟨(some 23), (.load 1 false), [.t 22], [], none⟩,
          ⟨(some 24), .not, [.t 23], [], none⟩] [3, 4, 5, 24])
        (.cond (.t 24)
         (.exit 1)
         (.skip)))
       (.seq (.seq (.region [
          ⟨(some 25), .mv, [.t 3], [], none⟩,
          ⟨(some 26), .mv, [.t 5], [], none⟩,
          ⟨(some 27), (.indexAddr 6), [.t 25, .t 26], [], none⟩,
          ⟨(some 28), (.fieldAddr 0), [.t 27], [], none⟩,
          ⟨(some 29), (.load 1 false), [.t 28], [], none⟩,
          ⟨(some 30), (.bin .neq), [.t 29, .c (.int .i64 5)], [], none⟩,
          ⟨(some 31), .mv, [.t 30], [], none⟩,
          ⟨(some 32), .mv, [.t 3], [], some (31, false)⟩,
          ⟨(some 33), .mv, [.t 5], [], some (31, false)⟩,
          ⟨(some 34), (.indexAddr 6), [.t 32, .t 33], [], some (31, false)⟩,
          ⟨(some 35), (.fieldAddr 1), [.t 34], [], some (31, false)⟩,
          ⟨(some 36), (.load 1 false), [.t 35], [], some (31, false)⟩,
          ⟨(some 37), (.bin .neq), [.t 36, .c (.str [123])], [], some (31, false)⟩,
          ⟨(some 38), .mv, [.t 37], [], some (31, false)⟩,
          ⟨(some 39), .mv, [.t 3], [], some (38, true)⟩,
          ⟨(some 40), .mv, [.t 5], [], some (38, true)⟩,
          ⟨(some 41), (.indexAddr 6), [.t 39, .t 40], [], some (38, true)⟩,
          ⟨(some 42), (.fieldAddr 1), [.t 41], [], some (38, true)⟩,
          ⟨(some 43), (.load 1 false), [.t 42], [], some (38, true)⟩,
          ⟨(some 44), (.bin .neq), [.t 43, .c (.str [125])], [], some (38, true)⟩,
          ⟨(some 45), .pick, [.t 38, .t 44, .c (.bool false)], [], some (31, false)⟩,
          ⟨(some 46), .mv, [.t 45], [], some (31, false)⟩,
          ⟨(some 47), .mv, [.t 3], [], some (46, true)⟩,
          ⟨(some 48), .mv, [.t 5], [], some (46, true)⟩,
          ⟨(some 49), (.indexAddr 6), [.t 47, .t 48], [], some (46, true)⟩,
          ⟨(some 50), (.fieldAddr 1), [.t 49], [], some (46, true)⟩,
          ⟨(some 51), (.load 1 false), [.t 50], [], some (46, true)⟩,
          ⟨(some 52), (.bin .neq), [.t 51, .c (.str [59])], [], some (46, true)⟩,
          ⟨(some 53), .pick, [.t 46, .t 52, .c (.bool false)], [], some (31, false)⟩,
          ⟨(some 54), .pick, [.t 31, .c (.bool true), .t 53], [], none⟩] [3, 4, 5, 54])
        (.cond (.t 54)
         (.seq (.region [
           ⟨(some 2), .mv, [.c (.bool false)], [], none⟩] [2])
         (.ret))
         (.skip)))
       (.seq (.seq (.region [
          ⟨(some 55), .mv, [.t 3], [], none⟩,
          ⟨(some 56), .mv, [.t 5], [], none⟩,
          ⟨(some 57), (.indexAddr 6), [.t 55, .t 56], [], none⟩,
          ⟨(some 58), (.fieldAddr 1), [.t 57], [], none⟩,
          ⟨(some 59), (.load 1 false), [.t 58], [], none⟩,
          ⟨(some 60), (.bin .eql), [.t 59, .c (.str [123])], [], none⟩] [3, 4, 5, 60])
        (.cond (.t 60)
         (.region [
          ⟨(some 61), .mv, [.t 4], [], none⟩,
          ⟨(some 62), (.bin .add), [.t 61, .c (.int .i64 1)], [], none⟩,
          ⟨(some 4), .mv, [.t 62], [], none⟩] [3, 4, 5])
         (.skip)))
       (.seq (.seq (.region [
          ⟨(some 63), .mv, [.t 3], [], none⟩,
          ⟨(some 64), .mv, [.t 5], [], none⟩,
          ⟨(some 65), (.indexAddr 6), [.t 63, .t 64], [], none⟩,
          ⟨(some 66), (.fieldAddr 1), [.t 65], [], none⟩,
          ⟨(some 67), (.load 1 false), [.t 66], [], none⟩,
          ⟨(some 68), (.bin .eql), [.t 67, .c (.str [125])], [], none⟩] [3, 4, 5, 68])
        (.cond (.t 68)
         (.region [
          ⟨(some 69), .mv, [.t 4], [], none⟩,
          ⟨(some 70), (.bin .sub), [.t 69, .c (.int .i64 1)], [], none⟩,
          ⟨(some 4), .mv, [.t 70], [], none⟩] [3, 4, 5])
         (.skip)))
       (.seq (.region [
         ⟨(some 71), .mv, [.t 4], [], none⟩,
         ⟨(some 72), (.bin .lss), [.t 71, .c (.int .i64 0)], [], none⟩,
         ⟨(some 73), .mv, [.t 72], [], none⟩,
         ⟨(some 74), .mv, [.t 3], [], some (73, false)⟩,
         ⟨(some 75), .mv, [.t 5], [], some (73, false)⟩,
         ⟨(some 76), (.indexAddr 6), [.t 74, .t 75], [], some (73, false)⟩,
         ⟨(some 77), (.fieldAddr 1), [.t 76], [], some (73, false)⟩,
         ⟨(some 78), (.load 1 false), [.t 77], [], some (73, false)⟩,
         ⟨(some 79), (.bin .eql), [.t 78, .c (.str [59])], [], some (73, false)⟩,
         ⟨(some 80), .mv, [.t 79], [], some (73, false)⟩,
         ⟨(some 81), .mv, [.t 4], [], some (80, true)⟩,
         ⟨(some 82), (.bin .eql), [.t 81, .c (.int .i64 0)], [], some (80, true)⟩,
         ⟨(some 83), .pick, [.t 80, .t 82, .c (.bool false)], [], some (73, false)⟩,
         ⟨(some 84), .pick, [.t 73, .c (.bool true), .t 83], [], none⟩] [3, 4, 5, 84])
       (.cond (.t 84)
        (.seq (.region [
          ⟨(some 2), .mv, [.c (.bool false)], [], none⟩] [2])
        (.ret))
        (.skip))))))))
     (.region [
      ⟨(some 17), .mv, [.t 5], [], none⟩,
      ⟨(some 18), (.bin .add), [.t 17, .c (.int .i64 1)], [], none⟩,
      ⟨(some 5), .mv, [.t 18], [], none⟩] [3, 4, 5]))))))
  (.seq (.region [
    ⟨(some 85), .mv, [.t 4], [], none⟩,
    ⟨(some 86), (.bin .eql), [.t 85, .c (.int .i64 0)], [], none⟩,
    ⟨(some 87), .mv, [.t 86], [], none⟩,
    ⟨(some 88), (.call .wr), [.c (.fn 12 [])], [], some (87, true)⟩,
    ⟨(some 89), .pick, [.t 87, .t 88, .c (.bool false)], [], none⟩,
    ⟨(some 2), .mv, [.t 89], [], none⟩] [2])
  (.ret)))))),
  [.tmp 2]⟩
/-- changeling/changelinglaw04.LayoutOnce -/
def v7 : VFunc := ⟨18,
  .seq (.region [
    ⟨(some 2), .mv, [.c (.bool false)], [], none⟩] [0])
  (.seq (.seq (.region [
     ⟨(some 4), .mv, [.t 0], [], none⟩,
     ⟨(some 5), .len, [.t 4], [], none⟩,
     ⟨(some 6), (.bin .gtr), [.t 5, .c (.int .i64 3000)], [], none⟩] [0, 6])
   (.cond (.t 6)
    (.seq (.region [
      ⟨(some 7), (.call .wr), [.c (.fn 12 [])], [], none⟩,
      ⟨(some 2), .mv, [.t 7], [], none⟩] [2])
    (.ret))
    (.skip)))
  (.seq (.region [
    ⟨(some 8), .mv, [.t 0], [0], none⟩,
    ⟨(some 9), (.call .wr), [.c (.fn 14 []), .t 8], [8], none⟩,
    ⟨(some 10), (.call .wr), [.c (.fn 16 []), .t 9], [9], none⟩,
    ⟨(some 3), .mv, [.t 10], [10], none⟩] [3])
  (.seq (.region [
    ⟨(some 11), .mv, [.t 3], [], none⟩,
    ⟨(some 12), (.call .wr), [.c (.fn 14 []), .t 11], [11], none⟩,
    ⟨(some 13), .mv, [.t 3], [3], none⟩,
    ⟨(some 14), (.call .wr), [.c (.fn 13 []), .t 12, .t 13], [12, 13], none⟩,
    ⟨(some 15), .mv, [.t 14], [], none⟩,
    ⟨(some 16), (.call .wr), [.c (.fn 12 [])], [], some (15, true)⟩,
    ⟨(some 17), .pick, [.t 15, .t 16, .c (.bool false)], [], none⟩,
    ⟨(some 2), .mv, [.t 17], [], none⟩] [2])
  (.ret)))),
  [.tmp 2]⟩
/-- changeling/changelinglaw04.LayoutBraces -/
def v8 : VFunc := ⟨19,
  .seq (.region [
    ⟨(some 2), .mv, [.c (.bool false)], [], none⟩] [0])
  (.seq (.seq (.region [
     ⟨(some 3), .mv, [.t 0], [], none⟩,
     ⟨(some 4), .len, [.t 3], [], none⟩,
     ⟨(some 5), (.bin .gtr), [.t 4, .c (.int .i64 3000)], [], none⟩,
     ⟨(some 6), .mv, [.t 5], [], none⟩,
     ⟨(some 7), .mv, [.t 0], [], some (6, false)⟩,
     ⟨(some 8), (.call .wr), [.c (.fn 18 []), .t 7], [7], some (6, false)⟩,
     ⟨(some 9), .not, [.t 8], [], some (6, false)⟩,
     ⟨(some 10), .pick, [.t 6, .c (.bool true), .t 9], [], none⟩] [0, 10])
   (.cond (.t 10)
    (.seq (.region [
      ⟨(some 11), (.call .wr), [.c (.fn 12 [])], [], none⟩,
      ⟨(some 2), .mv, [.t 11], [], none⟩] [2])
    (.ret))
    (.skip)))
  (.seq (.region [
    ⟨(some 12), .mv, [.t 0], [], none⟩,
    ⟨(some 13), (.call .wr), [.c (.fn 14 []), .t 12], [12], none⟩,
    ⟨(some 14), .mv, [.t 0], [0], none⟩,
    ⟨(some 15), (.call .wr), [.c (.fn 13 []), .t 13, .t 14], [13, 14], none⟩,
    ⟨(some 16), .mv, [.t 15], [], none⟩,
    ⟨(some 17), (.call .wr), [.c (.fn 12 [])], [], some (16, true)⟩,
    ⟨(some 18), .pick, [.t 16, .t 17, .c (.bool false)], [], none⟩,
    ⟨(some 2), .mv, [.t 18], [], none⟩] [2])
  (.ret))),
  [.tmp 2]⟩
/-- changeling/changelinglaw04.LayoutShift -/
def v9 : VFunc := ⟨101,
  .seq (.region [
    ⟨(some 4), .mv, [.c (.bool false)], [], none⟩] [0, 1])
  (.seq (.region [
    ⟨(some 14), .mv, [.t 0], [], none⟩,
    ⟨(some 15), (.call .wr), [.c (.fn 11 []), .t 14], [], none⟩,
    ⟨(some 13), .mv, [.t 15], [15], none⟩,
    ⟨(some 16), (.extract 0), [.t 13], [], none⟩,
    ⟨(some 17), (.extract 1), [.t 13], [13], none⟩,
    ⟨(some 6), (.alloc [.int .i64 0, .int .i64 0, .int .i64 0]), [], [], none⟩,
    ⟨(some 5), .mv, [.t 16], [16], none⟩,
    ⟨none, (.store 3), [.t 6, .t 17], [], none⟩] [1, 5, 6])
  (.seq (.seq (.region [
     ⟨(some 18), (.fieldAddr 0), [.t 6], [], none⟩,
     ⟨(some 19), (.load 1 false), [.t 18], [], none⟩,
     ⟨(some 20), (.bin .neq), [.t 19, .c (.int .i64 0)], [], none⟩,
     ⟨(some 21), .mv, [.t 20], [], none⟩,
     ⟨(some 22), .mv, [.t 1], [], some (21, false)⟩,
     ⟨(some 23), (.bin .lss), [.t 22, .c (.int .i64 0)], [], some (21, false)⟩,
     ⟨(some 24), .pick, [.t 21, .c (.bool true), .t 23], [], none⟩,
     ⟨(some 25), .mv, [.t 24], [], none⟩,
     ⟨(some 26), .mv, [.t 1], [], some (25, false)⟩,
     ⟨(some 27), (.bin .gtr), [.t 26, .c (.int .i64 1000)], [], some (25, false)⟩,
     ⟨(some 28), .pick, [.t 25, .c (.bool true), .t 27], [], none⟩] [1, 5, 28])
   (.cond (.t 28)
    (.seq (.region [
      ⟨(some 29), (.call .wr), [.c (.fn 12 [])], [], none⟩,
      ⟨(some 4), .mv, [.t 29], [], none⟩] [4])
    (.ret))
    (.skip)))
  (.seq (.region [
    ⟨(some 7), .mv, [.c (.sl true 6 [])], [], none⟩] [1, 5, 7])
  (.seq (.seq (.region [
     ⟨(some 8), .mv, [.c (.int .i64 0)], [], none⟩] [1, 5, 7, 8])
   (.block 0 (.loop (.seq (.seq (.region [
        ⟨(some 30), .mv, [.t 8], [], none⟩,
        ⟨(some 31), .mv, [.t 5], [], none⟩,
        ⟨(some 32), .len, [.t 31], [], none⟩,
        ⟨(some 33), (.bin .lss), [.t 30, .t 32], [], none⟩] [1, 5, 7, 8, 33])
      (.cond (.t 33)
       (.skip)
       (.exit 0)))
     (.seq (.block 1 (.seq (.region [
         ⟨(some 36), .mv, [.t 5], [], none⟩,
         ⟨(some 37), .mv, [.t 8], [], none⟩,
         ⟨(some 38), (.indexAddr 6), [.t 36, .t 37], [], none⟩,
         ⟨(some 39), (.load 6 true), [.t 38], [], none⟩,
         ⟨(some 9), (.alloc [.int .i64 0, .str [], .int .i64 0, .int .i64 0, .int .i64 0, .bool false]), [], [], none⟩,
         ⟨none, (.store 6), [.t 9, .t 39], [], none⟩] [1, 5, 7, 8, 9])
       (.seq (.region [
         ⟨(some 40), (.fieldAddr 3), [.t 9], [], none⟩,
         ⟨(some 41), (.fieldAddr 1), [.t 40], [], none⟩,
         ⟨(some 42), (.load 1 false), [.t 41], [], none⟩,
         ⟨(some 43), .mv, [.t 1], [], none⟩,
         ⟨(some 44), (.bin .add), [.t 42, .t 43], [], none⟩,
         ⟨(some 45), (.fieldAddr 3), [.t 9], [], none⟩,
         ⟨(some 46), (.fieldAddr 1), [.t 45], [], none⟩,
         ⟨none, (.store 1), [.t 46, .t 44], [], none⟩] [1, 5, 7, 8, 9])
       (.region [
        ⟨(some 47), .mv, [.t 7], [7], none⟩,
        ⟨(some 48), (.load 6 true), [.t 9], [], none⟩,
        ⟨(some 49), (.buildSl 6), [.t 48], [], none⟩,
        ⟨(some 50), (.append 6 56), [.t 47, .t 49], [47], none⟩,
        ⟨(some 7), .mv, [.t 50], [50], none⟩] [1, 5, 7, 8]))))
     (.region [
      ⟨(some 34), .mv, [.t 8], [], none⟩,
      ⟨(some 35), (.bin .add), [.t 34, .c (.int .i64 1)], [], none⟩,
      ⟨(some 8), .mv, [.t 35], [], none⟩] [1, 5, 7, 8]))))))
  (.seq (.region [
    ⟨(some 51), .mv, [.t 5], [], none⟩,
    ⟨(some 52), (.call .wr), [.c (.fn 14 []), .t 51], [51], none⟩,
    ⟨(some 53), .mv, [.t 7], [7], none⟩,
    ⟨(some 54), (.call .wr), [.c (.fn 14 []), .t 53], [53], none⟩,
    ⟨(some 10), .mv, [.t 52], [52], none⟩,
    ⟨(some 11), .mv, [.t 54], [54], none⟩] [1, 5, 10, 11])
  (.seq (.seq (.region [
     ⟨(some 55), .mv, [.t 10], [], none⟩,
     ⟨(some 56), .mv, [.t 11], [], none⟩,
     ⟨(some 57), (.call .wr), [.c (.fn 19 []), .t 55, .t 56], [55, 56], none⟩,
     ⟨(some 58), .not, [.t 57], [], none⟩] [1, 5, 10, 11, 58])
   (.cond (.t 58)
    (.seq (.region [
      ⟨(some 4), .mv, [.c (.bool false)], [], none⟩] [4])
    (.ret))
    (.skip)))
  (.seq (.seq (.region [
     ⟨(some 12), .mv, [.c (.int .i64 0)], [], none⟩] [1, 5, 10, 11, 12])
   (.block 2 (.loop (.seq (.seq (.region [
        ⟨(some 59), .mv, [.t 12], [], none⟩,
        ⟨(some 60), .mv, [.t 10], [], none⟩,
        ⟨(some 61), .len, [.t 60], [], none⟩,
        ⟨(some 62), (.bin .lss), [.t 59, .t 61], [], none⟩,
        ⟨(some 63), .mv, [.t 62], [], none⟩,
        ⟨(some 64), .mv, [.t 5], [], some (63, true)⟩,
        ⟨(some 65), .len, [.t 64], [], some (63, true)⟩,
        ⟨(some 66), (.bin .gtr), [.t 65, .c (.int .i64 0)], [], some (63, true)⟩,
        ⟨(some 67), .pick, [.t 63, .t 66, .c (.bool false)], [], none⟩] [1, 5, 10, 11, 12, 67])
      (.cond (.t 67)
       (.skip)
       (.exit 2)))
     (.seq (.block 3 (.seq (.region [
         ⟨(some 70), .mv, [.t 10], [], none⟩,
         ⟨(some 71), .mv, [.t 12], [], none⟩,
         ⟨(some 72), (.indexAddr 6), [.t 70, .t 71], [], none⟩,
         ⟨(some 73), (.fieldAddr 3), [.t 72], [], none⟩,
         ⟨(some 74), (.fieldAddr 0), [.t 73], [], none⟩,
         ⟨(some 75), (.load 1 false), [.t 74], [], none⟩,
         ⟨(some 76), .mv, [.t 11], [], none⟩,
         ⟨(some 77), .mv, [.t 12], [], none⟩,
         ⟨(some 78), (.indexAddr 6), [.t 76, .t 77], [], none⟩,
         ⟨(some 79), (.fieldAddr 3), [.t 78], [], none⟩,
         ⟨(some 80), (.fieldAddr 0), [.t 79], [], none⟩,
         ⟨(some 81), (.load 1 false), [.t 80], [], none⟩,
         ⟨(some 82), (.bin .neq), [.t 75, .t 81], [], none⟩,
         ⟨(some 83), .mv, [.t 82], [], none⟩,
         ⟨(some 84), .mv, [.t 10], [], some (83, false)⟩,
         ⟨(some 85), .mv, [.t 12], [], some (83, false)⟩,
         ⟨(some 86), (.indexAddr 6), [.t 84, .t 85], [], some (83, false)⟩,
         ⟨(some 87), (.fieldAddr 3), [.t 86], [], some (83, false)⟩,
         ⟨(some 88), (.fieldAddr 1), [.t 87], [], some (83, false)⟩,
         ⟨(some 89), (.load 1 false), [.t 88], [], some (83, false)⟩,
         ⟨(some 90), .mv, [.t 11], [], some (83, false)⟩,
         ⟨(some 91), .mv, [.t 12], [], some (83, false)⟩,
         ⟨(some 92), (.indexAddr 6), [.t 90, .t 91], [], some (83, false)⟩,
         ⟨(some 93), (.fieldAddr 3), [.t 92], [], some (83, false)⟩,
         ⟨(some 94), (.fieldAddr 1), [.t 93], [], some (83, false)⟩,
         ⟨(some 95), (.load 1 false), [.t 94], [], some (83, false)⟩,
         ⟨(some 96), .mv, [.t 1], [], some (83, false)⟩,
         ⟨(some 97), (.bin .sub), [.t 95, .t 96], [], some (83, false)⟩,
         ⟨(some 98), (.bin .neq), [.t 89, .t 97], [], some (83, false)⟩,
         ⟨(some 99), .pick, [.t 83, .c (.bool true), .t 98], [], none⟩] [1, 5, 10, 11, 12, 99])
       (.cond (.t 99)
        (.seq (.region [
          ⟨(some 4), .mv, [.c (.bool false)], [], none⟩] [4])
        (.ret))
        (.skip))))
     (.region [
      ⟨(some 68), .mv, [.t 12], [], none⟩,
      ⟨(some 69), (.bin .add), [.t 68, .c (.int .i64 1)], [], none⟩,
      ⟨(some 12), .mv, [.t 69], [], none⟩] [1, 5, 10, 11, 12]))))))
  (.seq (.region [
    ⟨(some 100), (.call .wr), [.c (.fn 12 [])], [], none⟩,
    ⟨(some 4), .mv, [.t 100], [], none⟩] [4])
  (.ret))))))))),
  [.tmp 4]⟩
/-- changeling/changelinglaw04.LayoutLines -/
def v10 : VFunc := ⟨88,
  .seq (.region [
    ⟨(some 4), .mv, [.c (.bool false)], [], none⟩] [0, 1])
  (.seq (.seq (.region [
     ⟨(some 9), .mv, [.t 0], [], none⟩,
     ⟨(some 10), (.bin .lss), [.t 9, .c (.int .i64 1)], [], none⟩,
     ⟨(some 11), .mv, [.t 10], [], none⟩,
     ⟨(some 12), .mv, [.t 0], [], some (11, false)⟩,
     ⟨(some 13), (.bin .gtr), [.t 12, .c (.int .i64 500)], [], some (11, false)⟩,
     ⟨(some 14), .pick, [.t 11, .c (.bool true), .t 13], [], none⟩,
     ⟨(some 15), .mv, [.t 14], [], none⟩,
     ⟨(some 16), .mv, [.t 1], [], some (15, false)⟩,
     ⟨(some 17), (.bin .lss), [.t 16, .c (.int .i64 1)], [], some (15, false)⟩,
     ⟨(some 18), .pick, [.t 15, .c (.bool true), .t 17], [], none⟩,
     ⟨(some 19), .mv, [.t 18], [], none⟩,
     ⟨(some 20), .mv, [.t 1], [], some (19, false)⟩,
     ⟨(some 21), (.bin .gtr), [.t 20, .c (.int .i64 100)], [], some (19, false)⟩,
     ⟨(some 22), .pick, [.t 19, .c (.bool true), .t 21], [], none⟩] [0, 1, 22])
   (.cond (.t 22)
    (.seq (.region [
      ⟨(some 23), (.call .wr), [.c (.fn 12 [])], [], none⟩,
      ⟨(some 4), .mv, [.t 23], [], none⟩] [4])
    (.ret))
    (.skip)))
  (.seq (.region [
    ⟨(some 5), .mv, [.c (.sl true 6 [])], [], none⟩] [0, 1, 5])
  (.seq (.seq (.region [
     ⟨(some 6), .mv, [.c (.int .i64 0)], [], none⟩] [0, 1, 5, 6])
   (.block 0 (.loop (.seq (.seq (.region [
        ⟨(some 24), .mv, [.t 6], [], none⟩,
        ⟨(some 25), .mv, [.t 0], [], none⟩,
        ⟨(some 26), (.bin .lss), [.t 24, .t 25], [], none⟩] [0, 1, 5, 6, 26])
      (.cond (.t 26)
       (.skip)
       (.exit 0)))
     (.seq (.block 1 (.region [
        ⟨(some 29), .mv, [.t 5], [5], none⟩,
        ⟨(some 30), .mv, [.t 6], [], none⟩,
        ⟨(some 31), (.bin .add), [.t 30, .c (.int .i64 1)], [], none⟩,
        ⟨(some 32), .mv, [.t 1], [], none⟩,
        ⟨(some 33), (.build [.int .i64 0, .int .i64 0] [(0, 1), (1, 1)]), [.t 31, .t 32], [], none⟩,
        ⟨(some 34), (.build [.int .i64 0, .str [], .int .i64 0, .int .i64 0, .int .i64 0, .bool false] [(0, 1), (1, 1), (3, 2)]), [.c (.int .i64 1), .c (.str [120]), .t 33], [], none⟩,
        ⟨(some 35), (.buildSl 6), [.t 34], [], none⟩,
        ⟨(some 36), (.append 6 56), [.t 29, .t 35], [29], none⟩,
        ⟨(some 5), .mv, [.t 36], [36], none⟩] [0, 1, 5, 6]))
     (.region [
      ⟨(some 27), .mv, [.t 6], [], none⟩,
      ⟨(some 28), (.bin .add), [.t 27, .c (.int .i64 1)], [], none⟩,
      ⟨(some 6), .mv, [.t 28], [], none⟩] [0, 1, 5, 6]))))))
  (.seq (.region [
    ⟨(some 37), .mv, [.t 5], [5], none⟩,
    ⟨(some 38), (.call .wr), [.c (.fn 14 []), .t 37], [37], none⟩,
    ⟨(some 7), .mv, [.t 38], [38], none⟩] [0, 7])
  (.seq (.seq (.region [
     ⟨(some 39), .mv, [.t 7], [], none⟩,
     ⟨(some 40), .len, [.t 39], [], none⟩,
     ⟨(some 41), .mv, [.t 0], [], none⟩,
     ⟨(some 42), (.bin .mul), [.c (.int .i64 2), .t 41], [], none⟩,
     ⟨(some 43), (.bin .add), [.t 42, .c (.int .i64 1)], [], none⟩,
     ⟨(some 44), (.bin .neq), [.t 40, .t 43], [], none⟩,
     ⟨(some 45), .mv, [.t 44], [], none⟩,
     ⟨(some 46), .mv, [.t 7], [], some (45, false)⟩,
     ⟨(some 47), (.indexAddr 6), [.t 46, .c (.int .i64 0)], [], some (45, false)⟩,
     ⟨(some 48), (.fieldAddr 1), [.t 47], [], some (45, false)⟩,
     ⟨(some 49), (.load 1 false), [.t 48], [], some (45, false)⟩,
     ⟨(some 50), (.bin .neq), [.t 49, .c (.str [123])], [], some (45, false)⟩,
     ⟨(some 51), .pick, [.t 45, .c (.bool true), .t 50], [], none⟩,
     ⟨(some 52), .mv, [.t 51], [], none⟩,
     ⟨(some 53), .mv, [.t 7], [], some (52, false)⟩,
     ⟨(some 54), .mv, [.t 0], [], some (52, false)⟩,
     ⟨(some 55), (.bin .mul), [.c (.int .i64 2), .t 54], [], some (52, false)⟩,
     ⟨(some 56), (.indexAddr 6), [.t 53, .t 55], [], some (52, false)⟩,
     ⟨(some 57), (.fieldAddr 1), [.t 56], [], some (52, false)⟩,
     ⟨(some 58), (.load 1 false), [.t 57], [], some (52, false)⟩,
     ⟨(some 59), (.bin .neq), [.t 58, .c (.str [125])], [], some (52, false)⟩,
     ⟨(some 60), .pick, [.t 52, .c (.bool true), .t 59], [], none⟩] [0, 7, 60])
   (.cond (.t 60)
    (.seq (.region [
      ⟨(some 4), .mv, [.c (.bool false)], [], none⟩] [4])
    (.ret))
    (.skip)))
  (.seq (.seq (.region [
     ⟨(some 8), .mv, [.c (.int .i64 0)], [], none⟩] [0, 7, 8])
   (.block 2 (.loop (.seq (.seq (.region [
        ⟨(some 61), .mv, [.t 8], [], none⟩,
        ⟨(some 62), .mv, [.t 0], [], none⟩,
        ⟨(some 63), (.bin .lss), [.t 61, .t 62], [], none⟩] [0, 7, 8, 63])
      (.cond (.t 63)
       (.skip)
       (.exit 2)))
     (.seq (.block 3 (.seq (.region [
         ⟨(some 66), .mv, [.t 7], [], none⟩,
         ⟨(some 67), .mv, [.t 8], [], none⟩,
         ⟨(some 68), (.bin .mul), [.c (.int .i64 2), .t 67], [], none⟩,
         ⟨(some 69), (.bin .add), [.t 68, .c (.int .i64 1)], [], none⟩,
         ⟨(some 70), (.indexAddr 6), [.t 66, .t 69], [], none⟩,
         ⟨(some 71), (.fieldAddr 1), [.t 70], [], none⟩,
         ⟨(some 72), (.load 1 false), [.t 71], [], none⟩,
         ⟨(some 73), (.bin .neq), [.t 72, .c (.str [120])], [], none⟩,
         ⟨(some 74), .mv, [.t 73], [], none⟩,
         ⟨(some 75), .mv, [.t 8], [], some (74, false)⟩,
         ⟨(some 76), (.bin .gtr), [.t 75, .c (.int .i64 0)], [], some (74, false)⟩,
         ⟨(some 77), .mv, [.t 76], [], some (74, false)⟩,
         ⟨(some 78), .mv, [.t 7], [], some (77, true)⟩,
         ⟨(some 79), .mv, [.t 8], [], some (77, true)⟩,
         ⟨(some 80), (.bin .mul), [.c (.int .i64 2), .t 79], [], some (77, true)⟩,
         ⟨(some 81), (.indexAddr 6), [.t 78, .t 80], [], some (77, true)⟩,
         ⟨(some 82), (.fieldAddr 1), [.t 81], [], some (77, true)⟩,
         ⟨(some 83), (.load 1 false), [.t 82], [], some (77, true)⟩,
         ⟨(some 84), (.bin .neq), [.t 83, .c (.str [59])], [], some (77, true)⟩,
         ⟨(some 85), .pick, [.t 77, .t 84, .c (.bool false)], [], some (74, false)⟩,
         ⟨(some 86), .pick, [.t 74, .c (.bool true), .t 85], [], none⟩] [0, 7, 8, 86])
       (.cond (.t 86)
        (.seq (.region [
          ⟨(some 4), .mv, [.c (.bool false)], [], none⟩] [4])
        (.ret))
        (.skip))))
     (.region [
      ⟨(some 64), .mv, [.t 8], [], none⟩,
      ⟨(some 65), (.bin .add), [.t 64, .c (.int .i64 1)], [], none⟩,
      ⟨(some 8), .mv, [.t 65], [], none⟩] [0, 7, 8]))))))
  (.seq (.region [
    ⟨(some 87), (.call .wr), [.c (.fn 12 [])], [], none⟩,
    ⟨(some 4), .mv, [.t 87], [], none⟩] [4])
  (.ret)))))))),
  [.tmp 4]⟩
/-- changeling/lex.Tokens -/
def v11 : VFunc := ⟨49,
  .seq (.region [
    ⟨(some 2), .mv, [.c (.sl true 6 [])], [], none⟩,
    ⟨(some 3), (.alloc [.int .i64 0, .int .i64 0, .int .i64 0]), [], [], none⟩] [0, 3])
  (.seq (.region [
    ⟨(some 10), (.build [.int .i64 0, .int .i64 0] [(0, 1), (1, 1)]), [.c (.int .i64 1), .c (.int .i64 1)], [], none⟩,
    ⟨(some 4), (.alloc [.int .i64 0, .int .i64 0]), [], [], none⟩,
    ⟨none, (.store 2), [.t 4, .t 10], [], none⟩] [0, 3, 4])
  (.seq (.seq (.region [
     ⟨(some 11), .mv, [.t 0], [], none⟩,
     ⟨(some 12), .lenStr, [.t 11], [], none⟩,
     ⟨(some 13), (.bin .gtr), [.t 12, .c (.int .i64 8192)], [], none⟩] [0, 3, 4, 13])
   (.cond (.t 13)
    (.seq (.region [
      ⟨(some 14), (.load 2 true), [.t 4], [], none⟩,
      ⟨(some 15), (.build [.int .i64 0, .int .i64 0, .int .i64 0] [(0, 1), (1, 2)]), [.c (.int .i64 2), .t 14], [], none⟩,
      ⟨(some 2), .mv, [.c (.sl true 6 [])], [], none⟩,
      ⟨none, (.store 3), [.t 3, .t 15], [], none⟩] [2, 3])
    (.ret))
    (.skip)))
  (.seq (.region [
    ⟨(some 16), .mv, [.t 0], [], none⟩,
    ⟨(some 17), (.load 2 true), [.t 4], [], none⟩,
    ⟨(some 18), (.build [.str [], .int .i64 0, .int .i64 0, .int .i64 0] [(0, 1), (2, 2)]), [.t 16, .t 17], [], none⟩,
    ⟨(some 19), .box, [.t 18], [], none⟩,
    ⟨(some 5), .mv, [.t 19], [], none⟩] [3, 5])
  (.seq (.region [
    ⟨(some 6), .mv, [.c (.sl true 6 [])], [], none⟩] [3, 5, 6])
  (.seq (.block 0 (.loop (.seq (.seq (.region [
        ⟨(some 20), .mv, [.t 5], [], none⟩,
        ⟨(some 21), (.call .wr), [.c (.fn 20 []), .t 20], [], none⟩] [3, 5, 6, 21])
      (.cond (.t 21)
       (.skip)
       (.exit 0)))
     (.block 1 (.seq (.region [
        ⟨(some 22), .mv, [.t 5], [], none⟩,
        ⟨(some 23), .nilCheck, [.t 22], [], none⟩,
        ⟨(some 24), (.fieldAddr 2), [.t 23], [], none⟩,
        ⟨(some 25), (.load 2 true), [.t 24], [], none⟩,
        ⟨(some 7), (.alloc [.int .i64 0, .int .i64 0]), [], [], none⟩,
        ⟨none, (.store 2), [.t 7, .t 25], [], none⟩] [3, 5, 6, 7])
      (.seq (.region [
        ⟨(some 27), .mv, [.t 5], [], none⟩,
        ⟨(some 28), (.call .wr), [.c (.fn 21 []), .t 27], [], none⟩,
        ⟨(some 26), .mv, [.t 28], [], none⟩,
        ⟨(some 29), (.extract 0), [.t 26], [], none⟩,
        ⟨(some 30), (.extract 1), [.t 26], [], none⟩,
        ⟨(some 8), (.alloc [.int .i64 0, .str [], .int .i64 0, .int .i64 0, .int .i64 0, .bool false]), [], [], none⟩,
        ⟨none, (.store 6), [.t 8, .t 29], [], none⟩,
        ⟨(some 9), .mv, [.t 30], [], none⟩] [3, 5, 6, 7, 8, 9])
      (.seq (.seq (.region [
         ⟨(some 31), .mv, [.t 9], [], none⟩,
         ⟨(some 32), (.bin .eql), [.t 31, .c (.int .i64 0)], [], none⟩,
         ⟨(some 33), .mv, [.t 32], [], none⟩,
         ⟨(some 34), .mv, [.t 6], [], some (33, true)⟩,
         ⟨(some 35), .len, [.t 34], [], some (33, true)⟩,
         ⟨(some 36), (.bin .geq), [.t 35, .c (.int .i64 2048)], [], some (33, true)⟩,
         ⟨(some 37), .pick, [.t 33, .t 36, .c (.bool false)], [], none⟩] [3, 5, 6, 7, 8, 9, 37])
       (.cond (.t 37)
        (.region [
         ⟨(some 9), .mv, [.c (.int .i64 2)], [], none⟩] [3, 5, 6, 7, 8, 9])
        (.skip)))
      (.seq (.seq (.region [
         ⟨(some 38), .mv, [.t 9], [], none⟩,
         ⟨(some 39), (.bin .neq), [.t 38, .c (.int .i64 0)], [], none⟩] [3, 5, 6, 7, 8, 9, 39])
       (.cond (.t 39)
        (.seq (.region [
          ⟨(some 40), .mv, [.t 9], [], none⟩,
          ⟨(some 41), (.load 2 true), [.t 7], [], none⟩,
          ⟨(some 42), (.build [.int .i64 0, .int .i64 0, .int .i64 0] [(0, 1), (1, 2)]), [.t 40, .t 41], [], none⟩,
          ⟨(some 2), .mv, [.c (.sl true 6 [])], [], none⟩,
          ⟨none, (.store 3), [.t 3, .t 42], [], none⟩] [2, 3])
        (.ret))
        (.skip)))
      (.region [
       ⟨(some 43), .mv, [.t 6], [6], none⟩,
       ⟨(some 44), (.load 6 true), [.t 8], [], none⟩,
       ⟨(some 45), (.buildSl 6), [.t 44], [], none⟩,
       ⟨(some 46), (.append 6 56), [.t 43, .t 45], [43], none⟩,
       ⟨(some 6), .mv, [.t 46], [46], none⟩] [3, 5, 6])))))))))
  (.seq (.region [
    ⟨(some 47), .mv, [.t 6], [6], none⟩,
    ⟨(some 48), (.build [.int .i64 0, .int .i64 0, .int .i64 0] []), [], [], none⟩,
    ⟨(some 2), .mv, [.t 47], [47], none⟩,
    ⟨none, (.store 3), [.t 3, .t 48], [], none⟩] [2, 3])
  (.ret))))))),
  [.tmp 2, .cell 3 3 true]⟩
/-- changeling/changelinglaw04.known -/
def v12 : VFunc := ⟨39,
  .seq (.region [
    ⟨(some 0), .mv, [.c (.bool false)], [], none⟩] [])
  (.seq (.region [
    ⟨(some 6), (.call .wr), [.c (.fn 11 []), .c (.str [120, 32, 61, 32, 49, 10, 121, 32, 61, 32, 50])], [], none⟩,
    ⟨(some 5), .mv, [.t 6], [6], none⟩,
    ⟨(some 7), (.extract 0), [.t 5], [], none⟩,
    ⟨(some 8), (.extract 1), [.t 5], [5], none⟩,
    ⟨(some 2), (.alloc [.int .i64 0, .int .i64 0, .int .i64 0]), [], [], none⟩,
    ⟨(some 1), .mv, [.t 7], [7], none⟩,
    ⟨none, (.store 3), [.t 2, .t 8], [], none⟩] [1, 2])
  (.seq (.region [
    ⟨(some 10), (.call .wr), [.c (.fn 11 []), .c (.str [120, 32, 61, 32, 108, 101, 116, 32, 97, 32, 61, 32, 49, 32, 105, 110, 32, 97])], [], none⟩,
    ⟨(some 9), .mv, [.t 10], [10], none⟩,
    ⟨(some 11), (.extract 0), [.t 9], [], none⟩,
    ⟨(some 12), (.extract 1), [.t 9], [9], none⟩,
    ⟨(some 4), (.alloc [.int .i64 0, .int .i64 0, .int .i64 0]), [], [], none⟩,
    ⟨(some 3), .mv, [.t 11], [11], none⟩,
    ⟨none, (.store 3), [.t 4, .t 12], [], none⟩] [1, 2, 3, 4])
  (.seq (.region [
    ⟨(some 13), (.fieldAddr 0), [.t 2], [], none⟩,
    ⟨(some 14), (.load 1 false), [.t 13], [], none⟩,
    ⟨(some 15), (.bin .eql), [.t 14, .c (.int .i64 0)], [], none⟩,
    ⟨(some 16), .mv, [.t 15], [], none⟩,
    ⟨(some 17), (.fieldAddr 0), [.t 4], [], some (16, true)⟩,
    ⟨(some 18), (.load 1 false), [.t 17], [], some (16, true)⟩,
    ⟨(some 19), (.bin .eql), [.t 18, .c (.int .i64 0)], [], some (16, true)⟩,
    ⟨(some 20), .pick, [.t 16, .t 19, .c (.bool false)], [], none⟩,
    ⟨(some 21), .mv, [.t 20], [], none⟩,
    ⟨(some 22), .mv, [.t 1], [], some (21, true)⟩,
    ⟨(some 23), (.call .wr), [.c (.fn 14 []), .t 22], [22], some (21, true)⟩,
    ⟨(some 24), (.call .wr), [.c (.fn 22 []), .t 23], [23], some (21, true)⟩,
    ⟨(some 25), (.bin .eql), [.t 24, .c (.str [123, 32, 120, 32, 61, 32, 49, 32, 59, 32, 121, 32, 61, 32, 50, 32, 125, 32])], [], some (21, true)⟩,
    ⟨(some 26), .pick, [.t 21, .t 25, .c (.bool false)], [], none⟩,
    ⟨(some 27), .mv, [.t 26], [], none⟩,
    ⟨(some 28), .mv, [.t 3], [3], some (27, true)⟩,
    ⟨(some 29), (.call .wr), [.c (.fn 14 []), .t 28], [28], some (27, true)⟩,
    ⟨(some 30), (.call .wr), [.c (.fn 22 []), .t 29], [29], some (27, true)⟩,
    ⟨(some 31), (.bin .eql), [.t 30, .c (.str [123, 32, 120, 32, 61, 32, 108, 101, 116, 32, 123, 32, 97, 32, 61, 32, 49, 32, 125, 32, 105, 110, 32, 97, 32, 125, 32])], [], some (27, true)⟩,
    ⟨(some 32), .pick, [.t 27, .t 31, .c (.bool false)], [], none⟩,
    ⟨(some 33), .mv, [.t 32], [], none⟩,
    ⟨(some 34), .mv, [.t 1], [1], some (33, true)⟩,
    ⟨(some 35), (.call .wr), [.c (.fn 16 []), .t 34], [34], some (33, true)⟩,
    ⟨(some 36), .len, [.t 35], [], some (33, true)⟩,
    ⟨(some 37), (.bin .eql), [.t 36, .c (.int .i64 6)], [], some (33, true)⟩,
    ⟨(some 38), .pick, [.t 33, .t 37, .c (.bool false)], [], none⟩,
    ⟨(some 0), .mv, [.t 38], [], none⟩] [0])
  (.ret)))),
  [.tmp 0]⟩
/-- changeling/changelingref02.Same -/
def v13 : VFunc := ⟨26,
  .seq (.region [
    ⟨(some 4), .mv, [.c (.bool false)], [], none⟩] [0, 1])
  (.seq (.seq (.region [
     ⟨(some 6), .mv, [.t 0], [], none⟩,
     ⟨(some 7), .len, [.t 6], [], none⟩,
     ⟨(some 8), .mv, [.t 1], [], none⟩,
     ⟨(some 9), .len, [.t 8], [], none⟩,
     ⟨(some 10), (.bin .neq), [.t 7, .t 9], [], none⟩] [0, 1, 10])
   (.cond (.t 10)
    (.seq (.region [
      ⟨(some 4), .mv, [.c (.bool false)], [], none⟩] [4])
    (.ret))
    (.skip)))
  (.seq (.seq (.region [
     ⟨(some 5), .mv, [.c (.int .i64 0)], [], none⟩] [0, 1, 5])
   (.block 0 (.loop (.seq (.seq (.region [
        ⟨(some 11), .mv, [.t 5], [], none⟩,
        ⟨(some 12), .mv, [.t 0], [], none⟩,
        ⟨(some 13), .len, [.t 12], [], none⟩,
        ⟨(some 14), (.bin .lss), [.t 11, .t 13], [], none⟩] [0, 1, 5, 14])
      (.cond (.t 14)
       (.skip)
       (.exit 0)))
     (.seq (.block 1 (.seq (.region [
         ⟨(some 17), .mv, [.t 0], [], none⟩,
         ⟨(some 18), .mv, [.t 5], [], none⟩,
         ⟨(some 19), (.indexAddr 6), [.t 17, .t 18], [], none⟩,
         ⟨(some 20), (.load 6 true), [.t 19], [], none⟩,
         ⟨(some 21), .mv, [.t 1], [], none⟩,
         ⟨(some 22), .mv, [.t 5], [], none⟩,
         ⟨(some 23), (.indexAddr 6), [.t 21, .t 22], [], none⟩,
         ⟨(some 24), (.load 6 true), [.t 23], [], none⟩,
         ⟨(some 25), (.eqc true true [.i, .s, .i, .i, .i, .b]), [.t 20, .t 24], [], none⟩] [0, 1, 5, 25])
       (.cond (.t 25)
        (.seq (.region [
          ⟨(some 4), .mv, [.c (.bool false)], [], none⟩] [4])
        (.ret))
        (.skip))))
     (.region [
      ⟨(some 15), .mv, [.t 5], [], none⟩,
      ⟨(some 16), (.bin .add), [.t 15, .c (.int .i64 1)], [], none⟩,
      ⟨(some 5), .mv, [.t 16], [], none⟩] [0, 1, 5]))))))
  (.seq (.region [
    ⟨(some 4), .mv, [.c (.bool true)], [], none⟩] [4])
  (.ret)))),
  [.tmp 4]⟩
/-- changeling/layout.Lay -/
def v14 : VFunc := ⟨99,
  .seq (.region [
    ⟨(some 2), .mv, [.c (.sl true 6 [])], [], none⟩] [0])
  (.seq (.region [
    ⟨(some 9), (.build [.int .i64 0, .int .i64 0] [(0, 1), (1, 1)]), [.c (.int .i64 1), .c (.int .i64 1)], [], none⟩,
    ⟨(some 10), (.build [.sl true 6 [], .nilh 2, .bool false, .int .i64 0, .int .i64 0] [(2, 1), (3, 2)]), [.c (.bool true), .t 9], [], none⟩,
    ⟨(some 11), .box, [.t 10], [10], none⟩,
    ⟨(some 3), .mv, [.t 11], [], none⟩] [0, 3])
  (.seq (.region [
    ⟨(some 4), .mv, [.c (.int .i64 0)], [], none⟩] [0, 3, 4])
  (.seq (.seq (.region [
     ⟨(some 12), .mv, [.t 0], [0], none⟩,
     ⟨(some 13), .len, [.t 12], [], none⟩,
     ⟨(some 14), .mv, [.c (.int .i64 0)], [], none⟩] [3, 4, 12, 13, 14])
   (.block 0 (.loop (.seq (.region [
       ⟨(some 15), (.bin .lss), [.t 14, .t 13], [], none⟩] [3, 4, 12, 13, 14, 15])
     (.seq (.cond (.t 15)
       (.skip)
       (.exit 0))
     (.seq (.block 1 (.seq (.region [
         ⟨(some 16), .mv, [.t 14], [], none⟩,
         ⟨(some 17), (.indexAddr 6), [.t 12, .t 14], [], none⟩,
         ⟨(some 18), (.load 6 true), [.t 17], [], none⟩,
         ⟨(some 6), (.alloc [.int .i64 0, .str [], .int .i64 0, .int .i64 0, .int .i64 0, .bool false]), [], [], none⟩,
         ⟨(some 5), .mv, [.t 16], [], none⟩,
         ⟨none, (.store 6), [.t 6, .t 18], [], none⟩] [3, 4, 5, 6, 12, 13, 14])
       (.seq (.region [
         ⟨(some 19), .mv, [.t 3], [], none⟩,
         ⟨(some 20), (.fieldAddr 3), [.t 6], [], none⟩,
         ⟨(some 21), (.load 2 true), [.t 20], [], none⟩,
         ⟨(some 22), .nilCheck, [.t 19], [], none⟩,
         ⟨(some 23), (.fieldAddr 3), [.t 22], [], none⟩,
         ⟨none, (.store 2), [.t 23, .t 21], [], none⟩] [3, 4, 5, 6, 12, 13, 14])
       (.seq (.region [
         ⟨(some 24), .mv, [.t 5], [], none⟩,
         ⟨(some 25), (.bin .eql), [.t 24, .c (.int .i64 0)], [], none⟩,
         ⟨(some 26), .mv, [.t 25], [], none⟩,
         ⟨(some 27), (.fieldAddr 3), [.t 6], [], some (26, false)⟩,
         ⟨(some 28), (.fieldAddr 0), [.t 27], [], some (26, false)⟩,
         ⟨(some 29), (.load 1 false), [.t 28], [], some (26, false)⟩,
         ⟨(some 30), .mv, [.t 4], [], some (26, false)⟩,
         ⟨(some 31), (.bin .neq), [.t 29, .t 30], [], some (26, false)⟩,
         ⟨(some 32), .pick, [.t 26, .c (.bool true), .t 31], [], none⟩,
         ⟨(some 7), .mv, [.t 32], [], none⟩] [3, 6, 7, 12, 13, 14])
       (.seq (.region [
         ⟨(some 33), (.fieldAddr 3), [.t 6], [], none⟩,
         ⟨(some 34), (.fieldAddr 0), [.t 33], [], none⟩,
         ⟨(some 35), (.load 1 false), [.t 34], [], none⟩,
         ⟨(some 4), .mv, [.t 35], [], none⟩] [3, 4, 6, 7, 12, 13, 14])
       (.seq (.seq (.region [
          ⟨(some 36), .mv, [.t 3], [], none⟩,
          ⟨(some 37), .nilCheck, [.t 36], [], none⟩,
          ⟨(some 38), (.fieldAddr 2), [.t 37], [], none⟩,
          ⟨(some 39), (.load 1 false), [.t 38], [], none⟩,
          ⟨(some 40), .mv, [.t 39], [], none⟩,
          ⟨(some 41), .mv, [.t 3], [], some (40, true)⟩,
          ⟨(some 42), (.load 6 true), [.t 6], [], some (40, true)⟩,
          ⟨(some 43), (.call .wr), [.c (.fn 23 []), .t 41, .t 42], [], some (40, true)⟩,
          ⟨(some 44), .pick, [.t 40, .t 43, .c (.bool false)], [], none⟩] [3, 4, 6, 7, 12, 13, 14, 44])
        (.cond (.t 44)
         (.region [
          ⟨(some 7), .mv, [.c (.bool false)], [], none⟩] [3, 4, 6, 7, 12, 13, 14])
         (.skip)))
       (.seq (.seq (.region [
          ⟨(some 45), .mv, [.t 7], [], none⟩] [3, 4, 6, 12, 13, 14, 45])
        (.cond (.t 45)
         (.region [
          ⟨(some 46), .mv, [.t 3], [], none⟩,
          ⟨(some 47), (.load 6 true), [.t 6], [], none⟩,
          ⟨(some 48), (.call .wr), [.c (.fn 24 []), .t 46, .t 47], [], none⟩] [3, 4, 6, 12, 13, 14])
         (.skip)))
       (.seq (.region [
         ⟨(some 49), .mv, [.t 3], [], none⟩,
         ⟨(some 50), (.load 6 true), [.t 6], [], none⟩,
         ⟨(some 51), (.call .wr), [.c (.fn 25 []), .t 49, .t 50], [], none⟩] [3, 4, 6, 12, 13, 14])
       (.seq (.region [
         ⟨(some 52), .mv, [.t 3], [], none⟩,
         ⟨(some 53), .mv, [.t 3], [], none⟩,
         ⟨(some 54), .nilCheck, [.t 53], [], none⟩,
         ⟨(some 55), (.fieldAddr 0), [.t 54], [], none⟩,
         ⟨(some 56), (.loadT 1 false), [.t 55], [], none⟩,
         ⟨(some 57), (.load 6 true), [.t 6], [], none⟩,
         ⟨(some 58), (.buildSl 6), [.t 57], [], none⟩,
         ⟨(some 59), (.append 6 56), [.t 56, .t 58], [56], none⟩,
         ⟨(some 60), .nilCheck, [.t 52], [], none⟩,
         ⟨(some 61), (.fieldAddr 0), [.t 60], [], none⟩,
         ⟨none, (.store 1), [.t 61, .t 59], [59], none⟩] [3, 4, 6, 12, 13, 14])
       (.region [
        ⟨(some 62), .mv, [.t 3], [], none⟩,
        ⟨(some 63), (.load 6 true), [.t 6], [], none⟩,
        ⟨(some 64), (.call .wr), [.c (.fn 26 []), .t 62, .t 63], [], none⟩] [3, 4, 12, 13, 14]))))))))))
     (.region [
      ⟨(some 65), (.bin .add), [.t 14, .c (.int .i64 1)], [], none⟩,
      ⟨(some 14), .mv, [.t 65], [], none⟩] [3, 4, 12, 13, 14])))))))
  (.seq (.seq (.region [
     ⟨(some 66), .mv, [.t 3], [], none⟩,
     ⟨(some 67), .nilCheck, [.t 66], [], none⟩,
     ⟨(some 68), (.fieldAddr 2), [.t 67], [], none⟩,
     ⟨(some 69), (.load 1 false), [.t 68], [], none⟩] [3, 69])
   (.cond (.t 69)
    (.seq (.region [
      ⟨(some 70), .mv, [.t 3], [], none⟩,
      ⟨(some 71), (.call .wr), [.c (.fn 27 []), .t 70, .c (.str [123])], [], none⟩] [3])
    (.region [
     ⟨(some 72), .mv, [.t 3], [], none⟩,
     ⟨(some 73), (.call .wr), [.c (.fn 27 []), .t 72, .c (.str [125])], [], none⟩] [3]))
    (.skip)))
  (.seq (.seq (.region [
     ⟨(some 74), .mv, [.t 3], [], none⟩,
     ⟨(some 75), .nilCheck, [.t 74], [], none⟩,
     ⟨(some 76), (.fieldAddr 1), [.t 75], [], none⟩,
     ⟨(some 77), (.load 1 false), [.t 76], [], none⟩,
     ⟨(some 78), .len, [.t 77], [], none⟩,
     ⟨(some 79), (.bin .sub), [.t 78, .c (.int .i64 1)], [], none⟩,
     ⟨(some 8), .mv, [.t 79], [], none⟩] [3, 8])
   (.block 2 (.loop (.seq (.seq (.region [
        ⟨(some 80), .mv, [.t 8], [], none⟩,
        ⟨(some 81), (.bin .geq), [.t 80, .c (.int .i64 0)], [], none⟩] [3, 8, 81])
      (.cond (.t 81)
       (.skip)
       (.exit 2)))
     (.seq (.block 3 (.seq (.region [
         ⟨(some 84), .mv, [.t 3], [], none⟩,
         ⟨(some 85), .nilCheck, [.t 84], [], none⟩,
         ⟨(some 86), (.fieldAddr 1), [.t 85], [], none⟩,
         ⟨(some 87), (.load 1 false), [.t 86], [], none⟩,
         ⟨(some 88), .mv, [.t 8], [], none⟩,
         ⟨(some 89), (.indexAddr 2), [.t 87, .t 88], [], none⟩,
         ⟨(some 90), (.fieldAddr 0), [.t 89], [], none⟩,
         ⟨(some 91), (.load 1 false), [.t 90], [], none⟩,
         ⟨(some 92), (.bin .eql), [.t 91, .c (.int .i64 0)], [], none⟩] [3, 8, 92])
       (.cond (.t 92)
        (.region [
         ⟨(some 93), .mv, [.t 3], [], none⟩,
         ⟨(some 94), (.call .wr), [.c (.fn 27 []), .t 93, .c (.str [125])], [], none⟩] [3, 8])
        (.skip))))
     (.region [
      ⟨(some 82), .mv, [.t 8], [], none⟩,
      ⟨(some 83), (.bin .sub), [.t 82, .c (.int .i64 1)], [], none⟩,
      ⟨(some 8), .mv, [.t 83], [], none⟩] [3, 8]))))))
  (.seq (.region [
    ⟨(some 95), .mv, [.t 3], [], none⟩,
    ⟨(some 96), .nilCheck, [.t 95], [], none⟩,
    ⟨(some 97), (.fieldAddr 0), [.t 96], [], none⟩,
    ⟨(some 98), (.load 1 false), [.t 97], [], none⟩,
    ⟨(some 2), .mv, [.t 98], [98], none⟩] [2])
  (.ret))))))),
  [.tmp 2]⟩
/-- changeling/changelingref04.Lay -/
def v15 : VFunc := ⟨68,
  .seq (.region [
    ⟨(some 2), .mv, [.c (.sl true 6 [])], [], none⟩] [0])
  (.seq (.region [
    ⟨(some 8), (.build [.sl true 6 [], .nilh 2, .bool false] [(2, 1)]), [.c (.bool true)], [], none⟩,
    ⟨(some 3), (.alloc [.sl true 6 [], .nilh 2, .bool false]), [], [], none⟩,
    ⟨none, (.store 3), [.t 3, .t 8], [8], none⟩] [0, 3])
  (.seq (.region [
    ⟨(some 9), (.build [.int .i64 0, .int .i64 0] [(0, 1), (1, 1)]), [.c (.int .i64 1), .c (.int .i64 1)], [], none⟩,
    ⟨(some 4), (.alloc [.int .i64 0, .int .i64 0]), [], [], none⟩,
    ⟨none, (.store 2), [.t 4, .t 9], [], none⟩] [0, 3, 4])
  (.seq (.seq (.region [
     ⟨(some 5), .mv, [.c (.int .i64 0)], [], none⟩] [0, 3, 4, 5])
   (.block 0 (.loop (.seq (.seq (.region [
        ⟨(some 10), .mv, [.t 5], [], none⟩,
        ⟨(some 11), .mv, [.t 0], [], none⟩,
        ⟨(some 12), .len, [.t 11], [], none⟩,
        ⟨(some 13), (.bin .lss), [.t 10, .t 12], [], none⟩] [0, 3, 4, 5, 13])
      (.cond (.t 13)
       (.skip)
       (.exit 0)))
     (.seq (.block 1 (.seq (.region [
         ⟨(some 16), .mv, [.t 5], [], none⟩,
         ⟨(some 17), (.bin .eql), [.t 16, .c (.int .i64 0)], [], none⟩,
         ⟨(some 18), .mv, [.t 17], [], none⟩,
         ⟨(some 19), .mv, [.t 0], [], some (18, false)⟩,
         ⟨(some 20), .mv, [.t 5], [], some (18, false)⟩,
         ⟨(some 21), (.indexAddr 6), [.t 19, .t 20], [], some (18, false)⟩,
         ⟨(some 22), (.fieldAddr 3), [.t 21], [], some (18, false)⟩,
         ⟨(some 23), (.fieldAddr 0), [.t 22], [], some (18, false)⟩,
         ⟨(some 24), (.load 1 false), [.t 23], [], some (18, false)⟩,
         ⟨(some 25), (.fieldAddr 0), [.t 4], [], some (18, false)⟩,
         ⟨(some 26), (.load 1 false), [.t 25], [], some (18, false)⟩,
         ⟨(some 27), (.bin .neq), [.t 24, .t 26], [], some (18, false)⟩,
         ⟨(some 28), .pick, [.t 18, .c (.bool true), .t 27], [], none⟩,
         ⟨(some 6), .mv, [.t 28], [], none⟩] [0, 3, 4, 5, 6])
       (.seq (.region [
         ⟨(some 29), .mv, [.t 0], [], none⟩,
         ⟨(some 30), .mv, [.t 5], [], none⟩,
         ⟨(some 31), (.indexAddr 6), [.t 29, .t 30], [], none⟩,
         ⟨(some 32), (.fieldAddr 3), [.t 31], [], none⟩,
         ⟨(some 33), (.load 2 true), [.t 32], [], none⟩,
         ⟨none, (.store 2), [.t 4, .t 33], [], none⟩] [0, 3, 4, 5, 6])
       (.region [
        ⟨(some 34), (.loadT 3 true), [.t 3], [], none⟩,
        ⟨(some 35), .mv, [.t 0], [], none⟩,
        ⟨(some 36), .mv, [.t 5], [], none⟩,
        ⟨(some 37), (.indexAddr 6), [.t 35, .t 36], [], none⟩,
        ⟨(some 38), (.load 6 true), [.t 37], [], none⟩,
        ⟨(some 39), .mv, [.t 6], [], none⟩,
        ⟨(some 40), (.call .wr), [.c (.fn 28 []), .t 34, .t 38, .t 39], [34], none⟩,
        ⟨none, (.store 3), [.t 3, .t 40], [40], none⟩] [0, 3, 4, 5]))))
     (.region [
      ⟨(some 14), .mv, [.t 5], [], none⟩,
      ⟨(some 15), (.bin .add), [.t 14, .c (.int .i64 1)], [], none⟩,
      ⟨(some 5), .mv, [.t 15], [], none⟩] [0, 3, 4, 5]))))))
  (.seq (.seq (.region [
     ⟨(some 41), (.fieldAddr 2), [.t 3], [], none⟩,
     ⟨(some 42), (.load 1 false), [.t 41], [], none⟩] [3, 4, 42])
   (.cond (.t 42)
    (.region [
     ⟨(some 43), (.loadT 3 true), [.t 3], [], none⟩,
     ⟨(some 44), (.load 2 true), [.t 4], [], none⟩,
     ⟨(some 45), (.call .gr), [.c (.fn 29 []), .t 43, .c (.str [123]), .t 44], [43], none⟩,
     ⟨(some 46), (.load 2 true), [.t 4], [], none⟩,
     ⟨(some 47), (.call .wr), [.c (.fn 29 []), .t 45, .c (.str [125]), .t 46], [45], none⟩,
     ⟨none, (.store 3), [.t 3, .t 47], [47], none⟩] [3, 4])
    (.skip)))
  (.seq (.seq (.region [
     ⟨(some 48), (.fieldAddr 1), [.t 3], [], none⟩,
     ⟨(some 49), (.load 1 false), [.t 48], [], none⟩,
     ⟨(some 50), .len, [.t 49], [], none⟩,
     ⟨(some 51), (.bin .sub), [.t 50, .c (.int .i64 1)], [], none⟩,
     ⟨(some 7), .mv, [.t 51], [], none⟩] [3, 4, 7])
   (.block 2 (.loop (.seq (.seq (.region [
        ⟨(some 52), .mv, [.t 7], [], none⟩,
        ⟨(some 53), (.bin .geq), [.t 52, .c (.int .i64 0)], [], none⟩] [3, 4, 7, 53])
      (.cond (.t 53)
       (.skip)
       (.exit 2)))
     (.seq (.block 3 (.seq (.region [
         ⟨(some 56), (.fieldAddr 1), [.t 3], [], none⟩,
         ⟨(some 57), (.load 1 false), [.t 56], [], none⟩,
         ⟨(some 58), .mv, [.t 7], [], none⟩,
         ⟨(some 59), (.indexAddr 2), [.t 57, .t 58], [], none⟩,
         ⟨(some 60), (.fieldAddr 0), [.t 59], [], none⟩,
         ⟨(some 61), (.load 1 false), [.t 60], [], none⟩,
         ⟨(some 62), (.bin .eql), [.t 61, .c (.str [98, 108, 111, 99, 107])], [], none⟩] [3, 4, 7, 62])
       (.cond (.t 62)
        (.region [
         ⟨(some 63), (.loadT 3 true), [.t 3], [], none⟩,
         ⟨(some 64), (.load 2 true), [.t 4], [], none⟩,
         ⟨(some 65), (.call .wr), [.c (.fn 29 []), .t 63, .c (.str [125]), .t 64], [63], none⟩,
         ⟨none, (.store 3), [.t 3, .t 65], [65], none⟩] [3, 4, 7])
        (.skip))))
     (.region [
      ⟨(some 54), .mv, [.t 7], [], none⟩,
      ⟨(some 55), (.bin .sub), [.t 54, .c (.int .i64 1)], [], none⟩,
      ⟨(some 7), .mv, [.t 55], [], none⟩] [3, 4, 7]))))))
  (.seq (.region [
    ⟨(some 66), (.fieldAddr 0), [.t 3], [], none⟩,
    ⟨(some 67), (.load 1 false), [.t 66], [], none⟩,
    ⟨(some 2), .mv, [.t 67], [67], none⟩] [2])
  (.ret))))))),
  [.tmp 2]⟩
/-- changeling/layout.Real -/
def v16 : VFunc := ⟨19,
  .seq (.region [
    ⟨(some 2), .mv, [.c (.sl true 6 [])], [], none⟩] [0])
  (.seq (.region [
    ⟨(some 3), .mv, [.c (.sl true 6 [])], [], none⟩] [0, 3])
  (.seq (.seq (.region [
     ⟨(some 6), .mv, [.t 0], [0], none⟩,
     ⟨(some 7), .len, [.t 6], [], none⟩,
     ⟨(some 8), .mv, [.c (.int .i64 0)], [], none⟩] [3, 6, 7, 8])
   (.block 0 (.loop (.seq (.region [
       ⟨(some 9), (.bin .lss), [.t 8, .t 7], [], none⟩] [3, 6, 7, 8, 9])
     (.seq (.cond (.t 9)
       (.skip)
       (.exit 0))
     (.seq (.block 1 (.seq (.region [
         ⟨(some 10), (.indexAddr 6), [.t 6, .t 8], [], none⟩,
         ⟨(some 11), (.load 6 true), [.t 10], [], none⟩,
         ⟨(some 5), (.alloc [.int .i64 0, .str [], .int .i64 0, .int .i64 0, .int .i64 0, .bool false]), [], [], none⟩,
         ⟨none, (.store 6), [.t 5, .t 11], [], none⟩] [3, 5, 6, 7, 8])
       (.seq (.region [
         ⟨(some 12), (.fieldAddr 5), [.t 5], [], none⟩,
         ⟨none, (.store 1), [.t 12, .c (.bool false)], [], none⟩] [3, 5, 6, 7, 8])
       (.region [
        ⟨(some 13), .mv, [.t 3], [3], none⟩,
        ⟨(some 14), (.load 6 true), [.t 5], [], none⟩,
        ⟨(some 15), (.buildSl 6), [.t 14], [], none⟩,
        ⟨(some 16), (.append 6 56), [.t 13, .t 15], [13], none⟩,
        ⟨(some 3), .mv, [.t 16], [16], none⟩] [3, 6, 7, 8]))))
     (.region [
      ⟨(some 17), (.bin .add), [.t 8, .c (.int .i64 1)], [], none⟩,
      ⟨(some 8), .mv, [.t 17], [], none⟩] [3, 6, 7, 8])))))))
  (.seq (.region [
    ⟨(some 18), .mv, [.t 3], [3], none⟩,
    ⟨(some 2), .mv, [.t 18], [18], none⟩] [2])
  (.ret)))),
  [.tmp 2]⟩
/-- changeling/changelingref04.Plain -/
def v17 : VFunc := ⟨25,
  .seq (.region [
    ⟨(some 2), .mv, [.c (.sl true 6 [])], [], none⟩] [0])
  (.seq (.region [
    ⟨(some 3), .mv, [.c (.sl true 6 [])], [], none⟩] [0, 3])
  (.seq (.seq (.region [
     ⟨(some 4), .mv, [.c (.int .i64 0)], [], none⟩] [0, 3, 4])
   (.block 0 (.loop (.seq (.seq (.region [
        ⟨(some 5), .mv, [.t 4], [], none⟩,
        ⟨(some 6), .mv, [.t 0], [], none⟩,
        ⟨(some 7), .len, [.t 6], [], none⟩,
        ⟨(some 8), (.bin .lss), [.t 5, .t 7], [], none⟩] [0, 3, 4, 8])
      (.cond (.t 8)
       (.skip)
       (.exit 0)))
     (.seq (.block 1 (.seq (.region [
         ⟨(some 11), .mv, [.t 0], [], none⟩,
         ⟨(some 12), .mv, [.t 4], [], none⟩,
         ⟨(some 13), (.indexAddr 6), [.t 11, .t 12], [], none⟩,
         ⟨(some 14), (.fieldAddr 5), [.t 13], [], none⟩,
         ⟨(some 15), (.load 1 false), [.t 14], [], none⟩,
         ⟨(some 16), .not, [.t 15], [], none⟩] [0, 3, 4, 16])
       (.cond (.t 16)
        (.region [
         ⟨(some 17), .mv, [.t 3], [3], none⟩,
         ⟨(some 18), .mv, [.t 0], [], none⟩,
         ⟨(some 19), .mv, [.t 4], [], none⟩,
         ⟨(some 20), (.indexAddr 6), [.t 18, .t 19], [], none⟩,
         ⟨(some 21), (.load 6 true), [.t 20], [], none⟩,
         ⟨(some 22), (.buildSl 6), [.t 21], [], none⟩,
         ⟨(some 23), (.append 6 56), [.t 17, .t 22], [17], none⟩,
         ⟨(some 3), .mv, [.t 23], [23], none⟩] [0, 3, 4])
        (.skip))))
     (.region [
      ⟨(some 9), .mv, [.t 4], [], none⟩,
      ⟨(some 10), (.bin .add), [.t 9, .c (.int .i64 1)], [], none⟩,
      ⟨(some 4), .mv, [.t 10], [], none⟩] [0, 3, 4]))))))
  (.seq (.region [
    ⟨(some 24), .mv, [.t 3], [3], none⟩,
    ⟨(some 2), .mv, [.t 24], [24], none⟩] [2])
  (.ret)))),
  [.tmp 2]⟩
/-- changeling/changelingref04.Braced -/
def v18 : VFunc := ⟨34,
  .seq (.region [
    ⟨(some 2), .mv, [.c (.bool false)], [], none⟩] [0])
  (.seq (.region [
    ⟨(some 3), .mv, [.c (.bool true)], [], none⟩] [0, 3])
  (.seq (.seq (.region [
     ⟨(some 4), .mv, [.c (.int .i64 0)], [], none⟩] [0, 3, 4])
   (.block 0 (.loop (.seq (.seq (.region [
        ⟨(some 5), .mv, [.t 4], [], none⟩,
        ⟨(some 6), .mv, [.t 0], [], none⟩,
        ⟨(some 7), .len, [.t 6], [], none⟩,
        ⟨(some 8), (.bin .lss), [.t 5, .t 7], [], none⟩] [0, 3, 4, 8])
      (.cond (.t 8)
       (.skip)
       (.exit 0)))
     (.seq (.block 1 (.seq (.seq (.region [
          ⟨(some 11), .mv, [.t 3], [], none⟩,
          ⟨(some 12), .mv, [.t 11], [], none⟩,
          ⟨(some 13), .mv, [.t 0], [], some (12, true)⟩,
          ⟨(some 14), .mv, [.t 4], [], some (12, true)⟩,
          ⟨(some 15), (.indexAddr 6), [.t 13, .t 14], [], some (12, true)⟩,
          ⟨(some 16), (.load 6 true), [.t 15], [], some (12, true)⟩,
          ⟨(some 17), (.call .wr), [.c (.fn 30 []), .t 16, .c (.str [123])], [], some (12, true)⟩,
          ⟨(some 18), .not, [.t 17], [], some (12, true)⟩,
          ⟨(some 19), .pick, [.t 12, .t 18, .c (.bool false)], [], none⟩] [0, 4, 19])
        (.cond (.t 19)
         (.seq (.region [
           ⟨(some 2), .mv, [.c (.bool false)], [], none⟩] [2])
         (.ret))
         (.skip)))
       (.region [
        ⟨(some 20), .mv, [.t 0], [], none⟩,
        ⟨(some 21), .mv, [.t 4], [], none⟩,
        ⟨(some 22), (.indexAddr 6), [.t 20, .t 21], [], none⟩,
        ⟨(some 23), (.load 6 true), [.t 22], [], none⟩,
        ⟨(some 24), (.call .wr), [.c (.fn 31 []), .t 23, .c (.str [108, 101, 116])], [], none⟩,
        ⟨(some 25), .mv, [.t 24], [], none⟩,
        ⟨(some 26), .mv, [.t 0], [], some (25, false)⟩,
        ⟨(some 27), .mv, [.t 4], [], some (25, false)⟩,
        ⟨(some 28), (.indexAddr 6), [.t 26, .t 27], [], some (25, false)⟩,
        ⟨(some 29), (.load 6 true), [.t 28], [], some (25, false)⟩,
        ⟨(some 30), (.call .wr), [.c (.fn 31 []), .t 29, .c (.str [111, 102])], [], some (25, false)⟩,
        ⟨(some 31), .pick, [.t 25, .c (.bool true), .t 30], [], none⟩,
        ⟨(some 3), .mv, [.t 31], [], none⟩] [0, 3, 4])))
     (.region [
      ⟨(some 9), .mv, [.t 4], [], none⟩,
      ⟨(some 10), (.bin .add), [.t 9, .c (.int .i64 1)], [], none⟩,
      ⟨(some 4), .mv, [.t 10], [], none⟩] [0, 3, 4]))))))
  (.seq (.region [
    ⟨(some 32), .mv, [.t 3], [], none⟩,
    ⟨(some 33), .not, [.t 32], [], none⟩,
    ⟨(some 2), .mv, [.t 33], [], none⟩] [2])
  (.ret)))),
  [.tmp 2]⟩
/-- changeling/changelingref02.Alike -/
def v19 : VFunc := ⟨67,
  .seq (.region [
    ⟨(some 4), .mv, [.c (.bool false)], [], none⟩] [0, 1])
  (.seq (.seq (.region [
     ⟨(some 6), .mv, [.t 0], [], none⟩,
     ⟨(some 7), .len, [.t 6], [], none⟩,
     ⟨(some 8), .mv, [.t 1], [], none⟩,
     ⟨(some 9), .len, [.t 8], [], none⟩,
     ⟨(some 10), (.bin .neq), [.t 7, .t 9], [], none⟩] [0, 1, 10])
   (.cond (.t 10)
    (.seq (.region [
      ⟨(some 4), .mv, [.c (.bool false)], [], none⟩] [4])
    (.ret))
    (.skip)))
  (.seq (.seq (.region [
     ⟨(some 5), .mv, [.c (.int .i64 0)], [], none⟩] [0, 1, 5])
   (.block 0 (.loop (.seq (.seq (.region [
        ⟨(some 11), .mv, [.t 5], [], none⟩,
        ⟨(some 12), .mv, [.t 0], [], none⟩,
        ⟨(some 13), .len, [.t 12], [], none⟩,
        ⟨(some 14), (.bin .lss), [.t 11, .t 13], [], none⟩] [0, 1, 5, 14])
      (.cond (.t 14)
       (.skip)
       (.exit 0)))
     (.seq (.block 1 (.seq (.region [
         ⟨(some 17), .mv, [.t 0], [], none⟩,
         ⟨(some 18), .mv, [.t 5], [], none⟩,
         ⟨(some 19), (.indexAddr 6), [.t 17, .t 18], [], none⟩,
         ⟨(some 20), (.fieldAddr 0), [.t 19], [], none⟩,
         ⟨(some 21), (.load 1 false), [.t 20], [], none⟩,
         ⟨(some 22), .mv, [.t 1], [], none⟩,
         ⟨(some 23), .mv, [.t 5], [], none⟩,
         ⟨(some 24), (.indexAddr 6), [.t 22, .t 23], [], none⟩,
         ⟨(some 25), (.fieldAddr 0), [.t 24], [], none⟩,
         ⟨(some 26), (.load 1 false), [.t 25], [], none⟩,
         ⟨(some 27), (.bin .neq), [.t 21, .t 26], [], none⟩,
         ⟨(some 28), .mv, [.t 27], [], none⟩,
         ⟨(some 29), .mv, [.t 0], [], some (28, false)⟩,
         ⟨(some 30), .mv, [.t 5], [], some (28, false)⟩,
         ⟨(some 31), (.indexAddr 6), [.t 29, .t 30], [], some (28, false)⟩,
         ⟨(some 32), (.fieldAddr 1), [.t 31], [], some (28, false)⟩,
         ⟨(some 33), (.load 1 false), [.t 32], [], some (28, false)⟩,
         ⟨(some 34), .mv, [.t 1], [], some (28, false)⟩,
         ⟨(some 35), .mv, [.t 5], [], some (28, false)⟩,
         ⟨(some 36), (.indexAddr 6), [.t 34, .t 35], [], some (28, false)⟩,
         ⟨(some 37), (.fieldAddr 1), [.t 36], [], some (28, false)⟩,
         ⟨(some 38), (.load 1 false), [.t 37], [], some (28, false)⟩,
         ⟨(some 39), (.bin .neq), [.t 33, .t 38], [], some (28, false)⟩,
         ⟨(some 40), .pick, [.t 28, .c (.bool true), .t 39], [], none⟩,
         ⟨(some 41), .mv, [.t 40], [], none⟩,
         ⟨(some 42), .mv, [.t 0], [], some (41, false)⟩,
         ⟨(some 43), .mv, [.t 5], [], some (41, false)⟩,
         ⟨(some 44), (.indexAddr 6), [.t 42, .t 43], [], some (41, false)⟩,
         ⟨(some 45), (.fieldAddr 2), [.t 44], [], some (41, false)⟩,
         ⟨(some 46), (.load 1 false), [.t 45], [], some (41, false)⟩,
         ⟨(some 47), .mv, [.t 1], [], some (41, false)⟩,
         ⟨(some 48), .mv, [.t 5], [], some (41, false)⟩,
         ⟨(some 49), (.indexAddr 6), [.t 47, .t 48], [], some (41, false)⟩,
         ⟨(some 50), (.fieldAddr 2), [.t 49], [], some (41, false)⟩,
         ⟨(some 51), (.load 1 false), [.t 50], [], some (41, false)⟩,
         ⟨(some 52), (.bin .neq), [.t 46, .t 51], [], some (41, false)⟩,
         ⟨(some 53), .pick, [.t 41, .c (.bool true), .t 52], [], none⟩,
         ⟨(some 54), .mv, [.t 53], [], none⟩,
         ⟨(some 55), .mv, [.t 0], [], some (54, false)⟩,
         ⟨(some 56), .mv, [.t 5], [], some (54, false)⟩,
         ⟨(some 57), (.indexAddr 6), [.t 55, .t 56], [], some (54, false)⟩,
         ⟨(some 58), (.fieldAddr 5), [.t 57], [], some (54, false)⟩,
         ⟨(some 59), (.load 1 false), [.t 58], [], some (54, false)⟩,
         ⟨(some 60), .mv, [.t 1], [], some (54, false)⟩,
         ⟨(some 61), .mv, [.t 5], [], some (54, false)⟩,
         ⟨(some 62), (.indexAddr 6), [.t 60, .t 61], [], some (54, false)⟩,
         ⟨(some 63), (.fieldAddr 5), [.t 62], [], some (54, false)⟩,
         ⟨(some 64), (.load 1 false), [.t 63], [], some (54, false)⟩,
         ⟨(some 65), (.eqc true false [.b]), [.t 59, .t 64], [], some (54, false)⟩,
         ⟨(some 66), .pick, [.t 54, .c (.bool true), .t 65], [], none⟩] [0, 1, 5, 66])
       (.cond (.t 66)
        (.seq (.region [
          ⟨(some 4), .mv, [.c (.bool false)], [], none⟩] [4])
        (.ret))
        (.skip))))
     (.region [
      ⟨(some 15), .mv, [.t 5], [], none⟩,
      ⟨(some 16), (.bin .add), [.t 15, .c (.int .i64 1)], [], none⟩,
      ⟨(some 5), .mv, [.t 16], [], none⟩] [0, 1, 5]))))))
  (.seq (.region [
    ⟨(some 4), .mv, [.c (.bool true)], [], none⟩] [4])
  (.ret)))),
  [.tmp 4]⟩
/-- (*changeling/lex.reader).skip -/
def v20 : VFunc := ⟨103,
  .seq (.region [
    ⟨(some 2), .mv, [.c (.bool false)], [], none⟩] [0])
  (.scope (.seq (.label)
   (.seq (.block 0 (.loop (.seq (.seq (.region [
         ⟨(some 4), .mv, [.t 0], [], none⟩,
         ⟨(some 5), .nilCheck, [.t 4], [], none⟩,
         ⟨(some 6), (.fieldAddr 1), [.t 5], [], none⟩,
         ⟨(some 7), (.load 1 false), [.t 6], [], none⟩,
         ⟨(some 8), .mv, [.t 0], [], none⟩,
         ⟨(some 9), .nilCheck, [.t 8], [], none⟩,
         ⟨(some 10), (.fieldAddr 0), [.t 9], [], none⟩,
         ⟨(some 11), (.load 1 false), [.t 10], [], none⟩,
         ⟨(some 12), .lenStr, [.t 11], [], none⟩,
         ⟨(some 13), (.bin .lss), [.t 7, .t 12], [], none⟩] [0, 13])
       (.cond (.t 13)
        (.skip)
        (.exit 0)))
      (.block 1 (.seq (.region [
         ⟨(some 14), .mv, [.t 0], [], none⟩,
         ⟨(some 15), .nilCheck, [.t 14], [], none⟩,
         ⟨(some 16), (.fieldAddr 0), [.t 15], [], none⟩,
         ⟨(some 17), (.load 1 false), [.t 16], [], none⟩,
         ⟨(some 18), .mv, [.t 0], [], none⟩,
         ⟨(some 19), .nilCheck, [.t 18], [], none⟩,
         ⟨(some 20), (.fieldAddr 1), [.t 19], [], none⟩,
         ⟨(some 21), (.load 1 false), [.t 20], [], none⟩,
         ⟨(some 22), .indexStr, [.t 17, .t 21], [], none⟩,
         ⟨(some 3), .mv, [.t 22], [], none⟩] [0, 3])
       (.block 2 (.seq (.region [
          ⟨(some 24), .mv, [.t 3], [], none⟩,
          ⟨(some 25), (.bin .eql), [.t 24, .c (.int .u8 32)], [], none⟩,
          ⟨(some 23), .mv, [.t 25], [], none⟩] [0, 3, 23])
        (.cond (.t 23)
         (.seq (.region [
           ⟨(some 26), .mv, [.t 0], [], none⟩,
           ⟨(some 27), .nilCheck, [.t 26], [], none⟩,
           ⟨(some 28), (.fieldAddr 1), [.t 27], [], none⟩,
           ⟨(some 29), (.load 1 false), [.t 28], [], none⟩,
           ⟨(some 30), (.bin .add), [.t 29, .c (.int .i64 1)], [], none⟩,
           ⟨(some 31), .nilCheck, [.t 26], [], none⟩,
           ⟨(some 32), (.fieldAddr 1), [.t 31], [], none⟩,
           ⟨none, (.store 1), [.t 32, .t 30], [], none⟩] [0])
         (.region [
          ⟨(some 33), .mv, [.t 0], [], none⟩,
          ⟨(some 34), .nilCheck, [.t 33], [], none⟩,
          ⟨(some 35), (.fieldAddr 2), [.t 34], [], none⟩,
          ⟨(some 36), (.fieldAddr 1), [.t 35], [], none⟩,
          ⟨(some 37), (.load 1 false), [.t 36], [], none⟩,
          ⟨(some 38), (.bin .add), [.t 37, .c (.int .i64 1)], [], none⟩,
          ⟨(some 39), .nilCheck, [.t 33], [], none⟩,
          ⟨(some 40), (.fieldAddr 2), [.t 39], [], none⟩,
          ⟨(some 41), (.fieldAddr 1), [.t 40], [], none⟩,
          ⟨none, (.store 1), [.t 41, .t 38], [], none⟩] [0]))
         (.seq (.region [
           ⟨(some 43), .mv, [.t 3], [], none⟩,
           ⟨(some 44), (.bin .eql), [.t 43, .c (.int .u8 10)], [], none⟩,
           ⟨(some 42), .mv, [.t 44], [], none⟩] [0, 3, 42])
         (.cond (.t 42)
          (.seq (.region [
            ⟨(some 45), .mv, [.t 0], [], none⟩,
            ⟨(some 46), .nilCheck, [.t 45], [], none⟩,
            ⟨(some 47), (.fieldAddr 1), [.t 46], [], none⟩,
            ⟨(some 48), (.load 1 false), [.t 47], [], none⟩,
            ⟨(some 49), (.bin .add), [.t 48, .c (.int .i64 1)], [], none⟩,
            ⟨(some 50), .nilCheck, [.t 45], [], none⟩,
            ⟨(some 51), (.fieldAddr 1), [.t 50], [], none⟩,
            ⟨none, (.store 1), [.t 51, .t 49], [], none⟩] [0])
          (.region [
           ⟨(some 52), .mv, [.t 0], [], none⟩,
           ⟨(some 53), .mv, [.t 0], [], none⟩,
           ⟨(some 54), .nilCheck, [.t 53], [], none⟩,
           ⟨(some 55), (.fieldAddr 2), [.t 54], [], none⟩,
           ⟨(some 56), (.fieldAddr 0), [.t 55], [], none⟩,
           ⟨(some 57), (.load 1 false), [.t 56], [], none⟩,
           ⟨(some 58), (.bin .add), [.t 57, .c (.int .i64 1)], [], none⟩,
           ⟨(some 59), (.build [.int .i64 0, .int .i64 0] [(0, 1), (1, 1)]), [.t 58, .c (.int .i64 1)], [], none⟩,
           ⟨(some 60), .nilCheck, [.t 52], [], none⟩,
           ⟨(some 61), (.fieldAddr 2), [.t 60], [], none⟩,
           ⟨none, (.store 2), [.t 61, .t 59], [], none⟩] [0]))
          (.seq (.region [
            ⟨(some 63), .mv, [.t 3], [], none⟩,
            ⟨(some 64), (.bin .eql), [.t 63, .c (.int .u8 45)], [], none⟩,
            ⟨(some 65), .mv, [.t 64], [], none⟩,
            ⟨(some 66), .mv, [.t 0], [], some (65, true)⟩,
            ⟨(some 67), .nilCheck, [.t 66], [], some (65, true)⟩,
            ⟨(some 68), (.fieldAddr 1), [.t 67], [], some (65, true)⟩,
            ⟨(some 69), (.load 1 false), [.t 68], [], some (65, true)⟩,
            ⟨(some 70), (.bin .add), [.t 69, .c (.int .i64 1)], [], some (65, true)⟩,
            ⟨(some 71), .mv, [.t 0], [], some (65, true)⟩,
            ⟨(some 72), .nilCheck, [.t 71], [], some (65, true)⟩,
            ⟨(some 73), (.fieldAddr 0), [.t 72], [], some (65, true)⟩,
            ⟨(some 74), (.load 1 false), [.t 73], [], some (65, true)⟩,
            ⟨(some 75), .lenStr, [.t 74], [], some (65, true)⟩,
            ⟨(some 76), (.bin .lss), [.t 70, .t 75], [], some (65, true)⟩,
            ⟨(some 77), .pick, [.t 65, .t 76, .c (.bool false)], [], none⟩,
            ⟨(some 78), .mv, [.t 77], [], none⟩,
            ⟨(some 79), .mv, [.t 0], [], some (78, true)⟩,
            ⟨(some 80), .nilCheck, [.t 79], [], some (78, true)⟩,
            ⟨(some 81), (.fieldAddr 0), [.t 80], [], some (78, true)⟩,
            ⟨(some 82), (.load 1 false), [.t 81], [], some (78, true)⟩,
            ⟨(some 83), .mv, [.t 0], [], some (78, true)⟩,
            ⟨(some 84), .nilCheck, [.t 83], [], some (78, true)⟩,
            ⟨(some 85), (.fieldAddr 1), [.t 84], [], some (78, true)⟩,
            ⟨(some 86), (.load 1 false), [.t 85], [], some (78, true)⟩,
            ⟨(some 87), (.bin .add), [.t 86, .c (.int .i64 1)], [], some (78, true)⟩,
            ⟨(some 88), .indexStr, [.t 82, .t 87], [], some (78, true)⟩,
            ⟨(some 89), (.bin .eql), [.t 88, .c (.int .u8 45)], [], some (78, true)⟩,
            ⟨(some 90), .pick, [.t 78, .t 89, .c (.bool false)], [], none⟩,
            ⟨(some 62), .mv, [.t 90], [], none⟩] [0, 62])
          (.cond (.t 62)
           (.seq (.region [
             ⟨(some 91), .mv, [.t 0], [], none⟩,
             ⟨(some 92), (.call .wr), [.c (.fn 32 []), .t 91], [], none⟩] [0])
           (.exit 1))
           (.exit 0)))))))))))))
   (.seq (.region [
     ⟨(some 93), .mv, [.t 0], [], none⟩,
     ⟨(some 94), .nilCheck, [.t 93], [], none⟩,
     ⟨(some 95), (.fieldAddr 1), [.t 94], [], none⟩,
     ⟨(some 96), (.load 1 false), [.t 95], [], none⟩,
     ⟨(some 97), .mv, [.t 0], [], none⟩,
     ⟨(some 98), .nilCheck, [.t 97], [], none⟩,
     ⟨(some 99), (.fieldAddr 0), [.t 98], [], none⟩,
     ⟨(some 100), (.load 1 false), [.t 99], [], none⟩,
     ⟨(some 101), .lenStr, [.t 100], [], none⟩,
     ⟨(some 102), (.bin .lss), [.t 96, .t 101], [], none⟩,
     ⟨(some 2), .mv, [.t 102], [], none⟩] [2])
   (.ret))))),
  [.tmp 2]⟩
/-- (*changeling/lex.reader).next -/
def v21 : VFunc := ⟨123,
  .seq (.region [
    ⟨(some 2), (.alloc [.int .i64 0, .str [], .int .i64 0, .int .i64 0, .int .i64 0, .bool false]), [], [], none⟩,
    ⟨(some 3), .mv, [.c (.int .i64 0)], [], none⟩] [0, 2])
  (.seq (.region [
    ⟨(some 8), .mv, [.t 0], [], none⟩,
    ⟨(some 9), .nilCheck, [.t 8], [], none⟩,
    ⟨(some 10), (.fieldAddr 0), [.t 9], [], none⟩,
    ⟨(some 11), (.load 1 false), [.t 10], [], none⟩,
    ⟨(some 12), .mv, [.t 0], [], none⟩,
    ⟨(some 13), .nilCheck, [.t 12], [], none⟩,
    ⟨(some 14), (.fieldAddr 1), [.t 13], [], none⟩,
    ⟨(some 15), (.load 1 false), [.t 14], [], none⟩,
    ⟨(some 16), .indexStr, [.t 11, .t 15], [], none⟩,
    ⟨(some 17), (.call .wr), [.c (.fn 33 []), .t 16], [], none⟩,
    ⟨(some 4), .mv, [.t 17], [], none⟩] [0, 2, 4])
  (.seq (.seq (.region [
     ⟨(some 18), .mv, [.t 4], [], none⟩,
     ⟨(some 19), (.bin .eql), [.t 18, .c (.int .i64 0)], [], none⟩] [0, 2, 4, 19])
   (.cond (.t 19)
    (.seq (.region [
      ⟨(some 20), (.build [.int .i64 0, .str [], .int .i64 0, .int .i64 0, .int .i64 0, .bool false] []), [], [], none⟩,
      ⟨none, (.store 6), [.t 2, .t 20], [], none⟩,
      ⟨(some 3), .mv, [.c (.int .i64 20)], [], none⟩] [2, 3])
    (.ret))
    (.skip)))
  (.seq (.region [
    ⟨(some 21), .mv, [.t 0], [], none⟩,
    ⟨(some 22), .nilCheck, [.t 21], [], none⟩,
    ⟨(some 23), (.fieldAddr 1), [.t 22], [], none⟩,
    ⟨(some 24), (.load 1 false), [.t 23], [], none⟩,
    ⟨(some 5), .mv, [.t 24], [], none⟩] [0, 2, 4, 5])
  (.seq (.region [
    ⟨(some 25), .mv, [.t 0], [], none⟩,
    ⟨(some 26), .nilCheck, [.t 25], [], none⟩,
    ⟨(some 27), (.fieldAddr 2), [.t 26], [], none⟩,
    ⟨(some 28), (.load 2 true), [.t 27], [], none⟩,
    ⟨(some 29), (.build [.int .i64 0, .str [], .int .i64 0, .int .i64 0, .int .i64 0, .bool false] [(3, 2)]), [.t 28], [], none⟩,
    ⟨(some 6), (.alloc [.int .i64 0, .str [], .int .i64 0, .int .i64 0, .int .i64 0, .bool false]), [], [], none⟩,
    ⟨none, (.store 6), [.t 6, .t 29], [], none⟩] [0, 2, 4, 5, 6])
  (.seq (.region [
    ⟨(some 30), .mv, [.t 0], [], none⟩,
    ⟨(some 31), .nilCheck, [.t 30], [], none⟩,
    ⟨(some 32), (.fieldAddr 1), [.t 31], [], none⟩,
    ⟨(some 33), (.load 1 false), [.t 32], [], none⟩,
    ⟨(some 34), (.bin .add), [.t 33, .c (.int .i64 1)], [], none⟩,
    ⟨(some 35), .nilCheck, [.t 30], [], none⟩,
    ⟨(some 36), (.fieldAddr 1), [.t 35], [], none⟩,
    ⟨none, (.store 1), [.t 36, .t 34], [], none⟩] [0, 2, 4, 5, 6])
  (.seq (.block 0 (.loop (.seq (.seq (.region [
        ⟨(some 37), .mv, [.t 0], [], none⟩,
        ⟨(some 38), .nilCheck, [.t 37], [], none⟩,
        ⟨(some 39), (.fieldAddr 1), [.t 38], [], none⟩,
        ⟨(some 40), (.load 1 false), [.t 39], [], none⟩,
        ⟨(some 41), .mv, [.t 0], [], none⟩,
        ⟨(some 42), .nilCheck, [.t 41], [], none⟩,
        ⟨(some 43), (.fieldAddr 0), [.t 42], [], none⟩,
        ⟨(some 44), (.load 1 false), [.t 43], [], none⟩,
        ⟨(some 45), .lenStr, [.t 44], [], none⟩,
        ⟨(some 46), (.bin .lss), [.t 40, .t 45], [], none⟩,
        ⟨(some 47), .mv, [.t 46], [], none⟩,
        ⟨(some 48), .mv, [.t 4], [], some (47, true)⟩,
        ⟨(some 49), .mv, [.t 0], [], some (47, true)⟩,
        ⟨(some 50), .nilCheck, [.t 49], [], some (47, true)⟩,
        ⟨(some 51), (.fieldAddr 0), [.t 50], [], some (47, true)⟩,
        ⟨(some 52), (.load 1 false), [.t 51], [], some (47, true)⟩,
        ⟨(some 53), .mv, [.t 0], [], some (47, true)⟩,
        ⟨(some 54), .nilCheck, [.t 53], [], some (47, true)⟩,
        ⟨(some 55), (.fieldAddr 1), [.t 54], [], some (47, true)⟩,
        ⟨(some 56), (.load 1 false), [.t 55], [], some (47, true)⟩,
        ⟨(some 57), .indexStr, [.t 52, .t 56], [], some (47, true)⟩,
        ⟨(some 58), (.call .wr), [.c (.fn 34 []), .t 48, .t 57], [], some (47, true)⟩,
        ⟨(some 59), .pick, [.t 47, .t 58, .c (.bool false)], [], none⟩] [0, 2, 4, 5, 6, 59])
      (.cond (.t 59)
       (.skip)
       (.exit 0)))
     (.block 1 (.region [
       ⟨(some 60), .mv, [.t 0], [], none⟩,
       ⟨(some 61), .nilCheck, [.t 60], [], none⟩,
       ⟨(some 62), (.fieldAddr 1), [.t 61], [], none⟩,
       ⟨(some 63), (.load 1 false), [.t 62], [], none⟩,
       ⟨(some 64), (.bin .add), [.t 63, .c (.int .i64 1)], [], none⟩,
       ⟨(some 65), .nilCheck, [.t 60], [], none⟩,
       ⟨(some 66), (.fieldAddr 1), [.t 65], [], none⟩,
       ⟨none, (.store 1), [.t 66, .t 64], [], none⟩] [0, 2, 4, 5, 6])))))
  (.seq (.region [
    ⟨(some 67), .mv, [.t 0], [], none⟩,
    ⟨(some 68), .nilCheck, [.t 67], [], none⟩,
    ⟨(some 69), (.fieldAddr 0), [.t 68], [], none⟩,
    ⟨(some 70), (.load 1 false), [.t 69], [], none⟩,
    ⟨(some 71), .mv, [.t 5], [], none⟩,
    ⟨(some 72), .mv, [.t 0], [], none⟩,
    ⟨(some 73), .nilCheck, [.t 72], [], none⟩,
    ⟨(some 74), (.fieldAddr 1), [.t 73], [], none⟩,
    ⟨(some 75), (.load 1 false), [.t 74], [], none⟩,
    ⟨(some 76), (.sliceStr true true), [.t 70, .t 71, .t 75], [], none⟩,
    ⟨(some 77), (.fieldAddr 1), [.t 6], [], none⟩,
    ⟨none, (.store 1), [.t 77, .t 76], [], none⟩] [0, 2, 4, 5, 6])
  (.seq (.region [
    ⟨(some 78), .mv, [.t 0], [], none⟩,
    ⟨(some 79), .nilCheck, [.t 78], [], none⟩,
    ⟨(some 80), (.fieldAddr 2), [.t 79], [], none⟩,
    ⟨(some 81), (.fieldAddr 1), [.t 80], [], none⟩,
    ⟨(some 82), (.load 1 false), [.t 81], [], none⟩,
    ⟨(some 83), .mv, [.t 0], [], none⟩,
    ⟨(some 84), .nilCheck, [.t 83], [], none⟩,
    ⟨(some 85), (.fieldAddr 1), [.t 84], [], none⟩,
    ⟨(some 86), (.load 1 false), [.t 85], [], none⟩,
    ⟨(some 87), .mv, [.t 5], [], none⟩,
    ⟨(some 88), (.bin .sub), [.t 86, .t 87], [], none⟩,
    ⟨(some 89), (.bin .add), [.t 82, .t 88], [], none⟩,
    ⟨(some 90), .nilCheck, [.t 78], [], none⟩,
    ⟨(some 91), (.fieldAddr 2), [.t 90], [], none⟩,
    ⟨(some 92), (.fieldAddr 1), [.t 91], [], none⟩,
    ⟨none, (.store 1), [.t 92, .t 89], [], none⟩] [2, 4, 6])
  (.seq (.region [
    ⟨(some 93), .mv, [.t 4], [], none⟩,
    ⟨(some 94), (.fieldAddr 1), [.t 6], [], none⟩,
    ⟨(some 95), (.load 1 false), [.t 94], [], none⟩,
    ⟨(some 96), (.call .wr), [.c (.fn 35 []), .t 93, .t 95], [], none⟩,
    ⟨(some 97), (.fieldAddr 0), [.t 6], [], none⟩,
    ⟨none, (.store 1), [.t 97, .t 96], [], none⟩] [2, 6])
  (.seq (.seq (.region [
     ⟨(some 98), (.fieldAddr 0), [.t 6], [], none⟩,
     ⟨(some 99), (.load 1 false), [.t 98], [], none⟩,
     ⟨(some 100), (.bin .neq), [.t 99, .c (.int .i64 4)], [], none⟩,
     ⟨(some 101), .mv, [.t 100], [], none⟩,
     ⟨(some 102), (.fieldAddr 1), [.t 6], [], some (101, true)⟩,
     ⟨(some 103), (.load 1 false), [.t 102], [], some (101, true)⟩,
     ⟨(some 104), .lenStr, [.t 103], [], some (101, true)⟩,
     ⟨(some 105), (.bin .gtr), [.t 104, .c (.int .i64 32)], [], some (101, true)⟩,
     ⟨(some 106), .pick, [.t 101, .t 105, .c (.bool false)], [], none⟩] [2, 6, 106])
   (.cond (.t 106)
    (.seq (.region [
      ⟨(some 107), (.build [.int .i64 0, .str [], .int .i64 0, .int .i64 0, .int .i64 0, .bool false] []), [], [], none⟩,
      ⟨none, (.store 6), [.t 2, .t 107], [], none⟩,
      ⟨(some 3), .mv, [.c (.int .i64 2)], [], none⟩] [2, 3])
    (.ret))
    (.skip)))
  (.seq (.region [
    ⟨(some 7), .mv, [.c (.int .i64 0)], [], none⟩] [2, 6, 7])
  (.seq (.seq (.region [
     ⟨(some 108), (.fieldAddr 0), [.t 6], [], none⟩,
     ⟨(some 109), (.load 1 false), [.t 108], [], none⟩,
     ⟨(some 110), (.bin .eql), [.t 109, .c (.int .i64 4)], [], none⟩] [2, 6, 7, 110])
   (.cond (.t 110)
    (.region [
     ⟨(some 112), (.fieldAddr 1), [.t 6], [], none⟩,
     ⟨(some 113), (.load 1 false), [.t 112], [], none⟩,
     ⟨(some 114), (.call .wr), [.c (.fn 36 []), .t 113], [], none⟩,
     ⟨(some 111), .mv, [.t 114], [], none⟩,
     ⟨(some 115), (.extract 0), [.t 111], [], none⟩,
     ⟨(some 116), (.extract 1), [.t 111], [], none⟩,
     ⟨(some 117), (.fieldAddr 2), [.t 6], [], none⟩,
     ⟨none, (.store 1), [.t 117, .t 115], [], none⟩,
     ⟨(some 7), .mv, [.t 116], [], none⟩] [2, 6, 7])
    (.skip)))
  (.seq (.seq (.region [
     ⟨(some 118), .mv, [.t 7], [], none⟩,
     ⟨(some 119), (.bin .neq), [.t 118, .c (.int .i64 0)], [], none⟩] [2, 6, 7, 119])
   (.cond (.t 119)
    (.seq (.region [
      ⟨(some 120), (.build [.int .i64 0, .str [], .int .i64 0, .int .i64 0, .int .i64 0, .bool false] []), [], [], none⟩,
      ⟨(some 121), .mv, [.t 7], [], none⟩,
      ⟨none, (.store 6), [.t 2, .t 120], [], none⟩,
      ⟨(some 3), .mv, [.t 121], [], none⟩] [2, 3])
    (.ret))
    (.skip)))
  (.seq (.region [
    ⟨(some 122), (.load 6 true), [.t 6], [], none⟩,
    ⟨none, (.store 6), [.t 2, .t 122], [], none⟩,
    ⟨(some 3), .mv, [.c (.int .i64 0)], [], none⟩] [2, 3])
  (.ret))))))))))))))),
  [.cell 2 6 true, .tmp 3]⟩
/-- changeling/changelinglaw04.texts -/
def v22 : VFunc := ⟨20,
  .seq (.region [
    ⟨(some 2), .mv, [.c (.str [])], [], none⟩] [0])
  (.seq (.region [
    ⟨(some 3), .mv, [.c (.str [])], [], none⟩] [0, 3])
  (.seq (.seq (.region [
     ⟨(some 4), .mv, [.c (.int .i64 0)], [], none⟩] [0, 3, 4])
   (.block 0 (.loop (.seq (.seq (.region [
        ⟨(some 5), .mv, [.t 4], [], none⟩,
        ⟨(some 6), .mv, [.t 0], [], none⟩,
        ⟨(some 7), .len, [.t 6], [], none⟩,
        ⟨(some 8), (.bin .lss), [.t 5, .t 7], [], none⟩] [0, 3, 4, 8])
      (.cond (.t 8)
       (.skip)
       (.exit 0)))
     (.seq (.block 1 (.region [
        ⟨(some 11), .mv, [.t 3], [], none⟩,
        ⟨(some 12), .mv, [.t 0], [], none⟩,
        ⟨(some 13), .mv, [.t 4], [], none⟩,
        ⟨(some 14), (.indexAddr 6), [.t 12, .t 13], [], none⟩,
        ⟨(some 15), (.fieldAddr 1), [.t 14], [], none⟩,
        ⟨(some 16), (.load 1 false), [.t 15], [], none⟩,
        ⟨(some 17), (.bin .add), [.t 11, .t 16], [], none⟩,
        ⟨(some 18), (.bin .add), [.t 17, .c (.str [32])], [], none⟩,
        ⟨(some 3), .mv, [.t 18], [], none⟩] [0, 3, 4]))
     (.region [
      ⟨(some 9), .mv, [.t 4], [], none⟩,
      ⟨(some 10), (.bin .add), [.t 9, .c (.int .i64 1)], [], none⟩,
      ⟨(some 4), .mv, [.t 10], [], none⟩] [0, 3, 4]))))))
  (.seq (.region [
    ⟨(some 19), .mv, [.t 3], [], none⟩,
    ⟨(some 2), .mv, [.t 19], [], none⟩] [2])
  (.ret)))),
  [.tmp 2]⟩
/-- (*changeling/layout.layer).starts -/
def v23 : VFunc := ⟨33,
  .seq (.region [
    ⟨(some 3), .box, [.t 1], [], none⟩,
    ⟨(some 4), .mv, [.c (.bool false)], [], none⟩] [0, 3])
  (.seq (.region [
    ⟨(some 5), .mv, [.t 0], [], none⟩,
    ⟨(some 6), .nilCheck, [.t 5], [], none⟩,
    ⟨(some 7), (.fieldAddr 2), [.t 6], [], none⟩,
    ⟨none, (.store 1), [.t 7, .c (.bool false)], [], none⟩] [0, 3])
  (.seq (.seq (.region [
     ⟨(some 8), (.fieldAddr 0), [.t 3], [], none⟩,
     ⟨(some 9), (.load 1 false), [.t 8], [], none⟩,
     ⟨(some 10), (.bin .eql), [.t 9, .c (.int .i64 5)], [], none⟩,
     ⟨(some 11), .mv, [.t 10], [], none⟩,
     ⟨(some 12), (.fieldAddr 1), [.t 3], [], some (11, true)⟩,
     ⟨(some 13), (.load 1 false), [.t 12], [], some (11, true)⟩,
     ⟨(some 14), (.bin .eql), [.t 13, .c (.str [123])], [], some (11, true)⟩,
     ⟨(some 15), .pick, [.t 11, .t 14, .c (.bool false)], [], none⟩] [0, 3, 15])
   (.cond (.t 15)
    (.seq (.region [
      ⟨(some 4), .mv, [.c (.bool true)], [], none⟩] [4])
    (.ret))
    (.skip)))
  (.seq (.seq (.region [
     ⟨(some 16), (.fieldAddr 3), [.t 3], [], none⟩,
     ⟨(some 17), (.fieldAddr 1), [.t 16], [], none⟩,
     ⟨(some 18), (.load 1 false), [.t 17], [], none⟩,
     ⟨(some 19), .mv, [.t 0], [], none⟩,
     ⟨(some 20), (.call .rd), [.c (.fn 37 []), .t 19], [], none⟩,
     ⟨(some 21), (.bin .gtr), [.t 18, .t 20], [], none⟩] [0, 3, 21])
   (.cond (.t 21)
    (.seq (.region [
      ⟨(some 22), .mv, [.t 0], [], none⟩,
      ⟨(some 23), (.call .wr), [.c (.fn 27 []), .t 22, .c (.str [123])], [], none⟩] [0, 3])
    (.seq (.region [
      ⟨(some 24), .mv, [.t 0], [], none⟩,
      ⟨(some 25), (.fieldAddr 3), [.t 3], [], none⟩,
      ⟨(some 26), (.fieldAddr 1), [.t 25], [], none⟩,
      ⟨(some 27), (.load 1 false), [.t 26], [], none⟩,
      ⟨(some 28), (.call .wr), [.c (.fn 38 []), .t 24, .c (.int .i64 0), .t 27], [], none⟩] [])
    (.seq (.region [
      ⟨(some 4), .mv, [.c (.bool true)], [], none⟩] [4])
    (.ret))))
    (.skip)))
  (.seq (.region [
    ⟨(some 29), .mv, [.t 0], [], none⟩,
    ⟨(some 30), (.call .wr), [.c (.fn 27 []), .t 29, .c (.str [123])], [], none⟩] [0])
  (.seq (.region [
    ⟨(some 31), .mv, [.t 0], [], none⟩,
    ⟨(some 32), (.call .wr), [.c (.fn 27 []), .t 31, .c (.str [125])], [], none⟩] [])
  (.seq (.region [
    ⟨(some 4), .mv, [.c (.bool false)], [], none⟩] [4])
  (.ret))))))),
  [.tmp 4]⟩
/-- (*changeling/layout.layer).begins -/
def v24 : VFunc := ⟨38,
  .seq (.region [
    ⟨(some 3), .box, [.t 1], [], none⟩] [0, 3])
  (.seq (.block 0 (.loop (.seq (.seq (.region [
        ⟨(some 4), .mv, [.t 0], [], none⟩,
        ⟨(some 5), (.call .rd), [.c (.fn 39 []), .t 4], [], none⟩,
        ⟨(some 6), .mv, [.t 5], [], none⟩,
        ⟨(some 7), .mv, [.t 0], [], some (6, true)⟩,
        ⟨(some 8), (.call .rd), [.c (.fn 37 []), .t 7], [], some (6, true)⟩,
        ⟨(some 9), (.fieldAddr 3), [.t 3], [], some (6, true)⟩,
        ⟨(some 10), (.fieldAddr 1), [.t 9], [], some (6, true)⟩,
        ⟨(some 11), (.load 1 false), [.t 10], [], some (6, true)⟩,
        ⟨(some 12), (.bin .gtr), [.t 8, .t 11], [], some (6, true)⟩,
        ⟨(some 13), .pick, [.t 6, .t 12, .c (.bool false)], [], none⟩] [0, 3, 13])
      (.cond (.t 13)
       (.skip)
       (.exit 0)))
     (.block 1 (.seq (.region [
        ⟨(some 14), .mv, [.t 0], [], none⟩,
        ⟨(some 15), .mv, [.t 0], [], none⟩,
        ⟨(some 16), .nilCheck, [.t 15], [], none⟩,
        ⟨(some 17), (.fieldAddr 1), [.t 16], [], none⟩,
        ⟨(some 18), (.load 1 false), [.t 17], [], none⟩,
        ⟨(some 19), .mv, [.t 0], [], none⟩,
        ⟨(some 20), (.call .rd), [.c (.fn 40 []), .t 19], [], none⟩,
        ⟨(some 21), (.slice false true 2), [.t 18, .t 20], [], none⟩,
        ⟨(some 22), .nilCheck, [.t 14], [], none⟩,
        ⟨(some 23), (.fieldAddr 1), [.t 22], [], none⟩,
        ⟨none, (.store 1), [.t 23, .t 21], [21], none⟩] [0, 3])
      (.region [
       ⟨(some 24), .mv, [.t 0], [], none⟩,
       ⟨(some 25), (.call .wr), [.c (.fn 27 []), .t 24, .c (.str [125])], [], none⟩] [0, 3]))))))
  (.seq (.region [
    ⟨(some 26), .mv, [.t 0], [], none⟩,
    ⟨(some 27), (.call .rd), [.c (.fn 39 []), .t 26], [], none⟩,
    ⟨(some 28), .mv, [.t 27], [], none⟩,
    ⟨(some 29), .mv, [.t 0], [], some (28, true)⟩,
    ⟨(some 30), (.call .rd), [.c (.fn 37 []), .t 29], [], some (28, true)⟩,
    ⟨(some 31), (.fieldAddr 3), [.t 3], [], some (28, true)⟩,
    ⟨(some 32), (.fieldAddr 1), [.t 31], [], some (28, true)⟩,
    ⟨(some 33), (.load 1 false), [.t 32], [], some (28, true)⟩,
    ⟨(some 34), (.bin .eql), [.t 30, .t 33], [], some (28, true)⟩,
    ⟨(some 35), .pick, [.t 28, .t 34, .c (.bool false)], [], none⟩] [0, 35])
  (.cond (.t 35)
   (.region [
    ⟨(some 36), .mv, [.t 0], [], none⟩,
    ⟨(some 37), (.call .wr), [.c (.fn 27 []), .t 36, .c (.str [59])], [], none⟩] [])
   (.skip)))),
  []⟩
/-- (*changeling/layout.layer).closes -/
def v25 : VFunc := ⟨65,
  .seq (.region [
    ⟨(some 3), .box, [.t 1], [], none⟩] [0, 3])
  (.seq (.region [
    ⟨(some 4), .mv, [.c (.int .i64 (-1))], [], none⟩] [0, 3, 4])
  (.seq (.block 0 (.seq (.region [
      ⟨(some 6), (.fieldAddr 0), [.t 3], [], none⟩,
      ⟨(some 7), (.load 1 false), [.t 6], [], none⟩,
      ⟨(some 8), (.bin .eql), [.t 7, .c (.int .i64 5)], [], none⟩,
      ⟨(some 9), .mv, [.t 8], [], none⟩,
      ⟨(some 10), (.fieldAddr 1), [.t 3], [], some (9, true)⟩,
      ⟨(some 11), (.load 1 false), [.t 10], [], some (9, true)⟩,
      ⟨(some 12), (.bin .eql), [.t 11, .c (.str [41])], [], some (9, true)⟩,
      ⟨(some 13), .pick, [.t 9, .t 12, .c (.bool false)], [], none⟩,
      ⟨(some 5), .mv, [.t 13], [], none⟩] [0, 3, 4, 5])
    (.cond (.t 5)
     (.region [
      ⟨(some 14), .mv, [.t 0], [], none⟩,
      ⟨(some 15), (.buildSl 1), [.c (.int .i64 1)], [], none⟩,
      ⟨(some 16), (.call .wr), [.c (.fn 41 []), .t 14, .c (.int .i64 2), .t 15], [15], none⟩,
      ⟨(some 4), .mv, [.t 16], [], none⟩] [0, 4])
     (.seq (.region [
       ⟨(some 18), (.fieldAddr 0), [.t 3], [], none⟩,
       ⟨(some 19), (.load 1 false), [.t 18], [], none⟩,
       ⟨(some 20), (.bin .eql), [.t 19, .c (.int .i64 5)], [], none⟩,
       ⟨(some 21), .mv, [.t 20], [], none⟩,
       ⟨(some 22), (.fieldAddr 1), [.t 3], [], some (21, true)⟩,
       ⟨(some 23), (.load 1 false), [.t 22], [], some (21, true)⟩,
       ⟨(some 24), (.bin .eql), [.t 23, .c (.str [125])], [], some (21, true)⟩,
       ⟨(some 25), .pick, [.t 21, .t 24, .c (.bool false)], [], none⟩,
       ⟨(some 17), .mv, [.t 25], [], none⟩] [0, 3, 4, 17])
     (.cond (.t 17)
      (.region [
       ⟨(some 26), .mv, [.t 0], [], none⟩,
       ⟨(some 27), (.call .wr), [.c (.fn 41 []), .t 26, .c (.int .i64 1), .c (.sl true 1 [])], [], none⟩,
       ⟨(some 4), .mv, [.t 27], [], none⟩] [0, 4])
      (.seq (.region [
        ⟨(some 29), (.fieldAddr 0), [.t 3], [], none⟩,
        ⟨(some 30), (.load 1 false), [.t 29], [], none⟩,
        ⟨(some 31), (.bin .neq), [.t 30, .c (.int .i64 6)], [], none⟩,
        ⟨(some 28), .mv, [.t 31], [], none⟩] [0, 3, 4, 28])
      (.cond (.t 28)
       (.skip)
       (.seq (.region [
         ⟨(some 33), (.fieldAddr 1), [.t 3], [], none⟩,
         ⟨(some 34), (.load 1 false), [.t 33], [], none⟩,
         ⟨(some 35), (.bin .eql), [.t 34, .c (.str [105, 110])], [], none⟩,
         ⟨(some 32), .mv, [.t 35], [], none⟩] [0, 3, 4, 32])
       (.cond (.t 32)
        (.region [
         ⟨(some 36), .mv, [.t 0], [], none⟩,
         ⟨(some 37), (.buildSl 1), [.c (.int .i64 1), .c (.int .i64 2)], [], none⟩,
         ⟨(some 38), (.call .wr), [.c (.fn 41 []), .t 36, .c (.int .i64 3), .t 37], [37], none⟩,
         ⟨(some 4), .mv, [.t 38], [], none⟩] [0, 4])
        (.seq (.region [
          ⟨(some 40), (.fieldAddr 1), [.t 3], [], none⟩,
          ⟨(some 41), (.load 1 false), [.t 40], [], none⟩,
          ⟨(some 42), (.bin .eql), [.t 41, .c (.str [111, 102])], [], none⟩,
          ⟨(some 39), .mv, [.t 42], [], none⟩] [0, 3, 4, 39])
        (.cond (.t 39)
         (.region [
          ⟨(some 43), .mv, [.t 0], [], none⟩,
          ⟨(some 44), (.buildSl 1), [.c (.int .i64 1), .c (.int .i64 2)], [], none⟩,
          ⟨(some 45), (.call .wr), [.c (.fn 41 []), .t 43, .c (.int .i64 4), .t 44], [44], none⟩,
          ⟨(some 4), .mv, [.t 45], [], none⟩] [0, 4])
         (.seq (.region [
           ⟨(some 47), (.fieldAddr 1), [.t 3], [], none⟩,
           ⟨(some 48), (.load 1 false), [.t 47], [], none⟩,
           ⟨(some 49), (.bin .eql), [.t 48, .c (.str [116, 104, 101, 110])], [], none⟩,
           ⟨(some 46), .mv, [.t 49], [], none⟩] [0, 3, 4, 46])
         (.cond (.t 46)
          (.region [
           ⟨(some 50), .mv, [.t 0], [], none⟩,
           ⟨(some 51), (.buildSl 1), [.c (.int .i64 1), .c (.int .i64 2)], [], none⟩,
           ⟨(some 52), (.call .wr), [.c (.fn 41 []), .t 50, .c (.int .i64 5), .t 51], [51], none⟩,
           ⟨(some 4), .mv, [.t 52], [], none⟩] [0, 4])
          (.seq (.region [
            ⟨(some 54), (.fieldAddr 1), [.t 3], [], none⟩,
            ⟨(some 55), (.load 1 false), [.t 54], [], none⟩,
            ⟨(some 56), (.bin .eql), [.t 55, .c (.str [101, 108, 115, 101])], [], none⟩,
            ⟨(some 53), .mv, [.t 56], [], none⟩] [0, 4, 53])
          (.cond (.t 53)
           (.region [
            ⟨(some 57), .mv, [.t 0], [], none⟩,
            ⟨(some 58), (.buildSl 1), [.c (.int .i64 1), .c (.int .i64 2)], [], none⟩,
            ⟨(some 59), (.call .wr), [.c (.fn 41 []), .t 57, .c (.int .i64 6), .t 58], [58], none⟩,
            ⟨(some 4), .mv, [.t 59], [], none⟩] [0, 4])
           (.skip))))))))))))))))
  (.seq (.region [
    ⟨(some 60), .mv, [.t 4], [], none⟩,
    ⟨(some 61), (.bin .geq), [.t 60, .c (.int .i64 0)], [], none⟩] [0, 4, 61])
  (.cond (.t 61)
   (.region [
    ⟨(some 62), .mv, [.t 0], [], none⟩,
    ⟨(some 63), .mv, [.t 4], [], none⟩,
    ⟨(some 64), (.call .wr), [.c (.fn 42 []), .t 62, .t 63], [], none⟩] [])
   (.skip))))),
  []⟩
/-- (*changeling/layout.layer).opens -/
def v26 : VFunc := ⟨64,
  .seq (.region [
    ⟨(some 3), .box, [.t 1], [], none⟩] [0, 3])
  (.block 0 (.seq (.region [
     ⟨(some 5), (.fieldAddr 0), [.t 3], [], none⟩,
     ⟨(some 6), (.load 1 false), [.t 5], [], none⟩,
     ⟨(some 7), (.bin .eql), [.t 6, .c (.int .i64 5)], [], none⟩,
     ⟨(some 8), .mv, [.t 7], [], none⟩,
     ⟨(some 9), (.fieldAddr 1), [.t 3], [], some (8, true)⟩,
     ⟨(some 10), (.load 1 false), [.t 9], [], some (8, true)⟩,
     ⟨(some 11), (.bin .eql), [.t 10, .c (.str [40])], [], some (8, true)⟩,
     ⟨(some 12), .pick, [.t 8, .t 11, .c (.bool false)], [], none⟩,
     ⟨(some 4), .mv, [.t 12], [], none⟩] [0, 3, 4])
   (.cond (.t 4)
    (.region [
     ⟨(some 13), .mv, [.t 0], [], none⟩,
     ⟨(some 14), (.call .wr), [.c (.fn 38 []), .t 13, .c (.int .i64 2), .c (.int .i64 0)], [], none⟩] [])
    (.seq (.region [
      ⟨(some 16), (.fieldAddr 0), [.t 3], [], none⟩,
      ⟨(some 17), (.load 1 false), [.t 16], [], none⟩,
      ⟨(some 18), (.bin .eql), [.t 17, .c (.int .i64 5)], [], none⟩,
      ⟨(some 19), .mv, [.t 18], [], none⟩,
      ⟨(some 20), (.fieldAddr 1), [.t 3], [], some (19, true)⟩,
      ⟨(some 21), (.load 1 false), [.t 20], [], some (19, true)⟩,
      ⟨(some 22), (.bin .eql), [.t 21, .c (.str [123])], [], some (19, true)⟩,
      ⟨(some 23), .pick, [.t 19, .t 22, .c (.bool false)], [], none⟩,
      ⟨(some 15), .mv, [.t 23], [], none⟩] [0, 3, 15])
    (.cond (.t 15)
     (.region [
      ⟨(some 24), .mv, [.t 0], [], none⟩,
      ⟨(some 25), (.call .wr), [.c (.fn 38 []), .t 24, .c (.int .i64 1), .c (.int .i64 0)], [], none⟩] [])
     (.seq (.region [
       ⟨(some 27), (.fieldAddr 0), [.t 3], [], none⟩,
       ⟨(some 28), (.load 1 false), [.t 27], [], none⟩,
       ⟨(some 29), (.bin .neq), [.t 28, .c (.int .i64 6)], [], none⟩,
       ⟨(some 26), .mv, [.t 29], [], none⟩] [0, 3, 26])
     (.cond (.t 26)
      (.skip)
      (.seq (.region [
        ⟨(some 31), (.fieldAddr 1), [.t 3], [], none⟩,
        ⟨(some 32), (.load 1 false), [.t 31], [], none⟩,
        ⟨(some 33), (.bin .eql), [.t 32, .c (.str [108, 101, 116])], [], none⟩,
        ⟨(some 30), .mv, [.t 33], [], none⟩] [0, 3, 30])
      (.cond (.t 30)
       (.seq (.region [
         ⟨(some 34), .mv, [.t 0], [], none⟩,
         ⟨(some 35), (.call .wr), [.c (.fn 38 []), .t 34, .c (.int .i64 3), .c (.int .i64 0)], [], none⟩] [0])
       (.region [
        ⟨(some 36), .mv, [.t 0], [], none⟩,
        ⟨(some 37), .nilCheck, [.t 36], [], none⟩,
        ⟨(some 38), (.fieldAddr 2), [.t 37], [], none⟩,
        ⟨none, (.store 1), [.t 38, .c (.bool true)], [], none⟩] []))
       (.seq (.region [
         ⟨(some 40), (.fieldAddr 1), [.t 3], [], none⟩,
         ⟨(some 41), (.load 1 false), [.t 40], [], none⟩,
         ⟨(some 42), (.bin .eql), [.t 41, .c (.str [99, 97, 115, 101])], [], none⟩,
         ⟨(some 39), .mv, [.t 42], [], none⟩] [0, 3, 39])
       (.cond (.t 39)
        (.region [
         ⟨(some 43), .mv, [.t 0], [], none⟩,
         ⟨(some 44), (.call .wr), [.c (.fn 38 []), .t 43, .c (.int .i64 4), .c (.int .i64 0)], [], none⟩] [])
        (.seq (.region [
          ⟨(some 46), (.fieldAddr 1), [.t 3], [], none⟩,
          ⟨(some 47), (.load 1 false), [.t 46], [], none⟩,
          ⟨(some 48), (.bin .eql), [.t 47, .c (.str [111, 102])], [], none⟩,
          ⟨(some 45), .mv, [.t 48], [], none⟩] [0, 3, 45])
        (.cond (.t 45)
         (.region [
          ⟨(some 49), .mv, [.t 0], [], none⟩,
          ⟨(some 50), .nilCheck, [.t 49], [], none⟩,
          ⟨(some 51), (.fieldAddr 2), [.t 50], [], none⟩,
          ⟨none, (.store 1), [.t 51, .c (.bool true)], [], none⟩] [])
         (.seq (.region [
           ⟨(some 53), (.fieldAddr 1), [.t 3], [], none⟩,
           ⟨(some 54), (.load 1 false), [.t 53], [], none⟩,
           ⟨(some 55), (.bin .eql), [.t 54, .c (.str [105, 102])], [], none⟩,
           ⟨(some 52), .mv, [.t 55], [], none⟩] [0, 3, 52])
         (.cond (.t 52)
          (.region [
           ⟨(some 56), .mv, [.t 0], [], none⟩,
           ⟨(some 57), (.call .wr), [.c (.fn 38 []), .t 56, .c (.int .i64 5), .c (.int .i64 0)], [], none⟩] [])
          (.seq (.region [
            ⟨(some 59), (.fieldAddr 1), [.t 3], [], none⟩,
            ⟨(some 60), (.load 1 false), [.t 59], [], none⟩,
            ⟨(some 61), (.bin .eql), [.t 60, .c (.str [116, 104, 101, 110])], [], none⟩,
            ⟨(some 58), .mv, [.t 61], [], none⟩] [0, 58])
          (.cond (.t 58)
           (.region [
            ⟨(some 62), .mv, [.t 0], [], none⟩,
            ⟨(some 63), (.call .wr), [.c (.fn 38 []), .t 62, .c (.int .i64 6), .c (.int .i64 0)], [], none⟩] [])
           (.skip)))))))))))))))))),
  []⟩
/-- (*changeling/layout.layer).make -/
def v27 : VFunc := ⟨19,
  .region [
   ⟨(some 4), .mv, [.t 0], [], none⟩,
   ⟨(some 5), .mv, [.t 0], [], none⟩,
   ⟨(some 6), .nilCheck, [.t 5], [], none⟩,
   ⟨(some 7), (.fieldAddr 0), [.t 6], [], none⟩,
   ⟨(some 8), (.loadT 1 false), [.t 7], [], none⟩,
   ⟨(some 9), .mv, [.t 1], [], none⟩,
   ⟨(some 10), .mv, [.t 0], [], none⟩,
   ⟨(some 11), .nilCheck, [.t 10], [], none⟩,
   ⟨(some 12), (.fieldAddr 3), [.t 11], [], none⟩,
   ⟨(some 13), (.load 2 true), [.t 12], [], none⟩,
   ⟨(some 14), (.build [.int .i64 0, .str [], .int .i64 0, .int .i64 0, .int .i64 0, .bool false] [(0, 1), (1, 1), (3, 2), (5, 1)]), [.c (.int .i64 5), .t 9, .t 13, .c (.bool true)], [], none⟩,
   ⟨(some 15), (.buildSl 6), [.t 14], [], none⟩,
   ⟨(some 16), (.append 6 56), [.t 8, .t 15], [8], none⟩,
   ⟨(some 17), .nilCheck, [.t 4], [], none⟩,
   ⟨(some 18), (.fieldAddr 0), [.t 17], [], none⟩,
   ⟨none, (.store 1), [.t 18, .t 16], [16], none⟩] [],
  []⟩
/-- changeling/changelingref04.step -/
def v28 : VFunc := ⟨106,
  .seq (.region [
    ⟨(some 3), .box, [.t 0], [0], none⟩,
    ⟨(some 4), .box, [.t 1], [], none⟩,
    ⟨(some 6), (.alloc [.sl true 6 [], .nilh 2, .bool false]), [], [], none⟩] [2, 3, 4, 6])
  (.seq (.seq (.region [
     ⟨(some 9), (.fieldAddr 2), [.t 3], [], none⟩,
     ⟨(some 10), (.load 1 false), [.t 9], [], none⟩] [2, 3, 4, 6, 10])
   (.cond (.t 10)
    (.seq (.region [
      ⟨(some 11), (.fieldAddr 2), [.t 3], [], none⟩,
      ⟨none, (.store 1), [.t 11, .c (.bool false)], [], none⟩] [2, 3, 4, 6])
    (.seq (.region [
      ⟨(some 12), (.fieldAddr 1), [.t 3], [], none⟩,
      ⟨(some 13), (.load 1 false), [.t 12], [], none⟩,
      ⟨(some 14), (.call .wr), [.c (.fn 43 []), .t 13], [13], none⟩,
      ⟨(some 7), (.alloc [.str [], .int .i64 0]), [], [], none⟩,
      ⟨none, (.store 2), [.t 7, .t 14], [], none⟩] [2, 3, 4, 6, 7])
    (.seq (.seq (.region [
       ⟨(some 15), (.load 6 true), [.t 4], [], none⟩,
       ⟨(some 16), (.call .wr), [.c (.fn 30 []), .t 15, .c (.str [123])], [], none⟩] [2, 3, 4, 6, 7, 16])
     (.cond (.t 16)
      (.seq (.region [
        ⟨(some 17), (.loadT 3 true), [.t 3], [], none⟩,
        ⟨(some 18), (.load 6 true), [.t 4], [], none⟩,
        ⟨(some 19), (.call .wr), [.c (.fn 44 []), .t 17, .t 18], [17], none⟩,
        ⟨none, (.store 3), [.t 6, .t 19], [19], none⟩] [6])
      (.ret))
      (.skip)))
    (.seq (.region [
      ⟨(some 20), (.loadT 3 true), [.t 3], [], none⟩,
      ⟨(some 21), (.fieldAddr 3), [.t 4], [], none⟩,
      ⟨(some 22), (.load 2 true), [.t 21], [], none⟩,
      ⟨(some 23), (.call .wr), [.c (.fn 29 []), .t 20, .c (.str [123]), .t 22], [20], none⟩,
      ⟨none, (.store 3), [.t 3, .t 23], [23], none⟩] [2, 3, 4, 6, 7])
    (.seq (.seq (.region [
       ⟨(some 24), (.fieldAddr 0), [.t 7], [], none⟩,
       ⟨(some 25), (.load 1 false), [.t 24], [], none⟩,
       ⟨(some 26), (.bin .neq), [.t 25, .c (.str [98, 108, 111, 99, 107])], [], none⟩,
       ⟨(some 27), .mv, [.t 26], [], none⟩,
       ⟨(some 28), (.fieldAddr 3), [.t 4], [], some (27, true)⟩,
       ⟨(some 29), (.fieldAddr 1), [.t 28], [], some (27, true)⟩,
       ⟨(some 30), (.load 1 false), [.t 29], [], some (27, true)⟩,
       ⟨(some 31), (.bin .gtr), [.t 30, .c (.int .i64 0)], [], some (27, true)⟩,
       ⟨(some 32), .pick, [.t 27, .t 31, .c (.bool false)], [], none⟩,
       ⟨(some 33), .mv, [.t 32], [], none⟩,
       ⟨(some 34), (.fieldAddr 0), [.t 7], [], some (33, false)⟩,
       ⟨(some 35), (.load 1 false), [.t 34], [], some (33, false)⟩,
       ⟨(some 36), (.bin .eql), [.t 35, .c (.str [98, 108, 111, 99, 107])], [], some (33, false)⟩,
       ⟨(some 37), .mv, [.t 36], [], some (33, false)⟩,
       ⟨(some 38), (.fieldAddr 3), [.t 4], [], some (37, true)⟩,
       ⟨(some 39), (.fieldAddr 1), [.t 38], [], some (37, true)⟩,
       ⟨(some 40), (.load 1 false), [.t 39], [], some (37, true)⟩,
       ⟨(some 41), (.fieldAddr 1), [.t 7], [], some (37, true)⟩,
       ⟨(some 42), (.load 1 false), [.t 41], [], some (37, true)⟩,
       ⟨(some 43), (.bin .gtr), [.t 40, .t 42], [], some (37, true)⟩,
       ⟨(some 44), .pick, [.t 37, .t 43, .c (.bool false)], [], some (33, false)⟩,
       ⟨(some 45), .pick, [.t 33, .c (.bool true), .t 44], [], none⟩] [2, 3, 4, 6, 45])
     (.cond (.t 45)
      (.seq (.region [
        ⟨(some 46), (.loadT 3 true), [.t 3], [], none⟩,
        ⟨(some 47), (.fieldAddr 3), [.t 4], [], none⟩,
        ⟨(some 48), (.fieldAddr 1), [.t 47], [], none⟩,
        ⟨(some 49), (.load 1 false), [.t 48], [], none⟩,
        ⟨(some 50), (.call .wr), [.c (.fn 45 []), .t 46, .c (.str [98, 108, 111, 99, 107]), .t 49], [46], none⟩,
        ⟨none, (.store 3), [.t 3, .t 50], [50], none⟩] [3, 4, 6])
      (.seq (.region [
        ⟨(some 51), (.loadT 3 true), [.t 3], [], none⟩,
        ⟨(some 52), (.load 6 true), [.t 4], [], none⟩,
        ⟨(some 53), (.call .gr), [.c (.fn 46 []), .t 51, .t 52], [51], none⟩,
        ⟨(some 54), (.load 6 true), [.t 4], [], none⟩,
        ⟨(some 55), (.call .wr), [.c (.fn 44 []), .t 53, .t 54], [53], none⟩,
        ⟨none, (.store 3), [.t 6, .t 55], [55], none⟩] [6])
      (.ret)))
      (.skip)))
    (.region [
     ⟨(some 56), (.loadT 3 true), [.t 3], [], none⟩,
     ⟨(some 57), (.fieldAddr 3), [.t 4], [], none⟩,
     ⟨(some 58), (.load 2 true), [.t 57], [], none⟩,
     ⟨(some 59), (.call .wr), [.c (.fn 29 []), .t 56, .c (.str [125]), .t 58], [56], none⟩,
     ⟨none, (.store 3), [.t 3, .t 59], [59], none⟩] [2, 3, 4, 6]))))))
    (.skip)))
  (.seq (.seq (.region [
     ⟨(some 60), .mv, [.t 2], [], none⟩] [3, 4, 6, 60])
   (.cond (.t 60)
    (.seq (.region [
      ⟨(some 61), (.fieldAddr 1), [.t 3], [], none⟩,
      ⟨(some 62), (.load 1 false), [.t 61], [], none⟩,
      ⟨(some 63), (.call .wr), [.c (.fn 43 []), .t 62], [62], none⟩,
      ⟨(some 8), (.alloc [.str [], .int .i64 0]), [], [], none⟩,
      ⟨none, (.store 2), [.t 8, .t 63], [], none⟩] [3, 4, 6, 8])
    (.seq (.block 0 (.loop (.seq (.seq (.region [
          ⟨(some 64), (.fieldAddr 0), [.t 8], [], none⟩,
          ⟨(some 65), (.load 1 false), [.t 64], [], none⟩,
          ⟨(some 66), (.bin .eql), [.t 65, .c (.str [98, 108, 111, 99, 107])], [], none⟩,
          ⟨(some 67), .mv, [.t 66], [], none⟩,
          ⟨(some 68), (.fieldAddr 1), [.t 8], [], some (67, true)⟩,
          ⟨(some 69), (.load 1 false), [.t 68], [], some (67, true)⟩,
          ⟨(some 70), (.fieldAddr 3), [.t 4], [], some (67, true)⟩,
          ⟨(some 71), (.fieldAddr 1), [.t 70], [], some (67, true)⟩,
          ⟨(some 72), (.load 1 false), [.t 71], [], some (67, true)⟩,
          ⟨(some 73), (.bin .gtr), [.t 69, .t 72], [], some (67, true)⟩,
          ⟨(some 74), .pick, [.t 67, .t 73, .c (.bool false)], [], none⟩] [3, 4, 6, 8, 74])
        (.cond (.t 74)
         (.skip)
         (.exit 0)))
       (.block 1 (.seq (.region [
          ⟨(some 75), (.fieldAddr 1), [.t 3], [], none⟩,
          ⟨(some 76), (.load 1 false), [.t 75], [], none⟩,
          ⟨(some 77), (.call .wr), [.c (.fn 47 []), .t 76], [76], none⟩,
          ⟨(some 78), (.fieldAddr 1), [.t 3], [], none⟩,
          ⟨none, (.store 1), [.t 78, .t 77], [77], none⟩] [3, 4, 6, 8])
        (.seq (.region [
          ⟨(some 79), (.loadT 3 true), [.t 3], [], none⟩,
          ⟨(some 80), (.fieldAddr 3), [.t 4], [], none⟩,
          ⟨(some 81), (.load 2 true), [.t 80], [], none⟩,
          ⟨(some 82), (.call .wr), [.c (.fn 29 []), .t 79, .c (.str [125]), .t 81], [79], none⟩,
          ⟨none, (.store 3), [.t 3, .t 82], [82], none⟩] [3, 4, 6, 8])
        (.region [
         ⟨(some 83), (.fieldAddr 1), [.t 3], [], none⟩,
         ⟨(some 84), (.load 1 false), [.t 83], [], none⟩,
         ⟨(some 85), (.call .wr), [.c (.fn 43 []), .t 84], [84], none⟩,
         ⟨none, (.store 2), [.t 8, .t 85], [], none⟩] [3, 4, 6, 8])))))))
    (.seq (.region [
      ⟨(some 86), (.fieldAddr 0), [.t 8], [], none⟩,
      ⟨(some 87), (.load 1 false), [.t 86], [], none⟩,
      ⟨(some 88), (.bin .eql), [.t 87, .c (.str [98, 108, 111, 99, 107])], [], none⟩,
      ⟨(some 89), .mv, [.t 88], [], none⟩,
      ⟨(some 90), (.fieldAddr 1), [.t 8], [], some (89, true)⟩,
      ⟨(some 91), (.load 1 false), [.t 90], [], some (89, true)⟩,
      ⟨(some 92), (.fieldAddr 3), [.t 4], [], some (89, true)⟩,
      ⟨(some 93), (.fieldAddr 1), [.t 92], [], some (89, true)⟩,
      ⟨(some 94), (.load 1 false), [.t 93], [], some (89, true)⟩,
      ⟨(some 95), (.bin .eql), [.t 91, .t 94], [], some (89, true)⟩,
      ⟨(some 96), .pick, [.t 89, .t 95, .c (.bool false)], [], none⟩] [3, 4, 6, 96])
    (.cond (.t 96)
     (.region [
      ⟨(some 97), (.loadT 3 true), [.t 3], [], none⟩,
      ⟨(some 98), (.fieldAddr 3), [.t 4], [], none⟩,
      ⟨(some 99), (.load 2 true), [.t 98], [], none⟩,
      ⟨(some 100), (.call .wr), [.c (.fn 29 []), .t 97, .c (.str [59]), .t 99], [97], none⟩,
      ⟨none, (.store 3), [.t 3, .t 100], [100], none⟩] [3, 4, 6])
     (.skip)))))
    (.skip)))
  (.seq (.region [
    ⟨(some 101), (.loadT 3 true), [.t 3], [], none⟩,
    ⟨(some 102), (.load 6 true), [.t 4], [], none⟩,
    ⟨(some 103), (.call .gr), [.c (.fn 46 []), .t 101, .t 102], [101], none⟩,
    ⟨(some 104), (.load 6 true), [.t 4], [], none⟩,
    ⟨(some 105), (.call .wr), [.c (.fn 44 []), .t 103, .t 104], [103], none⟩,
    ⟨none, (.store 3), [.t 6, .t 105], [105], none⟩] [6])
  (.ret)))),
  [.cell 6 3 true]⟩
/-- changeling/changelingref04.made -/
def v29 : VFunc := ⟨16,
  .seq (.region [
    ⟨(some 3), .box, [.t 0], [0], none⟩,
    ⟨(some 5), .box, [.t 2], [], none⟩,
    ⟨(some 6), (.alloc [.sl true 6 [], .nilh 2, .bool false]), [], [], none⟩] [1, 3, 5, 6])
  (.seq (.region [
    ⟨(some 7), (.fieldAddr 0), [.t 3], [], none⟩,
    ⟨(some 8), (.loadT 1 false), [.t 7], [], none⟩,
    ⟨(some 9), .mv, [.t 1], [], none⟩,
    ⟨(some 10), (.load 2 true), [.t 5], [], none⟩,
    ⟨(some 11), (.build [.int .i64 0, .str [], .int .i64 0, .int .i64 0, .int .i64 0, .bool false] [(0, 1), (1, 1), (3, 2), (5, 1)]), [.c (.int .i64 5), .t 9, .t 10, .c (.bool true)], [], none⟩,
    ⟨(some 12), (.buildSl 6), [.t 11], [], none⟩,
    ⟨(some 13), (.append 6 56), [.t 8, .t 12], [8], none⟩,
    ⟨(some 14), (.fieldAddr 0), [.t 3], [], none⟩,
    ⟨none, (.store 1), [.t 14, .t 13], [13], none⟩] [3, 6])
  (.seq (.region [
    ⟨(some 15), (.loadT 3 true), [.t 3], [], none⟩,
    ⟨none, (.store 3), [.t 6, .t 15], [15], none⟩] [6])
  (.ret))),
  [.cell 6 3 true]⟩
/-- changeling/changelingref04.mark -/
def v30 : VFunc := ⟨14,
  .seq (.region [
    ⟨(some 2), .box, [.t 0], [], none⟩,
    ⟨(some 4), .mv, [.c (.bool false)], [], none⟩] [1, 2])
  (.seq (.region [
    ⟨(some 5), (.fieldAddr 0), [.t 2], [], none⟩,
    ⟨(some 6), (.load 1 false), [.t 5], [], none⟩,
    ⟨(some 7), (.bin .eql), [.t 6, .c (.int .i64 5)], [], none⟩,
    ⟨(some 8), .mv, [.t 7], [], none⟩,
    ⟨(some 9), (.fieldAddr 1), [.t 2], [], some (8, true)⟩,
    ⟨(some 10), (.load 1 false), [.t 9], [], some (8, true)⟩,
    ⟨(some 11), .mv, [.t 1], [], some (8, true)⟩,
    ⟨(some 12), (.bin .eql), [.t 10, .t 11], [], some (8, true)⟩,
    ⟨(some 13), .pick, [.t 8, .t 12, .c (.bool false)], [], none⟩,
    ⟨(some 4), .mv, [.t 13], [], none⟩] [4])
  (.ret)),
  [.tmp 4]⟩
/-- changeling/changelingref04.word -/
def v31 : VFunc := ⟨14,
  .seq (.region [
    ⟨(some 2), .box, [.t 0], [], none⟩,
    ⟨(some 4), .mv, [.c (.bool false)], [], none⟩] [1, 2])
  (.seq (.region [
    ⟨(some 5), (.fieldAddr 0), [.t 2], [], none⟩,
    ⟨(some 6), (.load 1 false), [.t 5], [], none⟩,
    ⟨(some 7), (.bin .eql), [.t 6, .c (.int .i64 6)], [], none⟩,
    ⟨(some 8), .mv, [.t 7], [], none⟩,
    ⟨(some 9), (.fieldAddr 1), [.t 2], [], some (8, true)⟩,
    ⟨(some 10), (.load 1 false), [.t 9], [], some (8, true)⟩,
    ⟨(some 11), .mv, [.t 1], [], some (8, true)⟩,
    ⟨(some 12), (.bin .eql), [.t 10, .t 11], [], some (8, true)⟩,
    ⟨(some 13), .pick, [.t 8, .t 12, .c (.bool false)], [], none⟩,
    ⟨(some 4), .mv, [.t 13], [], none⟩] [4])
  (.ret)),
  [.tmp 4]⟩
/-- (*changeling/lex.reader).remark -/
def v32 : VFunc := ⟨40,
  .block 0 (.loop (.seq (.seq (.region [
       ⟨(some 2), .mv, [.t 0], [], none⟩,
       ⟨(some 3), .nilCheck, [.t 2], [], none⟩,
       ⟨(some 4), (.fieldAddr 1), [.t 3], [], none⟩,
       ⟨(some 5), (.load 1 false), [.t 4], [], none⟩,
       ⟨(some 6), .mv, [.t 0], [], none⟩,
       ⟨(some 7), .nilCheck, [.t 6], [], none⟩,
       ⟨(some 8), (.fieldAddr 0), [.t 7], [], none⟩,
       ⟨(some 9), (.load 1 false), [.t 8], [], none⟩,
       ⟨(some 10), .lenStr, [.t 9], [], none⟩,
       ⟨(some 11), (.bin .lss), [.t 5, .t 10], [], none⟩,
       ⟨(some 12), .mv, [.t 11], [], none⟩,
       ⟨(some 13), .mv, [.t 0], [], some (12, true)⟩,
       ⟨(some 14), .nilCheck, [.t 13], [], some (12, true)⟩,
       ⟨(some 15), (.fieldAddr 0), [.t 14], [], some (12, true)⟩,
       ⟨(some 16), (.load 1 false), [.t 15], [], some (12, true)⟩,
       ⟨(some 17), .mv, [.t 0], [], some (12, true)⟩,
       ⟨(some 18), .nilCheck, [.t 17], [], some (12, true)⟩,
       ⟨(some 19), (.fieldAddr 1), [.t 18], [], some (12, true)⟩,
       ⟨(some 20), (.load 1 false), [.t 19], [], some (12, true)⟩,
       ⟨(some 21), .indexStr, [.t 16, .t 20], [], some (12, true)⟩,
       ⟨(some 22), (.bin .neq), [.t 21, .c (.int .u8 10)], [], some (12, true)⟩,
       ⟨(some 23), .pick, [.t 12, .t 22, .c (.bool false)], [], none⟩] [0, 23])
     (.cond (.t 23)
      (.skip)
      (.exit 0)))
    (.block 1 (.seq (.region [
       ⟨(some 24), .mv, [.t 0], [], none⟩,
       ⟨(some 25), .nilCheck, [.t 24], [], none⟩,
       ⟨(some 26), (.fieldAddr 1), [.t 25], [], none⟩,
       ⟨(some 27), (.load 1 false), [.t 26], [], none⟩,
       ⟨(some 28), (.bin .add), [.t 27, .c (.int .i64 1)], [], none⟩,
       ⟨(some 29), .nilCheck, [.t 24], [], none⟩,
       ⟨(some 30), (.fieldAddr 1), [.t 29], [], none⟩,
       ⟨none, (.store 1), [.t 30, .t 28], [], none⟩] [0])
     (.region [
      ⟨(some 31), .mv, [.t 0], [], none⟩,
      ⟨(some 32), .nilCheck, [.t 31], [], none⟩,
      ⟨(some 33), (.fieldAddr 2), [.t 32], [], none⟩,
      ⟨(some 34), (.fieldAddr 1), [.t 33], [], none⟩,
      ⟨(some 35), (.load 1 false), [.t 34], [], none⟩,
      ⟨(some 36), (.bin .add), [.t 35, .c (.int .i64 1)], [], none⟩,
      ⟨(some 37), .nilCheck, [.t 31], [], none⟩,
      ⟨(some 38), (.fieldAddr 2), [.t 37], [], none⟩,
      ⟨(some 39), (.fieldAddr 1), [.t 38], [], none⟩,
      ⟨none, (.store 1), [.t 39, .t 36], [], none⟩] [0]))))),
  []⟩
/-- changeling/lex.classOf -/
def v33 : VFunc := ⟨56,
  .seq (.region [
    ⟨(some 2), .mv, [.c (.int .i64 0)], [], none⟩] [0])
  (.seq (.block 0 (.seq (.region [
      ⟨(some 4), .mv, [.t 0], [], none⟩,
      ⟨(some 5), (.bin .geq), [.t 4, .c (.int .u8 97)], [], none⟩,
      ⟨(some 6), .mv, [.t 5], [], none⟩,
      ⟨(some 7), .mv, [.t 0], [], some (6, true)⟩,
      ⟨(some 8), (.bin .leq), [.t 7, .c (.int .u8 122)], [], some (6, true)⟩,
      ⟨(some 9), .pick, [.t 6, .t 8, .c (.bool false)], [], none⟩,
      ⟨(some 10), .mv, [.t 9], [], none⟩,
      ⟨(some 11), .mv, [.t 0], [], some (10, false)⟩,
      ⟨(some 12), (.bin .eql), [.t 11, .c (.int .u8 95)], [], some (10, false)⟩,
      ⟨(some 13), .pick, [.t 10, .c (.bool true), .t 12], [], none⟩,
      ⟨(some 3), .mv, [.t 13], [], none⟩] [0, 3])
    (.cond (.t 3)
     (.seq (.region [
       ⟨(some 2), .mv, [.c (.int .i64 1)], [], none⟩] [2])
     (.ret))
     (.seq (.region [
       ⟨(some 15), .mv, [.t 0], [], none⟩,
       ⟨(some 16), (.bin .geq), [.t 15, .c (.int .u8 65)], [], none⟩,
       ⟨(some 17), .mv, [.t 16], [], none⟩,
       ⟨(some 18), .mv, [.t 0], [], some (17, true)⟩,
       ⟨(some 19), (.bin .leq), [.t 18, .c (.int .u8 90)], [], some (17, true)⟩,
       ⟨(some 20), .pick, [.t 17, .t 19, .c (.bool false)], [], none⟩,
       ⟨(some 14), .mv, [.t 20], [], none⟩] [0, 14])
     (.cond (.t 14)
      (.seq (.region [
        ⟨(some 2), .mv, [.c (.int .i64 2)], [], none⟩] [2])
      (.ret))
      (.seq (.region [
        ⟨(some 22), .mv, [.t 0], [], none⟩,
        ⟨(some 23), (.bin .geq), [.t 22, .c (.int .u8 48)], [], none⟩,
        ⟨(some 24), .mv, [.t 23], [], none⟩,
        ⟨(some 25), .mv, [.t 0], [], some (24, true)⟩,
        ⟨(some 26), (.bin .leq), [.t 25, .c (.int .u8 57)], [], some (24, true)⟩,
        ⟨(some 27), .pick, [.t 24, .t 26, .c (.bool false)], [], none⟩,
        ⟨(some 21), .mv, [.t 27], [], none⟩] [0, 21])
      (.cond (.t 21)
       (.seq (.region [
         ⟨(some 2), .mv, [.c (.int .i64 3)], [], none⟩] [2])
       (.ret))
       (.skip))))))))
  (.seq (.seq (.region [
     ⟨(some 28), .mv, [.t 0], [], none⟩] [28])
   (.block 1 (.seq (.seq (.region [
       ⟨(some 30), (.bin .eql), [.t 28, .c (.int .u8 40)], [], none⟩,
       ⟨(some 29), .mv, [.t 30], [], none⟩] [28, 29])
     (.cond (.t 29)
      (.skip)
      (.seq (.region [
        ⟨(some 31), (.bin .eql), [.t 28, .c (.int .u8 41)], [], none⟩,
        ⟨(some 29), .mv, [.t 31], [], none⟩] [28, 29])
      (.cond (.t 29)
       (.skip)
       (.seq (.region [
         ⟨(some 32), (.bin .eql), [.t 28, .c (.int .u8 123)], [], none⟩,
         ⟨(some 29), .mv, [.t 32], [], none⟩] [28, 29])
       (.cond (.t 29)
        (.skip)
        (.seq (.region [
          ⟨(some 33), (.bin .eql), [.t 28, .c (.int .u8 125)], [], none⟩,
          ⟨(some 29), .mv, [.t 33], [], none⟩] [28, 29])
        (.cond (.t 29)
         (.skip)
         (.seq (.region [
           ⟨(some 34), (.bin .eql), [.t 28, .c (.int .u8 59)], [], none⟩,
           ⟨(some 29), .mv, [.t 34], [], none⟩] [28, 29])
         (.cond (.t 29)
          (.skip)
          (.region [
           ⟨(some 35), (.bin .eql), [.t 28, .c (.int .u8 92)], [], none⟩,
           ⟨(some 29), .mv, [.t 35], [], none⟩] [28, 29])))))))))))
    (.cond (.t 29)
     (.seq (.region [
       ⟨(some 2), .mv, [.c (.int .i64 4)], [], none⟩] [2])
     (.ret))
     (.seq (.seq (.region [
        ⟨(some 37), (.bin .eql), [.t 28, .c (.int .u8 33)], [], none⟩,
        ⟨(some 36), .mv, [.t 37], [], none⟩] [28, 36])
      (.cond (.t 36)
       (.skip)
       (.seq (.region [
         ⟨(some 38), (.bin .eql), [.t 28, .c (.int .u8 35)], [], none⟩,
         ⟨(some 36), .mv, [.t 38], [], none⟩] [28, 36])
       (.cond (.t 36)
        (.skip)
        (.seq (.region [
          ⟨(some 39), (.bin .eql), [.t 28, .c (.int .u8 36)], [], none⟩,
          ⟨(some 36), .mv, [.t 39], [], none⟩] [28, 36])
        (.cond (.t 36)
         (.skip)
         (.seq (.region [
           ⟨(some 40), (.bin .eql), [.t 28, .c (.int .u8 37)], [], none⟩,
           ⟨(some 36), .mv, [.t 40], [], none⟩] [28, 36])
         (.cond (.t 36)
          (.skip)
          (.seq (.region [
            ⟨(some 41), (.bin .eql), [.t 28, .c (.int .u8 38)], [], none⟩,
            ⟨(some 36), .mv, [.t 41], [], none⟩] [28, 36])
          (.cond (.t 36)
           (.skip)
           (.seq (.region [
             ⟨(some 42), (.bin .eql), [.t 28, .c (.int .u8 42)], [], none⟩,
             ⟨(some 36), .mv, [.t 42], [], none⟩] [28, 36])
           (.cond (.t 36)
            (.skip)
            (.seq (.region [
              ⟨(some 43), (.bin .eql), [.t 28, .c (.int .u8 43)], [], none⟩,
              ⟨(some 36), .mv, [.t 43], [], none⟩] [28, 36])
            (.cond (.t 36)
             (.skip)
             (.seq (.region [
               ⟨(some 44), (.bin .eql), [.t 28, .c (.int .u8 46)], [], none⟩,
               ⟨(some 36), .mv, [.t 44], [], none⟩] [28, 36])
             (.cond (.t 36)
              (.skip)
              (.seq (.region [
                ⟨(some 45), (.bin .eql), [.t 28, .c (.int .u8 47)], [], none⟩,
                ⟨(some 36), .mv, [.t 45], [], none⟩] [28, 36])
              (.cond (.t 36)
               (.skip)
               (.seq (.region [
                 ⟨(some 46), (.bin .eql), [.t 28, .c (.int .u8 58)], [], none⟩,
                 ⟨(some 36), .mv, [.t 46], [], none⟩] [28, 36])
               (.cond (.t 36)
                (.skip)
                (.seq (.region [
                  ⟨(some 47), (.bin .eql), [.t 28, .c (.int .u8 60)], [], none⟩,
                  ⟨(some 36), .mv, [.t 47], [], none⟩] [28, 36])
                (.cond (.t 36)
                 (.skip)
                 (.seq (.region [
                   ⟨(some 48), (.bin .eql), [.t 28, .c (.int .u8 61)], [], none⟩,
                   ⟨(some 36), .mv, [.t 48], [], none⟩] [28, 36])
                 (.cond (.t 36)
                  (.skip)
                  (.seq (.region [
                    ⟨(some 49), (.bin .eql), [.t 28, .c (.int .u8 62)], [], none⟩,
                    ⟨(some 36), .mv, [.t 49], [], none⟩] [28, 36])
                  (.cond (.t 36)
                   (.skip)
                   (.seq (.region [
                     ⟨(some 50), (.bin .eql), [.t 28, .c (.int .u8 63)], [], none⟩,
                     ⟨(some 36), .mv, [.t 50], [], none⟩] [28, 36])
                   (.cond (.t 36)
                    (.skip)
                    (.seq (.region [
                      ⟨(some 51), (.bin .eql), [.t 28, .c (.int .u8 64)], [], none⟩,
                      ⟨(some 36), .mv, [.t 51], [], none⟩] [28, 36])
                    (.cond (.t 36)
                     (.skip)
                     (.seq (.region [
                       ⟨(some 52), (.bin .eql), [.t 28, .c (.int .u8 94)], [], none⟩,
                       ⟨(some 36), .mv, [.t 52], [], none⟩] [28, 36])
                     (.cond (.t 36)
                      (.skip)
                      (.seq (.region [
                        ⟨(some 53), (.bin .eql), [.t 28, .c (.int .u8 124)], [], none⟩,
                        ⟨(some 36), .mv, [.t 53], [], none⟩] [28, 36])
                      (.cond (.t 36)
                       (.skip)
                       (.seq (.region [
                         ⟨(some 54), (.bin .eql), [.t 28, .c (.int .u8 126)], [], none⟩,
                         ⟨(some 36), .mv, [.t 54], [], none⟩] [28, 36])
                       (.cond (.t 36)
                        (.skip)
                        (.region [
                         ⟨(some 55), (.bin .eql), [.t 28, .c (.int .u8 45)], [], none⟩,
                         ⟨(some 36), .mv, [.t 55], [], none⟩] [36])))))))))))))))))))))))))))))))))))))
     (.cond (.t 36)
      (.seq (.region [
        ⟨(some 2), .mv, [.c (.int .i64 5)], [], none⟩] [2])
      (.ret))
      (.skip)))))))
  (.seq (.region [
    ⟨(some 2), .mv, [.c (.int .i64 0)], [], none⟩] [2])
  (.ret)))),
  [.tmp 2]⟩
/-- changeling/lex.goesOn -/
def v34 : VFunc := ⟨32,
  .seq (.region [
    ⟨(some 4), .mv, [.c (.bool false)], [], none⟩] [0, 1])
  (.seq (.region [
    ⟨(some 6), .mv, [.t 1], [], none⟩,
    ⟨(some 7), (.call .wr), [.c (.fn 33 []), .t 6], [], none⟩,
    ⟨(some 5), .mv, [.t 7], [], none⟩] [0, 1, 5])
  (.seq (.seq (.region [
     ⟨(some 8), .mv, [.t 0], [], none⟩] [0, 1, 5, 8])
   (.block 0 (.seq (.seq (.region [
       ⟨(some 10), (.bin .eql), [.t 8, .c (.int .i64 1)], [], none⟩,
       ⟨(some 9), .mv, [.t 10], [], none⟩] [0, 1, 5, 8, 9])
     (.cond (.t 9)
      (.skip)
      (.region [
       ⟨(some 11), (.bin .eql), [.t 8, .c (.int .i64 2)], [], none⟩,
       ⟨(some 9), .mv, [.t 11], [], none⟩] [0, 1, 5, 8, 9])))
    (.cond (.t 9)
     (.seq (.region [
       ⟨(some 12), .mv, [.t 5], [], none⟩,
       ⟨(some 13), (.bin .eql), [.t 12, .c (.int .i64 1)], [], none⟩,
       ⟨(some 14), .mv, [.t 13], [], none⟩,
       ⟨(some 15), .mv, [.t 5], [], some (14, false)⟩,
       ⟨(some 16), (.bin .eql), [.t 15, .c (.int .i64 2)], [], some (14, false)⟩,
       ⟨(some 17), .pick, [.t 14, .c (.bool true), .t 16], [], none⟩,
       ⟨(some 18), .mv, [.t 17], [], none⟩,
       ⟨(some 19), .mv, [.t 5], [], some (18, false)⟩,
       ⟨(some 20), (.bin .eql), [.t 19, .c (.int .i64 3)], [], some (18, false)⟩,
       ⟨(some 21), .pick, [.t 18, .c (.bool true), .t 20], [], none⟩,
       ⟨(some 22), .mv, [.t 21], [], none⟩,
       ⟨(some 23), .mv, [.t 1], [], some (22, false)⟩,
       ⟨(some 24), (.bin .eql), [.t 23, .c (.int .u8 39)], [], some (22, false)⟩,
       ⟨(some 25), .pick, [.t 22, .c (.bool true), .t 24], [], none⟩,
       ⟨(some 4), .mv, [.t 25], [], none⟩] [4])
     (.ret))
     (.seq (.seq (.region [
        ⟨(some 27), (.bin .eql), [.t 8, .c (.int .i64 3)], [], none⟩,
        ⟨(some 26), .mv, [.t 27], [], none⟩] [0, 5, 8, 26])
      (.cond (.t 26)
       (.skip)
       (.region [
        ⟨(some 28), (.bin .eql), [.t 8, .c (.int .i64 5)], [], none⟩,
        ⟨(some 26), .mv, [.t 28], [], none⟩] [0, 5, 26])))
     (.cond (.t 26)
      (.seq (.region [
        ⟨(some 29), .mv, [.t 5], [], none⟩,
        ⟨(some 30), .mv, [.t 0], [], none⟩,
        ⟨(some 31), (.bin .eql), [.t 29, .t 30], [], none⟩,
        ⟨(some 4), .mv, [.t 31], [], none⟩] [4])
      (.ret))
      (.skip)))))))
  (.seq (.region [
    ⟨(some 4), .mv, [.c (.bool false)], [], none⟩] [4])
  (.ret)))),
  [.tmp 4]⟩
/-- changeling/lex.kind -/
def v35 : VFunc := ⟨28,
  .seq (.region [
    ⟨(some 4), .mv, [.c (.int .i64 0)], [], none⟩] [0, 1])
  (.seq (.seq (.region [
     ⟨(some 5), .mv, [.t 0], [], none⟩] [1, 5])
   (.block 0 (.seq (.region [
      ⟨(some 7), (.bin .eql), [.t 5, .c (.int .i64 2)], [], none⟩,
      ⟨(some 6), .mv, [.t 7], [], none⟩] [1, 5, 6])
    (.cond (.t 6)
     (.seq (.region [
       ⟨(some 4), .mv, [.c (.int .i64 2)], [], none⟩] [4])
     (.ret))
     (.seq (.region [
       ⟨(some 9), (.bin .eql), [.t 5, .c (.int .i64 3)], [], none⟩,
       ⟨(some 8), .mv, [.t 9], [], none⟩] [1, 5, 8])
     (.cond (.t 8)
      (.seq (.region [
        ⟨(some 4), .mv, [.c (.int .i64 4)], [], none⟩] [4])
      (.ret))
      (.seq (.region [
        ⟨(some 11), (.bin .eql), [.t 5, .c (.int .i64 5)], [], none⟩,
        ⟨(some 10), .mv, [.t 11], [], none⟩] [1, 5, 10])
      (.cond (.t 10)
       (.seq (.seq (.region [
          ⟨(some 12), .mv, [.t 1], [], none⟩,
          ⟨(some 13), (.bin .eql), [.t 12, .c (.str [61])], [], none⟩,
          ⟨(some 14), .mv, [.t 13], [], none⟩,
          ⟨(some 15), .mv, [.t 1], [], some (14, false)⟩,
          ⟨(some 16), (.bin .eql), [.t 15, .c (.str [124])], [], some (14, false)⟩,
          ⟨(some 17), .pick, [.t 14, .c (.bool true), .t 16], [], none⟩,
          ⟨(some 18), .mv, [.t 17], [], none⟩,
          ⟨(some 19), .mv, [.t 1], [], some (18, false)⟩,
          ⟨(some 20), (.bin .eql), [.t 19, .c (.str [45, 62])], [], some (18, false)⟩,
          ⟨(some 21), .pick, [.t 18, .c (.bool true), .t 20], [], none⟩] [21])
        (.cond (.t 21)
         (.seq (.region [
           ⟨(some 4), .mv, [.c (.int .i64 5)], [], none⟩] [4])
         (.ret))
         (.skip)))
       (.seq (.region [
         ⟨(some 4), .mv, [.c (.int .i64 3)], [], none⟩] [4])
       (.ret)))
       (.seq (.region [
         ⟨(some 23), (.bin .eql), [.t 5, .c (.int .i64 1)], [], none⟩,
         ⟨(some 22), .mv, [.t 23], [], none⟩] [1, 22])
       (.cond (.t 22)
        (.seq (.seq (.region [
           ⟨(some 24), .mv, [.t 1], [], none⟩,
           ⟨(some 25), (.bin .eql), [.t 24, .c (.str [95])], [], none⟩] [1, 25])
         (.cond (.t 25)
          (.seq (.region [
            ⟨(some 4), .mv, [.c (.int .i64 5)], [], none⟩] [4])
          (.ret))
          (.skip)))
        (.seq (.seq (.region [
           ⟨(some 26), .mv, [.t 1], [], none⟩,
           ⟨(some 27), (.call .wr), [.c (.fn 48 []), .t 26], [], none⟩] [27])
         (.cond (.t 27)
          (.seq (.region [
            ⟨(some 4), .mv, [.c (.int .i64 6)], [], none⟩] [4])
          (.ret))
          (.skip)))
        (.seq (.region [
          ⟨(some 4), .mv, [.c (.int .i64 1)], [], none⟩] [4])
        (.ret))))
        (.skip)))))))))))
  (.seq (.region [
    ⟨(some 4), .mv, [.c (.int .i64 5)], [], none⟩] [4])
  (.ret))),
  [.tmp 4]⟩
/-- changeling/lex.value -/
def v36 : VFunc := ⟨15,
  .seq (.region [
    ⟨(some 2), .mv, [.c (.int .i64 0)], [], none⟩,
    ⟨(some 3), .mv, [.c (.int .i64 0)], [], none⟩] [0])
  (.seq (.seq (.region [
     ⟨(some 4), .mv, [.t 0], [], none⟩,
     ⟨(some 5), (.bin .eql), [.t 4, .c (.str [57, 50, 50, 51, 51, 55, 50, 48, 51, 54, 56, 53, 52, 55, 55, 53, 56, 48, 56])], [], none⟩] [0, 5])
   (.cond (.t 5)
    (.seq (.region [
      ⟨(some 6), .mv, [.t 0], [], none⟩,
      ⟨(some 7), (.bin .add), [.c (.str [45]), .t 6], [], none⟩,
      ⟨(some 8), (.call .wr), [.c (.fn 49 []), .t 7], [], none⟩,
      ⟨(some 9), (.extract 0), [.t 8], [], none⟩,
      ⟨(some 10), (.extract 1), [.t 8], [], none⟩,
      ⟨(some 2), .mv, [.t 9], [], none⟩,
      ⟨(some 3), .mv, [.t 10], [], none⟩] [2, 3])
    (.ret))
    (.skip)))
  (.seq (.region [
    ⟨(some 11), .mv, [.t 0], [], none⟩,
    ⟨(some 12), (.call .wr), [.c (.fn 49 []), .t 11], [], none⟩,
    ⟨(some 13), (.extract 0), [.t 12], [], none⟩,
    ⟨(some 14), (.extract 1), [.t 12], [], none⟩,
    ⟨(some 2), .mv, [.t 13], [], none⟩,
    ⟨(some 3), .mv, [.t 14], [], none⟩] [2, 3])
  (.ret))),
  [.tmp 2, .tmp 3]⟩
/-- (*changeling/layout.layer).column -/
def v37 : VFunc := ⟨27,
  .seq (.region [
    ⟨(some 2), .mv, [.c (.int .i64 0)], [], none⟩] [0])
  (.seq (.region [
    ⟨(some 4), .mv, [.t 0], [], none⟩,
    ⟨(some 5), (.call .wr), [.c (.fn 40 []), .t 4], [], none⟩,
    ⟨(some 3), .mv, [.t 5], [], none⟩] [0, 3])
  (.seq (.seq (.region [
     ⟨(some 6), .mv, [.t 3], [], none⟩,
     ⟨(some 7), (.bin .lss), [.t 6, .c (.int .i64 0)], [], none⟩,
     ⟨(some 8), .mv, [.t 7], [], none⟩,
     ⟨(some 9), .mv, [.t 0], [], some (8, false)⟩,
     ⟨(some 10), .nilCheck, [.t 9], [], some (8, false)⟩,
     ⟨(some 11), (.fieldAddr 1), [.t 10], [], some (8, false)⟩,
     ⟨(some 12), (.load 1 false), [.t 11], [], some (8, false)⟩,
     ⟨(some 13), .mv, [.t 3], [], some (8, false)⟩,
     ⟨(some 14), (.indexAddr 2), [.t 12, .t 13], [], some (8, false)⟩,
     ⟨(some 15), (.fieldAddr 0), [.t 14], [], some (8, false)⟩,
     ⟨(some 16), (.load 1 false), [.t 15], [], some (8, false)⟩,
     ⟨(some 17), (.bin .eql), [.t 16, .c (.int .i64 1)], [], some (8, false)⟩,
     ⟨(some 18), .pick, [.t 8, .c (.bool true), .t 17], [], none⟩] [0, 3, 18])
   (.cond (.t 18)
    (.seq (.region [
      ⟨(some 2), .mv, [.c (.int .i64 0)], [], none⟩] [2])
    (.ret))
    (.skip)))
  (.seq (.region [
    ⟨(some 19), .mv, [.t 0], [], none⟩,
    ⟨(some 20), .nilCheck, [.t 19], [], none⟩,
    ⟨(some 21), (.fieldAddr 1), [.t 20], [], none⟩,
    ⟨(some 22), (.load 1 false), [.t 21], [], none⟩,
    ⟨(some 23), .mv, [.t 3], [], none⟩,
    ⟨(some 24), (.indexAddr 2), [.t 22, .t 23], [], none⟩,
    ⟨(some 25), (.fieldAddr 1), [.t 24], [], none⟩,
    ⟨(some 26), (.load 1 false), [.t 25], [], none⟩,
    ⟨(some 2), .mv, [.t 26], [], none⟩] [2])
  (.ret)))),
  [.tmp 2]⟩
/-- (*changeling/layout.layer).push -/
def v38 : VFunc := ⟨18,
  .region [
   ⟨(some 6), .mv, [.t 0], [], none⟩,
   ⟨(some 7), .mv, [.t 0], [], none⟩,
   ⟨(some 8), .nilCheck, [.t 7], [], none⟩,
   ⟨(some 9), (.fieldAddr 1), [.t 8], [], none⟩,
   ⟨(some 10), (.load 1 false), [.t 9], [], none⟩,
   ⟨(some 11), .mv, [.t 1], [], none⟩,
   ⟨(some 12), .mv, [.t 2], [], none⟩,
   ⟨(some 13), (.build [.int .i64 0, .int .i64 0] [(0, 1), (1, 1)]), [.t 11, .t 12], [], none⟩,
   ⟨(some 14), (.buildSl 2), [.t 13], [], none⟩,
   ⟨(some 15), (.appendH 2 16), [.t 10, .t 14], [], none⟩,
   ⟨(some 16), .nilCheck, [.t 6], [], none⟩,
   ⟨(some 17), (.fieldAddr 1), [.t 16], [], none⟩,
   ⟨none, (.store 1), [.t 17, .t 15], [15], none⟩] [],
  []⟩
/-- (*changeling/layout.layer).inLaid -/
def v39 : VFunc := ⟨19,
  .seq (.region [
    ⟨(some 2), .mv, [.c (.bool false)], [], none⟩] [0])
  (.seq (.region [
    ⟨(some 4), .mv, [.t 0], [], none⟩,
    ⟨(some 5), (.call .wr), [.c (.fn 40 []), .t 4], [], none⟩,
    ⟨(some 3), .mv, [.t 5], [], none⟩] [0, 3])
  (.seq (.region [
    ⟨(some 6), .mv, [.t 3], [], none⟩,
    ⟨(some 7), (.bin .geq), [.t 6, .c (.int .i64 0)], [], none⟩,
    ⟨(some 8), .mv, [.t 7], [], none⟩,
    ⟨(some 9), .mv, [.t 0], [], some (8, true)⟩,
    ⟨(some 10), .nilCheck, [.t 9], [], some (8, true)⟩,
    ⟨(some 11), (.fieldAddr 1), [.t 10], [], some (8, true)⟩,
    ⟨(some 12), (.load 1 false), [.t 11], [], some (8, true)⟩,
    ⟨(some 13), .mv, [.t 3], [], some (8, true)⟩,
    ⟨(some 14), (.indexAddr 2), [.t 12, .t 13], [], some (8, true)⟩,
    ⟨(some 15), (.fieldAddr 0), [.t 14], [], some (8, true)⟩,
    ⟨(some 16), (.load 1 false), [.t 15], [], some (8, true)⟩,
    ⟨(some 17), (.bin .eql), [.t 16, .c (.int .i64 0)], [], some (8, true)⟩,
    ⟨(some 18), .pick, [.t 8, .t 17, .c (.bool false)], [], none⟩,
    ⟨(some 2), .mv, [.t 18], [], none⟩] [2])
  (.ret))),
  [.tmp 2]⟩
/-- (*changeling/layout.layer).block -/
def v40 : VFunc := ⟨30,
  .seq (.region [
    ⟨(some 2), .mv, [.c (.int .i64 0)], [], none⟩] [0])
  (.seq (.seq (.region [
     ⟨(some 5), .mv, [.t 0], [], none⟩,
     ⟨(some 6), .nilCheck, [.t 5], [], none⟩,
     ⟨(some 7), (.fieldAddr 1), [.t 6], [], none⟩,
     ⟨(some 8), (.load 1 false), [.t 7], [], none⟩,
     ⟨(some 9), .len, [.t 8], [], none⟩,
     ⟨(some 10), (.bin .sub), [.t 9, .c (.int .i64 1)], [], none⟩,
     ⟨(some 3), .mv, [.t 10], [], none⟩] [0, 3])
   (.block 0 (.loop (.seq (.seq (.region [
        ⟨(some 11), .mv, [.t 3], [], none⟩,
        ⟨(some 12), (.bin .geq), [.t 11, .c (.int .i64 0)], [], none⟩] [0, 3, 12])
      (.cond (.t 12)
       (.skip)
       (.exit 0)))
     (.seq (.block 1 (.seq (.region [
         ⟨(some 15), .mv, [.t 0], [], none⟩,
         ⟨(some 16), .nilCheck, [.t 15], [], none⟩,
         ⟨(some 17), (.fieldAddr 1), [.t 16], [], none⟩,
         ⟨(some 18), (.load 1 false), [.t 17], [], none⟩,
         ⟨(some 19), .mv, [.t 3], [], none⟩,
         ⟨(some 20), (.indexAddr 2), [.t 18, .t 19], [], none⟩,
         ⟨(some 21), (.fieldAddr 0), [.t 20], [], none⟩,
         ⟨(some 22), (.load 1 false), [.t 21], [], none⟩,
         ⟨(some 4), .mv, [.t 22], [], none⟩] [0, 3, 4])
       (.seq (.region [
         ⟨(some 23), .mv, [.t 4], [], none⟩,
         ⟨(some 24), (.bin .eql), [.t 23, .c (.int .i64 0)], [], none⟩,
         ⟨(some 25), .mv, [.t 24], [], none⟩,
         ⟨(some 26), .mv, [.t 4], [], some (25, false)⟩,
         ⟨(some 27), (.bin .eql), [.t 26, .c (.int .i64 1)], [], some (25, false)⟩,
         ⟨(some 28), .pick, [.t 25, .c (.bool true), .t 27], [], none⟩] [0, 3, 28])
       (.cond (.t 28)
        (.seq (.region [
          ⟨(some 29), .mv, [.t 3], [], none⟩,
          ⟨(some 2), .mv, [.t 29], [], none⟩] [2])
        (.ret))
        (.skip)))))
     (.region [
      ⟨(some 13), .mv, [.t 3], [], none⟩,
      ⟨(some 14), (.bin .sub), [.t 13, .c (.int .i64 1)], [], none⟩,
      ⟨(some 3), .mv, [.t 14], [], none⟩] [0, 3]))))))
  (.seq (.region [
    ⟨(some 2), .mv, [.c (.int .i64 (-1))], [], none⟩] [2])
  (.ret))),
  [.tmp 2]⟩
/-- (*changeling/layout.layer).find -/
def v41 : VFunc := ⟨45,
  .seq (.region [
    ⟨(some 6), .mv, [.c (.int .i64 0)], [], none⟩] [0, 1, 2])
  (.scope (.seq (.region [
     ⟨(some 7), .mv, [.c (.int .i64 (-1))], [], none⟩] [0, 1, 2, 7])
   (.seq (.label)
   (.seq (.seq (.region [
      ⟨(some 12), .mv, [.t 0], [], none⟩,
      ⟨(some 13), .nilCheck, [.t 12], [], none⟩,
      ⟨(some 14), (.fieldAddr 1), [.t 13], [], none⟩,
      ⟨(some 15), (.load 1 false), [.t 14], [], none⟩,
      ⟨(some 16), .len, [.t 15], [], none⟩,
      ⟨(some 17), (.bin .sub), [.t 16, .c (.int .i64 1)], [], none⟩,
      ⟨(some 8), .mv, [.t 17], [], none⟩] [0, 1, 2, 7, 8])
    (.block 0 (.loop (.seq (.seq (.region [
         ⟨(some 18), .mv, [.t 8], [], none⟩,
         ⟨(some 19), (.bin .geq), [.t 18, .c (.int .i64 0)], [], none⟩] [0, 1, 2, 7, 8, 19])
       (.cond (.t 19)
        (.skip)
        (.exit 0)))
      (.seq (.block 1 (.seq (.region [
          ⟨(some 22), .mv, [.t 0], [], none⟩,
          ⟨(some 23), .nilCheck, [.t 22], [], none⟩,
          ⟨(some 24), (.fieldAddr 1), [.t 23], [], none⟩,
          ⟨(some 25), (.load 1 false), [.t 24], [], none⟩,
          ⟨(some 26), .mv, [.t 8], [], none⟩,
          ⟨(some 27), (.indexAddr 2), [.t 25, .t 26], [], none⟩,
          ⟨(some 28), (.fieldAddr 0), [.t 27], [], none⟩,
          ⟨(some 29), (.load 1 false), [.t 28], [], none⟩,
          ⟨(some 9), .mv, [.t 29], [], none⟩] [0, 1, 2, 7, 8, 9])
        (.seq (.seq (.region [
           ⟨(some 30), .mv, [.t 9], [], none⟩,
           ⟨(some 31), .mv, [.t 1], [], none⟩,
           ⟨(some 32), (.bin .eql), [.t 30, .t 31], [], none⟩] [0, 1, 2, 7, 8, 9, 32])
         (.cond (.t 32)
          (.seq (.region [
            ⟨(some 33), .mv, [.t 8], [], none⟩,
            ⟨(some 7), .mv, [.t 33], [], none⟩] [7])
          (.exit 0))
          (.skip)))
        (.seq (.region [
          ⟨(some 34), .mv, [.t 2], [], none⟩,
          ⟨(some 35), .len, [.t 34], [], none⟩,
          ⟨(some 36), .mv, [.c (.int .i64 0)], [], none⟩] [0, 1, 2, 7, 8, 9, 34, 35, 36])
        (.block 2 (.loop (.seq (.region [
            ⟨(some 37), (.bin .lss), [.t 36, .t 35], [], none⟩] [0, 1, 2, 7, 8, 9, 34, 35, 36, 37])
          (.seq (.cond (.t 37)
            (.skip)
            (.exit 2))
          (.seq (.block 3 (.seq (.region [
              ⟨(some 38), (.indexAddr 1), [.t 34, .t 36], [], none⟩,
              ⟨(some 39), (.load 1 false), [.t 38], [], none⟩,
              ⟨(some 11), .mv, [.t 39], [], none⟩] [0, 1, 2, 7, 8, 9, 11, 34, 35, 36])
            (.seq (.region [
              ⟨(some 40), .mv, [.t 9], [], none⟩,
              ⟨(some 41), .mv, [.t 11], [], none⟩,
              ⟨(some 42), (.bin .eql), [.t 40, .t 41], [], none⟩] [0, 1, 2, 7, 8, 9, 34, 35, 36, 42])
            (.cond (.t 42)
             (.exit 0)
             (.skip)))))
          (.region [
           ⟨(some 43), (.bin .add), [.t 36, .c (.int .i64 1)], [], none⟩,
           ⟨(some 36), .mv, [.t 43], [], none⟩] [0, 1, 2, 7, 8, 9, 34, 35, 36]))))))))))
      (.region [
       ⟨(some 20), .mv, [.t 8], [], none⟩,
       ⟨(some 21), (.bin .sub), [.t 20, .c (.int .i64 1)], [], none⟩,
       ⟨(some 8), .mv, [.t 21], [], none⟩] [0, 1, 2, 7, 8]))))))
   (.seq (.region [
     ⟨(some 44), .mv, [.t 7], [], none⟩,
     ⟨(some 6), .mv, [.t 44], [], none⟩] [6])
   (.ret)))))),
  [.tmp 6]⟩
/-- (*changeling/layout.layer).closeTo -/
def v42 : VFunc := ⟨43,
  .block 0 (.loop (.seq (.seq (.region [
       ⟨(some 5), .mv, [.t 0], [], none⟩,
       ⟨(some 6), .nilCheck, [.t 5], [], none⟩,
       ⟨(some 7), (.fieldAddr 1), [.t 6], [], none⟩,
       ⟨(some 8), (.load 1 false), [.t 7], [], none⟩,
       ⟨(some 9), .len, [.t 8], [], none⟩,
       ⟨(some 10), .mv, [.t 1], [], none⟩,
       ⟨(some 11), (.bin .gtr), [.t 9, .t 10], [], none⟩] [0, 1, 11])
     (.cond (.t 11)
      (.skip)
      (.exit 0)))
    (.block 1 (.seq (.region [
       ⟨(some 12), .mv, [.t 0], [], none⟩,
       ⟨(some 13), .nilCheck, [.t 12], [], none⟩,
       ⟨(some 14), (.fieldAddr 1), [.t 13], [], none⟩,
       ⟨(some 15), (.load 1 false), [.t 14], [], none⟩,
       ⟨(some 16), .len, [.t 15], [], none⟩,
       ⟨(some 17), (.bin .sub), [.t 16, .c (.int .i64 1)], [], none⟩,
       ⟨(some 4), .mv, [.t 17], [], none⟩] [0, 1, 4])
     (.seq (.seq (.region [
        ⟨(some 18), .mv, [.t 4], [], none⟩,
        ⟨(some 19), .mv, [.t 1], [], none⟩,
        ⟨(some 20), (.bin .gtr), [.t 18, .t 19], [], none⟩,
        ⟨(some 21), .mv, [.t 20], [], none⟩,
        ⟨(some 22), .mv, [.t 0], [], some (21, true)⟩,
        ⟨(some 23), .nilCheck, [.t 22], [], some (21, true)⟩,
        ⟨(some 24), (.fieldAddr 1), [.t 23], [], some (21, true)⟩,
        ⟨(some 25), (.load 1 false), [.t 24], [], some (21, true)⟩,
        ⟨(some 26), .mv, [.t 4], [], some (21, true)⟩,
        ⟨(some 27), (.indexAddr 2), [.t 25, .t 26], [], some (21, true)⟩,
        ⟨(some 28), (.fieldAddr 0), [.t 27], [], some (21, true)⟩,
        ⟨(some 29), (.load 1 false), [.t 28], [], some (21, true)⟩,
        ⟨(some 30), (.bin .eql), [.t 29, .c (.int .i64 0)], [], some (21, true)⟩,
        ⟨(some 31), .pick, [.t 21, .t 30, .c (.bool false)], [], none⟩] [0, 1, 4, 31])
      (.cond (.t 31)
       (.region [
        ⟨(some 32), .mv, [.t 0], [], none⟩,
        ⟨(some 33), (.call .wr), [.c (.fn 27 []), .t 32, .c (.str [125])], [], none⟩] [0, 1, 4])
       (.skip)))
     (.region [
      ⟨(some 34), .mv, [.t 0], [], none⟩,
      ⟨(some 35), .mv, [.t 0], [], none⟩,
      ⟨(some 36), .nilCheck, [.t 35], [], none⟩,
      ⟨(some 37), (.fieldAddr 1), [.t 36], [], none⟩,
      ⟨(some 38), (.load 1 false), [.t 37], [], none⟩,
      ⟨(some 39), .mv, [.t 4], [], none⟩,
      ⟨(some 40), (.slice false true 2), [.t 38, .t 39], [], none⟩,
      ⟨(some 41), .nilCheck, [.t 34], [], none⟩,
      ⟨(some 42), (.fieldAddr 1), [.t 41], [], none⟩,
      ⟨none, (.store 1), [.t 42, .t 40], [40], none⟩] [0, 1])))))),
  []⟩
/-- changeling/changelingref04.top -/
def v43 : VFunc := ⟨31,
  .seq (.region [
    ⟨(some 2), (.alloc [.str [], .int .i64 0]), [], [], none⟩] [0, 2])
  (.seq (.region [
    ⟨(some 5), (.build [.str [], .int .i64 0] []), [], [], none⟩,
    ⟨(some 3), (.alloc [.str [], .int .i64 0]), [], [], none⟩,
    ⟨none, (.store 2), [.t 3, .t 5], [], none⟩] [0, 2, 3])
  (.seq (.seq (.region [
     ⟨(some 4), .mv, [.c (.int .i64 0)], [], none⟩] [0, 2, 3, 4])
   (.block 0 (.loop (.seq (.seq (.region [
        ⟨(some 6), .mv, [.t 4], [], none⟩,
        ⟨(some 7), .mv, [.t 0], [], none⟩,
        ⟨(some 8), .len, [.t 7], [], none⟩,
        ⟨(some 9), (.bin .lss), [.t 6, .t 8], [], none⟩] [0, 2, 3, 4, 9])
      (.cond (.t 9)
       (.skip)
       (.exit 0)))
     (.seq (.block 1 (.seq (.region [
         ⟨(some 12), .mv, [.t 0], [], none⟩,
         ⟨(some 13), .mv, [.t 4], [], none⟩,
         ⟨(some 14), (.indexAddr 2), [.t 12, .t 13], [], none⟩,
         ⟨(some 15), (.fieldAddr 0), [.t 14], [], none⟩,
         ⟨(some 16), (.load 1 false), [.t 15], [], none⟩,
         ⟨(some 17), (.bin .eql), [.t 16, .c (.str [98, 108, 111, 99, 107])], [], none⟩,
         ⟨(some 18), .mv, [.t 17], [], none⟩,
         ⟨(some 19), .mv, [.t 0], [], some (18, false)⟩,
         ⟨(some 20), .mv, [.t 4], [], some (18, false)⟩,
         ⟨(some 21), (.indexAddr 2), [.t 19, .t 20], [], some (18, false)⟩,
         ⟨(some 22), (.fieldAddr 0), [.t 21], [], some (18, false)⟩,
         ⟨(some 23), (.load 1 false), [.t 22], [], some (18, false)⟩,
         ⟨(some 24), (.bin .eql), [.t 23, .c (.str [123])], [], some (18, false)⟩,
         ⟨(some 25), .pick, [.t 18, .c (.bool true), .t 24], [], none⟩] [0, 2, 3, 4, 25])
       (.cond (.t 25)
        (.region [
         ⟨(some 26), .mv, [.t 0], [], none⟩,
         ⟨(some 27), .mv, [.t 4], [], none⟩,
         ⟨(some 28), (.indexAddr 2), [.t 26, .t 27], [], none⟩,
         ⟨(some 29), (.load 2 true), [.t 28], [], none⟩,
         ⟨none, (.store 2), [.t 3, .t 29], [], none⟩] [0, 2, 3, 4])
        (.skip))))
     (.region [
      ⟨(some 10), .mv, [.t 4], [], none⟩,
      ⟨(some 11), (.bin .add), [.t 10, .c (.int .i64 1)], [], none⟩,
      ⟨(some 4), .mv, [.t 11], [], none⟩] [0, 2, 3, 4]))))))
  (.seq (.region [
    ⟨(some 30), (.load 2 true), [.t 3], [], none⟩,
    ⟨none, (.store 2), [.t 2, .t 30], [], none⟩] [2])
  (.ret)))),
  [.cell 2 2 true]⟩
/-- changeling/changelingref04.tells -/
def v44 : VFunc := ⟨45,
  .seq (.region [
    ⟨(some 2), .box, [.t 0], [0], none⟩,
    ⟨(some 3), .box, [.t 1], [], none⟩,
    ⟨(some 4), (.alloc [.sl true 6 [], .nilh 2, .bool false]), [], [], none⟩] [2, 3, 4])
  (.seq (.region [
    ⟨(some 5), (.fieldAddr 0), [.t 2], [], none⟩,
    ⟨(some 6), (.loadT 1 false), [.t 5], [], none⟩,
    ⟨(some 7), (.load 6 true), [.t 3], [], none⟩,
    ⟨(some 8), (.buildSl 6), [.t 7], [], none⟩,
    ⟨(some 9), (.append 6 56), [.t 6, .t 8], [6], none⟩,
    ⟨(some 10), (.fieldAddr 0), [.t 2], [], none⟩,
    ⟨none, (.store 1), [.t 10, .t 9], [9], none⟩] [2, 3, 4])
  (.seq (.seq (.region [
     ⟨(some 11), (.load 6 true), [.t 3], [], none⟩,
     ⟨(some 12), (.call .wr), [.c (.fn 30 []), .t 11, .c (.str [40])], [], none⟩,
     ⟨(some 13), .mv, [.t 12], [], none⟩,
     ⟨(some 14), (.load 6 true), [.t 3], [], some (13, false)⟩,
     ⟨(some 15), (.call .wr), [.c (.fn 30 []), .t 14, .c (.str [123])], [], some (13, false)⟩,
     ⟨(some 16), .pick, [.t 13, .c (.bool true), .t 15], [], none⟩,
     ⟨(some 17), .mv, [.t 16], [], none⟩,
     ⟨(some 18), (.load 6 true), [.t 3], [], some (17, false)⟩,
     ⟨(some 19), (.call .wr), [.c (.fn 31 []), .t 18, .c (.str [108, 101, 116])], [], some (17, false)⟩,
     ⟨(some 20), .pick, [.t 17, .c (.bool true), .t 19], [], none⟩,
     ⟨(some 21), .mv, [.t 20], [], none⟩,
     ⟨(some 22), (.load 6 true), [.t 3], [], some (21, false)⟩,
     ⟨(some 23), (.call .wr), [.c (.fn 31 []), .t 22, .c (.str [99, 97, 115, 101])], [], some (21, false)⟩,
     ⟨(some 24), .pick, [.t 21, .c (.bool true), .t 23], [], none⟩,
     ⟨(some 25), .mv, [.t 24], [], none⟩,
     ⟨(some 26), (.load 6 true), [.t 3], [], some (25, false)⟩,
     ⟨(some 27), (.call .wr), [.c (.fn 31 []), .t 26, .c (.str [105, 102])], [], some (25, false)⟩,
     ⟨(some 28), .pick, [.t 25, .c (.bool true), .t 27], [], none⟩,
     ⟨(some 29), .mv, [.t 28], [], none⟩,
     ⟨(some 30), (.load 6 true), [.t 3], [], some (29, false)⟩,
     ⟨(some 31), (.call .wr), [.c (.fn 31 []), .t 30, .c (.str [116, 104, 101, 110])], [], some (29, false)⟩,
     ⟨(some 32), .pick, [.t 29, .c (.bool true), .t 31], [], none⟩] [2, 3, 4, 32])
   (.cond (.t 32)
    (.region [
     ⟨(some 33), (.loadT 3 true), [.t 2], [], none⟩,
     ⟨(some 34), (.fieldAddr 1), [.t 3], [], none⟩,
     ⟨(some 35), (.load 1 false), [.t 34], [], none⟩,
     ⟨(some 36), (.call .wr), [.c (.fn 45 []), .t 33, .t 35, .c (.int .i64 0)], [33], none⟩,
     ⟨none, (.store 3), [.t 2, .t 36], [36], none⟩] [2, 3, 4])
    (.skip)))
  (.seq (.seq (.region [
     ⟨(some 37), (.load 6 true), [.t 3], [], none⟩,
     ⟨(some 38), (.call .wr), [.c (.fn 31 []), .t 37, .c (.str [108, 101, 116])], [], none⟩,
     ⟨(some 39), .mv, [.t 38], [], none⟩,
     ⟨(some 40), (.load 6 true), [.t 3], [], some (39, false)⟩,
     ⟨(some 41), (.call .wr), [.c (.fn 31 []), .t 40, .c (.str [111, 102])], [], some (39, false)⟩,
     ⟨(some 42), .pick, [.t 39, .c (.bool true), .t 41], [], none⟩] [2, 4, 42])
   (.cond (.t 42)
    (.region [
     ⟨(some 43), (.fieldAddr 2), [.t 2], [], none⟩,
     ⟨none, (.store 1), [.t 43, .c (.bool true)], [], none⟩] [2, 4])
    (.skip)))
  (.seq (.region [
    ⟨(some 44), (.loadT 3 true), [.t 2], [], none⟩,
    ⟨none, (.store 3), [.t 4, .t 44], [44], none⟩] [4])
  (.ret))))),
  [.cell 4 3 true]⟩
/-- changeling/changelingref04.pushed -/
def v45 : VFunc := ⟨16,
  .seq (.region [
    ⟨(some 3), .box, [.t 0], [0], none⟩,
    ⟨(some 6), (.alloc [.sl true 6 [], .nilh 2, .bool false]), [], [], none⟩] [1, 2, 3, 6])
  (.seq (.region [
    ⟨(some 7), (.fieldAddr 1), [.t 3], [], none⟩,
    ⟨(some 8), (.load 1 false), [.t 7], [], none⟩,
    ⟨(some 9), .mv, [.t 1], [], none⟩,
    ⟨(some 10), .mv, [.t 2], [], none⟩,
    ⟨(some 11), (.build [.str [], .int .i64 0] [(0, 1), (1, 1)]), [.t 9, .t 10], [], none⟩,
    ⟨(some 12), (.buildSl 2), [.t 11], [], none⟩,
    ⟨(some 13), (.appendH 2 24), [.t 8, .t 12], [], none⟩,
    ⟨(some 14), (.fieldAddr 1), [.t 3], [], none⟩,
    ⟨none, (.store 1), [.t 14, .t 13], [13], none⟩] [3, 6])
  (.seq (.region [
    ⟨(some 15), (.loadT 3 true), [.t 3], [], none⟩,
    ⟨none, (.store 3), [.t 6, .t 15], [15], none⟩] [6])
  (.ret))),
  [.cell 6 3 true]⟩
/-- changeling/changelingref04.closes -/
def v46 : VFunc := ⟨54,
  .seq (.region [
    ⟨(some 2), .box, [.t 0], [0], none⟩,
    ⟨(some 3), .box, [.t 1], [], none⟩,
    ⟨(some 4), (.alloc [.sl true 6 [], .nilh 2, .bool false]), [], [], none⟩] [2, 3, 4])
  (.seq (.region [
    ⟨(some 8), (.buildSl 1), [], [], none⟩,
    ⟨(some 5), .mv, [.t 8], [8], none⟩] [2, 3, 4, 5])
  (.seq (.region [
    ⟨(some 9), (.buildSl 1), [.c (.str [123])], [], none⟩,
    ⟨(some 6), .mv, [.t 9], [9], none⟩] [2, 3, 4, 5, 6])
  (.seq (.region [
    ⟨(some 10), (.buildSl 1), [.c (.str [123]), .c (.str [40])], [], none⟩,
    ⟨(some 7), .mv, [.t 10], [10], none⟩] [2, 3, 4, 5, 6, 7])
  (.seq (.seq (.region [
     ⟨(some 11), (.load 6 true), [.t 3], [], none⟩,
     ⟨(some 12), (.call .wr), [.c (.fn 30 []), .t 11, .c (.str [41])], [], none⟩] [2, 3, 4, 5, 6, 7, 12])
   (.cond (.t 12)
    (.seq (.region [
      ⟨(some 13), (.loadT 3 true), [.t 2], [], none⟩,
      ⟨(some 14), .mv, [.t 6], [6], none⟩,
      ⟨(some 15), (.fieldAddr 3), [.t 3], [], none⟩,
      ⟨(some 16), (.load 2 true), [.t 15], [], none⟩,
      ⟨(some 17), (.call .wr), [.c (.fn 50 []), .t 13, .c (.str [40]), .t 14, .t 16], [13, 14], none⟩,
      ⟨none, (.store 3), [.t 4, .t 17], [17], none⟩] [4])
    (.ret))
    (.skip)))
  (.seq (.seq (.region [
     ⟨(some 18), (.load 6 true), [.t 3], [], none⟩,
     ⟨(some 19), (.call .wr), [.c (.fn 30 []), .t 18, .c (.str [125])], [], none⟩] [2, 3, 4, 5, 7, 19])
   (.cond (.t 19)
    (.seq (.region [
      ⟨(some 20), (.loadT 3 true), [.t 2], [], none⟩,
      ⟨(some 21), .mv, [.t 5], [5], none⟩,
      ⟨(some 22), (.fieldAddr 3), [.t 3], [], none⟩,
      ⟨(some 23), (.load 2 true), [.t 22], [], none⟩,
      ⟨(some 24), (.call .wr), [.c (.fn 50 []), .t 20, .c (.str [123]), .t 21, .t 23], [20, 21], none⟩,
      ⟨none, (.store 3), [.t 4, .t 24], [24], none⟩] [4])
    (.ret))
    (.skip)))
  (.seq (.seq (.region [
     ⟨(some 25), (.load 6 true), [.t 3], [], none⟩,
     ⟨(some 26), (.call .wr), [.c (.fn 31 []), .t 25, .c (.str [105, 110])], [], none⟩] [2, 3, 4, 7, 26])
   (.cond (.t 26)
    (.seq (.region [
      ⟨(some 27), (.loadT 3 true), [.t 2], [], none⟩,
      ⟨(some 28), .mv, [.t 7], [7], none⟩,
      ⟨(some 29), (.fieldAddr 3), [.t 3], [], none⟩,
      ⟨(some 30), (.load 2 true), [.t 29], [], none⟩,
      ⟨(some 31), (.call .wr), [.c (.fn 50 []), .t 27, .c (.str [108, 101, 116]), .t 28, .t 30], [27, 28], none⟩,
      ⟨none, (.store 3), [.t 4, .t 31], [31], none⟩] [4])
    (.ret))
    (.skip)))
  (.seq (.seq (.region [
     ⟨(some 32), (.load 6 true), [.t 3], [], none⟩,
     ⟨(some 33), (.call .wr), [.c (.fn 31 []), .t 32, .c (.str [111, 102])], [], none⟩] [2, 3, 4, 7, 33])
   (.cond (.t 33)
    (.seq (.region [
      ⟨(some 34), (.loadT 3 true), [.t 2], [], none⟩,
      ⟨(some 35), .mv, [.t 7], [7], none⟩,
      ⟨(some 36), (.fieldAddr 3), [.t 3], [], none⟩,
      ⟨(some 37), (.load 2 true), [.t 36], [], none⟩,
      ⟨(some 38), (.call .wr), [.c (.fn 50 []), .t 34, .c (.str [99, 97, 115, 101]), .t 35, .t 37], [34, 35], none⟩,
      ⟨none, (.store 3), [.t 4, .t 38], [38], none⟩] [4])
    (.ret))
    (.skip)))
  (.seq (.seq (.region [
     ⟨(some 39), (.load 6 true), [.t 3], [], none⟩,
     ⟨(some 40), (.call .wr), [.c (.fn 31 []), .t 39, .c (.str [116, 104, 101, 110])], [], none⟩] [2, 3, 4, 7, 40])
   (.cond (.t 40)
    (.seq (.region [
      ⟨(some 41), (.loadT 3 true), [.t 2], [], none⟩,
      ⟨(some 42), .mv, [.t 7], [7], none⟩,
      ⟨(some 43), (.fieldAddr 3), [.t 3], [], none⟩,
      ⟨(some 44), (.load 2 true), [.t 43], [], none⟩,
      ⟨(some 45), (.call .wr), [.c (.fn 50 []), .t 41, .c (.str [105, 102]), .t 42, .t 44], [41, 42], none⟩,
      ⟨none, (.store 3), [.t 4, .t 45], [45], none⟩] [4])
    (.ret))
    (.skip)))
  (.seq (.seq (.region [
     ⟨(some 46), (.load 6 true), [.t 3], [], none⟩,
     ⟨(some 47), (.call .wr), [.c (.fn 31 []), .t 46, .c (.str [101, 108, 115, 101])], [], none⟩] [2, 3, 4, 7, 47])
   (.cond (.t 47)
    (.seq (.region [
      ⟨(some 48), (.loadT 3 true), [.t 2], [], none⟩,
      ⟨(some 49), .mv, [.t 7], [7], none⟩,
      ⟨(some 50), (.fieldAddr 3), [.t 3], [], none⟩,
      ⟨(some 51), (.load 2 true), [.t 50], [], none⟩,
      ⟨(some 52), (.call .wr), [.c (.fn 50 []), .t 48, .c (.str [116, 104, 101, 110]), .t 49, .t 51], [48, 49], none⟩,
      ⟨none, (.store 3), [.t 4, .t 52], [52], none⟩] [4])
    (.ret))
    (.skip)))
  (.seq (.region [
    ⟨(some 53), (.loadT 3 true), [.t 2], [], none⟩,
    ⟨none, (.store 3), [.t 4, .t 53], [53], none⟩] [4])
  (.ret))))))))))),
  [.cell 4 3 true]⟩
/-- changeling/changelingref04.dropped -/
def v47 : VFunc := ⟨29,
  .seq (.region [
    ⟨(some 2), .mv, [.c (.sl true 2 [])], [], none⟩] [0])
  (.seq (.region [
    ⟨(some 3), .mv, [.c (.int .i64 0)], [], none⟩] [0, 3])
  (.seq (.seq (.region [
     ⟨(some 4), .mv, [.c (.int .i64 0)], [], none⟩] [0, 3, 4])
   (.block 0 (.loop (.seq (.seq (.region [
        ⟨(some 5), .mv, [.t 4], [], none⟩,
        ⟨(some 6), .mv, [.t 0], [], none⟩,
        ⟨(some 7), .len, [.t 6], [], none⟩,
        ⟨(some 8), (.bin .lss), [.t 5, .t 7], [], none⟩] [0, 3, 4, 8])
      (.cond (.t 8)
       (.skip)
       (.exit 0)))
     (.seq (.block 1 (.seq (.region [
         ⟨(some 11), .mv, [.t 0], [], none⟩,
         ⟨(some 12), .mv, [.t 4], [], none⟩,
         ⟨(some 13), (.indexAddr 2), [.t 11, .t 12], [], none⟩,
         ⟨(some 14), (.fieldAddr 0), [.t 13], [], none⟩,
         ⟨(some 15), (.load 1 false), [.t 14], [], none⟩,
         ⟨(some 16), (.bin .eql), [.t 15, .c (.str [98, 108, 111, 99, 107])], [], none⟩,
         ⟨(some 17), .mv, [.t 16], [], none⟩,
         ⟨(some 18), .mv, [.t 0], [], some (17, false)⟩,
         ⟨(some 19), .mv, [.t 4], [], some (17, false)⟩,
         ⟨(some 20), (.indexAddr 2), [.t 18, .t 19], [], some (17, false)⟩,
         ⟨(some 21), (.fieldAddr 0), [.t 20], [], some (17, false)⟩,
         ⟨(some 22), (.load 1 false), [.t 21], [], some (17, false)⟩,
         ⟨(some 23), (.bin .eql), [.t 22, .c (.str [123])], [], some (17, false)⟩,
         ⟨(some 24), .pick, [.t 17, .c (.bool true), .t 23], [], none⟩] [0, 3, 4, 24])
       (.cond (.t 24)
        (.region [
         ⟨(some 25), .mv, [.t 4], [], none⟩,
         ⟨(some 3), .mv, [.t 25], [], none⟩] [0, 3, 4])
        (.skip))))
     (.region [
      ⟨(some 9), .mv, [.t 4], [], none⟩,
      ⟨(some 10), (.bin .add), [.t 9, .c (.int .i64 1)], [], none⟩,
      ⟨(some 4), .mv, [.t 10], [], none⟩] [0, 3, 4]))))))
  (.seq (.region [
    ⟨(some 26), .mv, [.t 0], [0], none⟩,
    ⟨(some 27), .mv, [.t 3], [], none⟩,
    ⟨(some 28), (.slice false true 2), [.t 26, .t 27], [], none⟩,
    ⟨(some 2), .mv, [.t 28], [28], none⟩] [2])
  (.ret)))),
  [.tmp 2]⟩
/-- changeling/lex.Word -/
def v48 : VFunc := ⟨16,
  .seq (.region [
    ⟨(some 2), .mv, [.c (.bool false)], [], none⟩] [0])
  (.seq (.seq (.region [
     ⟨(some 3), .mv, [.t 0], [], none⟩] [3])
   (.block 0 (.seq (.seq (.region [
       ⟨(some 5), (.bin .eql), [.t 3, .c (.str [100, 97, 116, 97])], [], none⟩,
       ⟨(some 4), .mv, [.t 5], [], none⟩] [3, 4])
     (.cond (.t 4)
      (.skip)
      (.seq (.region [
        ⟨(some 6), (.bin .eql), [.t 3, .c (.str [105, 110, 102, 105, 120, 108])], [], none⟩,
        ⟨(some 4), .mv, [.t 6], [], none⟩] [3, 4])
      (.cond (.t 4)
       (.skip)
       (.seq (.region [
         ⟨(some 7), (.bin .eql), [.t 3, .c (.str [105, 110, 102, 105, 120, 114])], [], none⟩,
         ⟨(some 4), .mv, [.t 7], [], none⟩] [3, 4])
       (.cond (.t 4)
        (.skip)
        (.seq (.region [
          ⟨(some 8), (.bin .eql), [.t 3, .c (.str [105, 110, 102, 105, 120])], [], none⟩,
          ⟨(some 4), .mv, [.t 8], [], none⟩] [3, 4])
        (.cond (.t 4)
         (.skip)
         (.seq (.region [
           ⟨(some 9), (.bin .eql), [.t 3, .c (.str [108, 101, 116])], [], none⟩,
           ⟨(some 4), .mv, [.t 9], [], none⟩] [3, 4])
         (.cond (.t 4)
          (.skip)
          (.seq (.region [
            ⟨(some 10), (.bin .eql), [.t 3, .c (.str [105, 110])], [], none⟩,
            ⟨(some 4), .mv, [.t 10], [], none⟩] [3, 4])
          (.cond (.t 4)
           (.skip)
           (.seq (.region [
             ⟨(some 11), (.bin .eql), [.t 3, .c (.str [99, 97, 115, 101])], [], none⟩,
             ⟨(some 4), .mv, [.t 11], [], none⟩] [3, 4])
           (.cond (.t 4)
            (.skip)
            (.seq (.region [
              ⟨(some 12), (.bin .eql), [.t 3, .c (.str [111, 102])], [], none⟩,
              ⟨(some 4), .mv, [.t 12], [], none⟩] [3, 4])
            (.cond (.t 4)
             (.skip)
             (.seq (.region [
               ⟨(some 13), (.bin .eql), [.t 3, .c (.str [105, 102])], [], none⟩,
               ⟨(some 4), .mv, [.t 13], [], none⟩] [3, 4])
             (.cond (.t 4)
              (.skip)
              (.seq (.region [
                ⟨(some 14), (.bin .eql), [.t 3, .c (.str [116, 104, 101, 110])], [], none⟩,
                ⟨(some 4), .mv, [.t 14], [], none⟩] [3, 4])
              (.cond (.t 4)
               (.skip)
               (.region [
                ⟨(some 15), (.bin .eql), [.t 3, .c (.str [101, 108, 115, 101])], [], none⟩,
                ⟨(some 4), .mv, [.t 15], [], none⟩] [4])))))))))))))))))))))
    (.cond (.t 4)
     (.seq (.region [
       ⟨(some 2), .mv, [.c (.bool true)], [], none⟩] [2])
     (.ret))
     (.skip)))))
  (.seq (.region [
    ⟨(some 2), .mv, [.c (.bool false)], [], none⟩] [2])
  (.ret))),
  [.tmp 2]⟩
/-- changeling/num.Parse -/
def v49 : VFunc := ⟨79,
  .seq (.region [
    ⟨(some 2), .mv, [.c (.int .i64 0)], [], none⟩,
    ⟨(some 3), .mv, [.c (.int .i64 0)], [], none⟩] [0])
  (.scope (.seq (.region [
     ⟨(some 10), .mv, [.t 0], [], none⟩,
     ⟨(some 4), .mv, [.t 10], [], none⟩] [0, 4])
   (.seq (.region [
     ⟨(some 11), .mv, [.t 0], [], none⟩,
     ⟨(some 12), .lenStr, [.t 11], [], none⟩,
     ⟨(some 13), (.bin .gtr), [.t 12, .c (.int .i64 0)], [], none⟩,
     ⟨(some 14), .mv, [.t 13], [], none⟩,
     ⟨(some 15), .mv, [.t 0], [], some (14, true)⟩,
     ⟨(some 16), .indexStr, [.t 15, .c (.int .i64 0)], [], some (14, true)⟩,
     ⟨(some 17), (.bin .eql), [.t 16, .c (.int .u8 45)], [], some (14, true)⟩,
     ⟨(some 18), .pick, [.t 14, .t 17, .c (.bool false)], [], none⟩,
     ⟨(some 5), .mv, [.t 18], [], none⟩] [0, 4, 5])
   (.seq (.seq (.region [
      ⟨(some 19), .mv, [.t 5], [], none⟩] [0, 4, 5, 19])
    (.cond (.t 19)
     (.region [
      ⟨(some 20), .mv, [.t 0], [], none⟩,
      ⟨(some 21), (.sliceStr true false), [.t 20, .c (.int .i64 1)], [], none⟩,
      ⟨(some 4), .mv, [.t 21], [], none⟩] [0, 4, 5])
     (.skip)))
   (.seq (.seq (.region [
      ⟨(some 22), .mv, [.t 4], [], none⟩,
      ⟨(some 23), (.bin .eql), [.t 22, .c (.str [])], [], none⟩,
      ⟨(some 24), .mv, [.t 23], [], none⟩,
      ⟨(some 25), .mv, [.t 4], [], some (24, false)⟩,
      ⟨(some 26), .lenStr, [.t 25], [], some (24, false)⟩,
      ⟨(some 27), (.bin .gtr), [.t 26, .c (.int .i64 19)], [], some (24, false)⟩,
      ⟨(some 28), .pick, [.t 24, .c (.bool true), .t 27], [], none⟩,
      ⟨(some 29), .mv, [.t 28], [], none⟩,
      ⟨(some 30), .mv, [.t 4], [], some (29, false)⟩,
      ⟨(some 31), .indexStr, [.t 30, .c (.int .i64 0)], [], some (29, false)⟩,
      ⟨(some 32), (.bin .eql), [.t 31, .c (.int .u8 48)], [], some (29, false)⟩,
      ⟨(some 33), .mv, [.t 32], [], some (29, false)⟩,
      ⟨(some 34), .mv, [.t 0], [], some (33, true)⟩,
      ⟨(some 35), .lenStr, [.t 34], [], some (33, true)⟩,
      ⟨(some 36), (.bin .gtr), [.t 35, .c (.int .i64 1)], [], some (33, true)⟩,
      ⟨(some 37), .pick, [.t 33, .t 36, .c (.bool false)], [], some (29, false)⟩,
      ⟨(some 38), .pick, [.t 29, .c (.bool true), .t 37], [], none⟩] [4, 5, 38])
    (.cond (.t 38)
     (.seq (.region [
       ⟨(some 2), .mv, [.c (.int .i64 0)], [], none⟩,
       ⟨(some 3), .mv, [.c (.int .i64 11)], [], none⟩] [2, 3])
     (.ret))
     (.skip)))
   (.seq (.region [
     ⟨(some 6), .mv, [.c (.int .u64 0)], [], none⟩] [4, 5, 6])
   (.seq (.region [
     ⟨(some 7), .mv, [.c (.bool true)], [], none⟩] [4, 5, 6, 7])
   (.seq (.label)
   (.seq (.seq (.region [
      ⟨(some 8), .mv, [.c (.int .i64 0)], [], none⟩] [4, 5, 6, 7, 8])
    (.block 0 (.loop (.seq (.seq (.region [
         ⟨(some 39), .mv, [.t 8], [], none⟩,
         ⟨(some 40), .mv, [.t 4], [], none⟩,
         ⟨(some 41), .lenStr, [.t 40], [], none⟩,
         ⟨(some 42), (.bin .lss), [.t 39, .t 41], [], none⟩] [4, 5, 6, 7, 8, 42])
       (.cond (.t 42)
        (.skip)
        (.exit 0)))
      (.seq (.block 1 (.seq (.region [
          ⟨(some 45), .mv, [.t 4], [], none⟩,
          ⟨(some 46), .mv, [.t 8], [], none⟩,
          ⟨(some 47), .indexStr, [.t 45, .t 46], [], none⟩,
          ⟨(some 9), .mv, [.t 47], [], none⟩] [4, 5, 6, 7, 8, 9])
        (.seq (.seq (.region [
           ⟨(some 48), .mv, [.t 9], [], none⟩,
           ⟨(some 49), (.bin .lss), [.t 48, .c (.int .u8 48)], [], none⟩,
           ⟨(some 50), .mv, [.t 49], [], none⟩,
           ⟨(some 51), .mv, [.t 9], [], some (50, false)⟩,
           ⟨(some 52), (.bin .gtr), [.t 51, .c (.int .u8 57)], [], some (50, false)⟩,
           ⟨(some 53), .pick, [.t 50, .c (.bool true), .t 52], [], none⟩] [4, 5, 6, 7, 8, 9, 53])
         (.cond (.t 53)
          (.seq (.region [
            ⟨(some 7), .mv, [.c (.bool false)], [], none⟩] [5, 6, 7])
          (.exit 0))
          (.skip)))
        (.region [
         ⟨(some 54), .mv, [.t 6], [], none⟩,
         ⟨(some 55), (.bin .mul), [.t 54, .c (.int .u64 10)], [], none⟩,
         ⟨(some 56), .mv, [.t 9], [], none⟩,
         ⟨(some 57), (.bin .sub), [.t 56, .c (.int .u8 48)], [], none⟩,
         ⟨(some 58), (.conv .u64), [.t 57], [], none⟩,
         ⟨(some 59), (.bin .add), [.t 55, .t 58], [], none⟩,
         ⟨(some 6), .mv, [.t 59], [], none⟩] [4, 5, 6, 7, 8]))))
      (.region [
       ⟨(some 43), .mv, [.t 8], [], none⟩,
       ⟨(some 44), (.bin .add), [.t 43, .c (.int .i64 1)], [], none⟩,
       ⟨(some 8), .mv, [.t 44], [], none⟩] [4, 5, 6, 7, 8]))))))
   (.seq (.seq (.region [
      ⟨(some 60), .mv, [.t 7], [], none⟩,
      ⟨(some 61), .not, [.t 60], [], none⟩,
      ⟨(some 62), .mv, [.t 61], [], none⟩,
      ⟨(some 63), .mv, [.t 6], [], some (62, false)⟩,
      ⟨(some 64), (.bin .gtr), [.t 63, .c (.int .u64 9223372036854775808)], [], some (62, false)⟩,
      ⟨(some 65), .pick, [.t 62, .c (.bool true), .t 64], [], none⟩,
      ⟨(some 66), .mv, [.t 65], [], none⟩,
      ⟨(some 67), .mv, [.t 6], [], some (66, false)⟩,
      ⟨(some 68), (.bin .eql), [.t 67, .c (.int .u64 9223372036854775808)], [], some (66, false)⟩,
      ⟨(some 69), .mv, [.t 68], [], some (66, false)⟩,
      ⟨(some 70), .mv, [.t 5], [], some (69, true)⟩,
      ⟨(some 71), .not, [.t 70], [], some (69, true)⟩,
      ⟨(some 72), .pick, [.t 69, .t 71, .c (.bool false)], [], some (66, false)⟩,
      ⟨(some 73), .pick, [.t 66, .c (.bool true), .t 72], [], none⟩] [5, 6, 73])
    (.cond (.t 73)
     (.seq (.region [
       ⟨(some 2), .mv, [.c (.int .i64 0)], [], none⟩,
       ⟨(some 3), .mv, [.c (.int .i64 11)], [], none⟩] [2, 3])
     (.ret))
     (.skip)))
   (.seq (.seq (.region [
      ⟨(some 74), .mv, [.t 5], [], none⟩] [6, 74])
    (.cond (.t 74)
     (.region [
      ⟨(some 75), .mv, [.t 6], [], none⟩,
      ⟨(some 76), .neg, [.t 75], [], none⟩,
      ⟨(some 6), .mv, [.t 76], [], none⟩] [6])
     (.skip)))
   (.seq (.region [
     ⟨(some 77), .mv, [.t 6], [], none⟩,
     ⟨(some 78), (.conv .i64), [.t 77], [], none⟩,
     ⟨(some 2), .mv, [.t 78], [], none⟩,
     ⟨(some 3), .mv, [.c (.int .i64 0)], [], none⟩] [2, 3])
   (.ret))))))))))))),
  [.tmp 2, .tmp 3]⟩
/-- changeling/changelingref04.closed -/
def v50 : VFunc := ⟨83,
  .seq (.region [
    ⟨(some 4), .box, [.t 0], [0], none⟩,
    ⟨(some 7), .box, [.t 3], [], none⟩,
    ⟨(some 8), (.alloc [.sl true 6 [], .nilh 2, .bool false]), [], [], none⟩] [1, 2, 4, 7, 8])
  (.seq (.region [
    ⟨(some 15), (.fieldAddr 1), [.t 4], [], none⟩,
    ⟨(some 16), (.load 1 false), [.t 15], [], none⟩,
    ⟨(some 17), .len, [.t 16], [], none⟩,
    ⟨(some 9), .mv, [.t 17], [], none⟩] [1, 2, 4, 7, 8, 9])
  (.seq (.region [
    ⟨(some 10), .mv, [.c (.int .i64 (-1))], [], none⟩] [1, 2, 4, 7, 8, 9, 10])
  (.seq (.seq (.region [
     ⟨(some 11), .mv, [.c (.int .i64 0)], [], none⟩] [1, 2, 4, 7, 8, 9, 10, 11])
   (.block 0 (.loop (.seq (.seq (.region [
        ⟨(some 18), .mv, [.t 11], [], none⟩,
        ⟨(some 19), .mv, [.t 9], [], none⟩,
        ⟨(some 20), (.bin .lss), [.t 18, .t 19], [], none⟩] [1, 2, 4, 7, 8, 9, 10, 11, 20])
      (.cond (.t 20)
       (.skip)
       (.exit 0)))
     (.seq (.block 1 (.seq (.region [
         ⟨(some 23), (.fieldAddr 1), [.t 4], [], none⟩,
         ⟨(some 24), (.load 1 false), [.t 23], [], none⟩,
         ⟨(some 25), .mv, [.t 11], [], none⟩,
         ⟨(some 26), (.indexAddr 2), [.t 24, .t 25], [], none⟩,
         ⟨(some 27), (.fieldAddr 0), [.t 26], [], none⟩,
         ⟨(some 28), (.load 1 false), [.t 27], [], none⟩,
         ⟨(some 29), .mv, [.t 1], [], none⟩,
         ⟨(some 30), (.bin .eql), [.t 28, .t 29], [], none⟩] [1, 2, 4, 7, 8, 9, 10, 11, 30])
       (.cond (.t 30)
        (.region [
         ⟨(some 31), .mv, [.t 11], [], none⟩,
         ⟨(some 10), .mv, [.t 31], [], none⟩] [1, 2, 4, 7, 8, 9, 10, 11])
        (.skip))))
     (.region [
      ⟨(some 21), .mv, [.t 11], [], none⟩,
      ⟨(some 22), (.bin .add), [.t 21, .c (.int .i64 1)], [], none⟩,
      ⟨(some 11), .mv, [.t 22], [], none⟩] [1, 2, 4, 7, 8, 9, 10, 11]))))))
  (.seq (.seq (.region [
     ⟨(some 32), .mv, [.t 10], [], none⟩,
     ⟨(some 33), (.bin .lss), [.t 32, .c (.int .i64 0)], [], none⟩] [2, 4, 7, 8, 9, 10, 33])
   (.cond (.t 33)
    (.seq (.region [
      ⟨(some 34), (.loadT 3 true), [.t 4], [], none⟩,
      ⟨none, (.store 3), [.t 8, .t 34], [34], none⟩] [8])
    (.ret))
    (.skip)))
  (.seq (.seq (.region [
     ⟨(some 35), .mv, [.t 10], [], none⟩,
     ⟨(some 36), (.bin .add), [.t 35, .c (.int .i64 1)], [], none⟩,
     ⟨(some 12), .mv, [.t 36], [], none⟩] [2, 4, 7, 8, 9, 10, 12])
   (.block 2 (.loop (.seq (.seq (.region [
        ⟨(some 37), .mv, [.t 12], [], none⟩,
        ⟨(some 38), .mv, [.t 9], [], none⟩,
        ⟨(some 39), (.bin .lss), [.t 37, .t 38], [], none⟩] [2, 4, 7, 8, 9, 10, 12, 39])
      (.cond (.t 39)
       (.skip)
       (.exit 2)))
     (.seq (.block 3 (.seq (.region [
         ⟨(some 13), .mv, [.c (.int .i64 0)], [], none⟩] [2, 4, 7, 8, 9, 10, 12, 13])
       (.block 4 (.loop (.seq (.seq (.region [
            ⟨(some 42), .mv, [.t 13], [], none⟩,
            ⟨(some 43), .mv, [.t 2], [], none⟩,
            ⟨(some 44), .len, [.t 43], [], none⟩,
            ⟨(some 45), (.bin .lss), [.t 42, .t 44], [], none⟩] [2, 4, 7, 8, 9, 10, 12, 13, 45])
          (.cond (.t 45)
           (.skip)
           (.exit 4)))
         (.seq (.block 5 (.seq (.region [
             ⟨(some 48), (.fieldAddr 1), [.t 4], [], none⟩,
             ⟨(some 49), (.load 1 false), [.t 48], [], none⟩,
             ⟨(some 50), .mv, [.t 12], [], none⟩,
             ⟨(some 51), (.indexAddr 2), [.t 49, .t 50], [], none⟩,
             ⟨(some 52), (.fieldAddr 0), [.t 51], [], none⟩,
             ⟨(some 53), (.load 1 false), [.t 52], [], none⟩,
             ⟨(some 54), .mv, [.t 2], [], none⟩,
             ⟨(some 55), .mv, [.t 13], [], none⟩,
             ⟨(some 56), (.indexAddr 1), [.t 54, .t 55], [], none⟩,
             ⟨(some 57), (.load 1 false), [.t 56], [], none⟩,
             ⟨(some 58), (.bin .eql), [.t 53, .t 57], [], none⟩] [2, 4, 7, 8, 9, 10, 12, 13, 58])
           (.cond (.t 58)
            (.seq (.region [
              ⟨(some 59), (.loadT 3 true), [.t 4], [], none⟩,
              ⟨none, (.store 3), [.t 8, .t 59], [59], none⟩] [8])
            (.ret))
            (.skip))))
         (.region [
          ⟨(some 46), .mv, [.t 13], [], none⟩,
          ⟨(some 47), (.bin .add), [.t 46, .c (.int .i64 1)], [], none⟩,
          ⟨(some 13), .mv, [.t 47], [], none⟩] [2, 4, 7, 8, 9, 10, 12, 13])))))))
     (.region [
      ⟨(some 40), .mv, [.t 12], [], none⟩,
      ⟨(some 41), (.bin .add), [.t 40, .c (.int .i64 1)], [], none⟩,
      ⟨(some 12), .mv, [.t 41], [], none⟩] [2, 4, 7, 8, 9, 10, 12]))))))
  (.seq (.seq (.region [
     ⟨(some 60), .mv, [.t 9], [], none⟩,
     ⟨(some 61), (.bin .sub), [.t 60, .c (.int .i64 1)], [], none⟩,
     ⟨(some 14), .mv, [.t 61], [], none⟩] [4, 7, 8, 10, 14])
   (.block 6 (.loop (.seq (.seq (.region [
        ⟨(some 62), .mv, [.t 14], [], none⟩,
        ⟨(some 63), .mv, [.t 10], [], none⟩,
        ⟨(some 64), (.bin .gtr), [.t 62, .t 63], [], none⟩] [4, 7, 8, 10, 14, 64])
      (.cond (.t 64)
       (.skip)
       (.exit 6)))
     (.seq (.block 7 (.seq (.region [
         ⟨(some 67), (.fieldAddr 1), [.t 4], [], none⟩,
         ⟨(some 68), (.load 1 false), [.t 67], [], none⟩,
         ⟨(some 69), .mv, [.t 14], [], none⟩,
         ⟨(some 70), (.indexAddr 2), [.t 68, .t 69], [], none⟩,
         ⟨(some 71), (.fieldAddr 0), [.t 70], [], none⟩,
         ⟨(some 72), (.load 1 false), [.t 71], [], none⟩,
         ⟨(some 73), (.bin .eql), [.t 72, .c (.str [98, 108, 111, 99, 107])], [], none⟩] [4, 7, 8, 10, 14, 73])
       (.cond (.t 73)
        (.region [
         ⟨(some 74), (.loadT 3 true), [.t 4], [], none⟩,
         ⟨(some 75), (.load 2 true), [.t 7], [], none⟩,
         ⟨(some 76), (.call .wr), [.c (.fn 29 []), .t 74, .c (.str [125]), .t 75], [74], none⟩,
         ⟨none, (.store 3), [.t 4, .t 76], [76], none⟩] [4, 7, 8, 10, 14])
        (.skip))))
     (.region [
      ⟨(some 65), .mv, [.t 14], [], none⟩,
      ⟨(some 66), (.bin .sub), [.t 65, .c (.int .i64 1)], [], none⟩,
      ⟨(some 14), .mv, [.t 66], [], none⟩] [4, 7, 8, 10, 14]))))))
  (.seq (.region [
    ⟨(some 77), (.fieldAddr 1), [.t 4], [], none⟩,
    ⟨(some 78), (.load 1 false), [.t 77], [], none⟩,
    ⟨(some 79), .mv, [.t 10], [], none⟩,
    ⟨(some 80), (.slice false true 2), [.t 78, .t 79], [], none⟩,
    ⟨(some 81), (.fieldAddr 1), [.t 4], [], none⟩,
    ⟨none, (.store 1), [.t 81, .t 80], [80], none⟩] [4, 8])
  (.seq (.region [
    ⟨(some 82), (.loadT 3 true), [.t 4], [], none⟩,
    ⟨none, (.store 3), [.t 8, .t 82], [82], none⟩] [8])
  (.ret))))))))),
  [.cell 8 3 true]⟩

def tab : List Entry := [⟨3, v3, false⟩, ⟨4, v4, false⟩, ⟨5, v5, false⟩, ⟨6, v6, false⟩, ⟨7, v7, false⟩, ⟨8, v8, false⟩, ⟨9, v9, false⟩, ⟨10, v10, false⟩, ⟨11, v11, false⟩, ⟨12, v12, false⟩, ⟨13, v13, false⟩, ⟨14, v14, false⟩, ⟨15, v15, false⟩, ⟨16, v16, false⟩, ⟨17, v17, false⟩, ⟨18, v18, false⟩, ⟨19, v19, false⟩, ⟨20, v20, true⟩, ⟨21, v21, true⟩, ⟨22, v22, false⟩, ⟨23, v23, true⟩, ⟨24, v24, true⟩, ⟨25, v25, true⟩, ⟨26, v26, true⟩, ⟨27, v27, true⟩, ⟨28, v28, false⟩, ⟨29, v29, false⟩, ⟨30, v30, false⟩, ⟨31, v31, false⟩, ⟨32, v32, true⟩, ⟨33, v33, false⟩, ⟨34, v34, false⟩, ⟨35, v35, false⟩, ⟨36, v36, false⟩, ⟨37, v37, true⟩, ⟨38, v38, true⟩, ⟨39, v39, true⟩, ⟨40, v40, true⟩, ⟨41, v41, true⟩, ⟨42, v42, true⟩, ⟨43, v43, false⟩, ⟨44, v44, false⟩, ⟨45, v45, false⟩, ⟨46, v46, false⟩, ⟨47, v47, false⟩, ⟨48, v48, false⟩, ⟨49, v49, false⟩, ⟨50, v50, false⟩]

theorem c3 : chkFn Try.prog 3 v3 = true := by kernel_rfl
theorem c4 : chkFn Try.prog 4 v4 = true := by kernel_rfl
theorem c5 : chkFn Try.prog 5 v5 = true := by kernel_rfl
theorem c6 : chkFn Try.prog 6 v6 = true := by kernel_rfl
theorem c7 : chkFn Try.prog 7 v7 = true := by kernel_rfl
theorem c8 : chkFn Try.prog 8 v8 = true := by kernel_rfl
theorem c9 : chkFn Try.prog 9 v9 = true := by kernel_rfl
theorem c10 : chkFn Try.prog 10 v10 = true := by kernel_rfl
theorem c11 : chkFn Try.prog 11 v11 = true := by kernel_rfl
theorem c12 : chkFn Try.prog 12 v12 = true := by kernel_rfl
theorem c13 : chkFn Try.prog 13 v13 = true := by kernel_rfl
theorem c14 : chkFn Try.prog 14 v14 = true := by kernel_rfl
theorem c15 : chkFn Try.prog 15 v15 = true := by kernel_rfl
theorem c16 : chkFn Try.prog 16 v16 = true := by kernel_rfl
theorem c17 : chkFn Try.prog 17 v17 = true := by kernel_rfl
theorem c18 : chkFn Try.prog 18 v18 = true := by kernel_rfl
theorem c19 : chkFn Try.prog 19 v19 = true := by kernel_rfl
theorem c20 : chkFn Try.prog 20 v20 = true := by kernel_rfl
theorem c21 : chkFn Try.prog 21 v21 = true := by kernel_rfl
theorem c22 : chkFn Try.prog 22 v22 = true := by kernel_rfl
theorem c23 : chkFn Try.prog 23 v23 = true := by kernel_rfl
theorem c24 : chkFn Try.prog 24 v24 = true := by kernel_rfl
theorem c25 : chkFn Try.prog 25 v25 = true := by kernel_rfl
theorem c26 : chkFn Try.prog 26 v26 = true := by kernel_rfl
theorem c27 : chkFn Try.prog 27 v27 = true := by kernel_rfl
theorem c28 : chkFn Try.prog 28 v28 = true := by kernel_rfl
theorem c29 : chkFn Try.prog 29 v29 = true := by kernel_rfl
theorem c30 : chkFn Try.prog 30 v30 = true := by kernel_rfl
theorem c31 : chkFn Try.prog 31 v31 = true := by kernel_rfl
theorem c32 : chkFn Try.prog 32 v32 = true := by kernel_rfl
theorem c33 : chkFn Try.prog 33 v33 = true := by kernel_rfl
theorem c34 : chkFn Try.prog 34 v34 = true := by kernel_rfl
theorem c35 : chkFn Try.prog 35 v35 = true := by kernel_rfl
theorem c36 : chkFn Try.prog 36 v36 = true := by kernel_rfl
theorem c37 : chkFn Try.prog 37 v37 = true := by kernel_rfl
theorem c38 : chkFn Try.prog 38 v38 = true := by kernel_rfl
theorem c39 : chkFn Try.prog 39 v39 = true := by kernel_rfl
theorem c40 : chkFn Try.prog 40 v40 = true := by kernel_rfl
theorem c41 : chkFn Try.prog 41 v41 = true := by kernel_rfl
theorem c42 : chkFn Try.prog 42 v42 = true := by kernel_rfl
theorem c43 : chkFn Try.prog 43 v43 = true := by kernel_rfl
theorem c44 : chkFn Try.prog 44 v44 = true := by kernel_rfl
theorem c45 : chkFn Try.prog 45 v45 = true := by kernel_rfl
theorem c46 : chkFn Try.prog 46 v46 = true := by kernel_rfl
theorem c47 : chkFn Try.prog 47 v47 = true := by kernel_rfl
theorem c48 : chkFn Try.prog 48 v48 = true := by kernel_rfl
theorem c49 : chkFn Try.prog 49 v49 = true := by kernel_rfl
theorem c50 : chkFn Try.prog 50 v50 = true := by kernel_rfl
theorem mix : Try.prog.follows .mixedOrders = true := by kernel_rfl
theorem tab_ok : tabOk Try.prog tab := by
  intro e h
  simp only [tab, List.mem_cons, List.not_mem_nil, or_false] at h
  rcases h with rfl | rfl | rfl | rfl | rfl | rfl | rfl | rfl | rfl | rfl | rfl | rfl | rfl | rfl | rfl | rfl | rfl | rfl | rfl | rfl | rfl | rfl | rfl | rfl | rfl | rfl | rfl | rfl | rfl | rfl | rfl | rfl | rfl | rfl | rfl | rfl | rfl | rfl | rfl | rfl | rfl | rfl | rfl | rfl | rfl | rfl | rfl | rfl
  · exact c3
  · exact c4
  · exact c5
  · exact c6
  · exact c7
  · exact c8
  · exact c9
  · exact c10
  · exact c11
  · exact c12
  · exact c13
  · exact c14
  · exact c15
  · exact c16
  · exact c17
  · exact c18
  · exact c19
  · exact c20
  · exact c21
  · exact c22
  · exact c23
  · exact c24
  · exact c25
  · exact c26
  · exact c27
  · exact c28
  · exact c29
  · exact c30
  · exact c31
  · exact c32
  · exact c33
  · exact c34
  · exact c35
  · exact c36
  · exact c37
  · exact c38
  · exact c39
  · exact c40
  · exact c41
  · exact c42
  · exact c43
  · exact c44
  · exact c45
  · exact c46
  · exact c47
  · exact c48
  · exact c49
  · exact c50

end Go.Proofs.Ytdmnacjpgaopfaa.Vm
namespace Go.Proofs.Ytdmnacjpgaopfaa.Vm
open Go
theorem known_run : callN tab 100000 12 [] [] = some (.bool true, []) := by kernel_rfl
theorem known_T : T Try.prog 12 [] [] (.bool true) [] := callN_sound mix tab_ok _ known_run
theorem known_H (H : Heap) : T Try.prog 12 [] H (.bool true) H := known_T.frame rfl H
end Go.Proofs.Ytdmnacjpgaopfaa.Vm
namespace Go.Proofs.Ytdmnacjpgaopfaa.Vm
open Go

/-- What an operation on numbers answers. -/
def intW (op : BinOp) (k : IntKind) (a b : Int) (K : V → Prop) : Prop := match op with
  | .add => ∃ z, z = k.wrap (a + b) ∧ K (.int k z)
  | .sub => ∃ z, z = k.wrap (a - b) ∧ K (.int k z)
  | .mul => ∃ z, z = k.wrap (a * b) ∧ K (.int k z)
  | .quo => b ≠ 0 ∧ ∃ z, z = k.wrap (a.tdiv b) ∧ K (.int k z)
  | .rem => b ≠ 0 ∧ ∃ z, z = k.wrap (a.tmod b) ∧ z = a.tmod b ∧ K (.int k z)
  | .eql => K (.bool (a == b))
  | .neq => K (.bool (a != b))
  | .lss => K (.bool (a < b))
  | .leq => K (.bool (a ≤ b))
  | .gtr => K (.bool (a > b))
  | .geq => K (.bool (a ≥ b))
  | _ => False
theorem intW_sound {op : BinOp} {k : IntKind} {a b : Int} {K : V → Prop} (h : intW op k a b K) : ∃ v, binInt op k a b = some v ∧ K v := by
  unfold intW at h
  split at h
  · obtain ⟨z, rfl, h⟩ := h; exact ⟨_, rfl, h⟩
  · obtain ⟨z, rfl, h⟩ := h; exact ⟨_, rfl, h⟩
  · obtain ⟨z, rfl, h⟩ := h; exact ⟨_, rfl, h⟩
  · obtain ⟨h0, z, rfl, h⟩ := h; exact ⟨_, by unfold binInt; simp [h0], h⟩
  · obtain ⟨h0, z, _, rfl, h⟩ := h; exact ⟨_, by unfold binInt; simp [h0], h⟩
  · exact ⟨_, rfl, h⟩
  · exact ⟨_, rfl, h⟩
  · exact ⟨_, rfl, h⟩
  · exact ⟨_, rfl, h⟩
  · exact ⟨_, rfl, h⟩
  · exact ⟨_, rfl, h⟩
  · exact h.elim

def cellsW (H : Heap) (id ver off n : Nat) (K : List V → List V → Prop) : Prop := ∃ cs, getCells H id ver = some cs ∧ off + n ≤ cs.length ∧ K cs ((cs.drop off).take n)
theorem cellsW_sound {H : Heap} {id ver off n : Nat} {K : List V → List V → Prop} (h : cellsW H id ver off n K) : ∃ cs l, getCells H id ver = some cs ∧ cut cs off n = some l ∧ off + n ≤ cs.length ∧ K cs l := by
  obtain ⟨cs, h1, h2, h3⟩ := h
  exact ⟨cs, _, h1, by simp [cut, h2], h2, h3⟩

def mkW : Bool → List V → (V → Prop) → Prop
  | true, l, K => K (.agg l)
  | false, l, K => ∃ v, l = [v] ∧ K v
theorem mkW_sound {b : Bool} {l : List V} {K : V → Prop} (h : mkW b l K) : ∃ v, mk b l = some v ∧ K v := by
  cases b with
  | true => exact ⟨_, rfl, h⟩
  | false => obtain ⟨v, rfl, h⟩ := h; exact ⟨v, rfl, h⟩

def boundsW (lo hi : Bool) (n : Nat) (bs : List V) (K : Nat → Nat → Prop) : Prop := match lo, hi, bs with
  | false, false, [] => K 0 n
  | true, false, [.int _ x] => 0 ≤ x ∧ x ≤ n ∧ K x.toNat n
  | false, true, [.int _ x] => 0 ≤ x ∧ x ≤ n ∧ K 0 x.toNat
  | true, true, [.int _ l, .int _ h] => 0 ≤ l ∧ l ≤ h ∧ h ≤ n ∧ K l.toNat h.toNat
  | _, _, _ => False
theorem boundsW_sound {lo hi : Bool} {n : Nat} {bs : List V} {K : Nat → Nat → Prop} (h : boundsW lo hi n bs K) : ∃ p, bounds lo hi n bs = some p ∧ K p.1 p.2 := by
  unfold boundsW at h
  split at h
  · exact ⟨(0, n), rfl, h⟩
  · obtain ⟨h1, h2, h⟩ := h; exact ⟨_, by simp [bounds, h1, h2]; rfl, h⟩
  · obtain ⟨h1, h2, h⟩ := h; exact ⟨_, by simp [bounds, h1, h2]; rfl, h⟩
  · obtain ⟨h1, h2, h3, h⟩ := h; exact ⟨_, by simp [bounds, h1, h2, h3]; rfl, h⟩
  · exact h.elim

/-- Each act: what must hold, so that K holds of its answer. -/
def actW (a : Act) (vs : List V) (H : Heap) (K : V → Heap → Prop) : Prop := match a, vs with
  | .mv, [v] => K v H
  | .pick, [.bool c, x, y] => (c = true → K x H) ∧ (c = false → K y H)
  | .bin op, [.int j a, .int k b] => j = k ∧ intW op j a b fun v => K v H
  | .bin op, [.str a, .str b] => ∃ v, binStr op a b = some v ∧ K v H
  | .eqc ne agg ks, [x, y] => ∃ b, eqV ks agg x y = some b ∧ K (.bool (b != ne)) H
  | .isNil ne, [x, y] => ∃ b, nilOf x y = some b ∧ K (.bool (b != ne)) H
  | .not, [.bool b] => K (.bool !b) H
  | .neg, [.int k n] => ∃ z, z = k.wrap (0 - n) ∧ K (.int k z) H
  | .conv k, [.int _ n] => ∃ z, z = k.wrap n ∧ K (.int k z) H
  | .same, [.str s] => K (.str s) H
  | .alloc zs, [] => K (.ptr H.length 0 0) (H ++ [.cells 0 zs])
  | .load n agg, [.ptr id ver off] => cellsW H id ver off n fun _ l => mkW agg (l.map strip0) fun v => K v H
  | .load n agg, [.cptr cs] => n ≤ cs.length ∧ mkW agg (cs.take n) fun v => K v H
  | .loadT n agg, [.ptr id ver off] => cellsW H id ver off n fun cs l => mkW agg l fun v => K v (H.set id (.cells ver (put cs off (l.map strip0))))
  | .nilCheck, [.ptr id ver off] => K (.ptr id ver off) H
  | .nilCheck, [.cptr cs] => K (.cptr cs) H
  | .nilCheck, [.fn f cs] => K (.fn f cs) H
  | .fieldAddr off, [.ptr id ver o] => K (.ptr id ver (o + off)) H
  | .fieldAddr off, [.cptr cs] => K (.cptr (cs.drop off)) H
  | .field off n agg, [.agg cs] => off + n ≤ cs.length ∧ mkW agg ((cs.drop off).take n) fun v => K v H
  | .indexAddr sz, [.sl _ z xs, .int _ i] => z = sz ∧ 0 ≤ i ∧ ∃ x, xs[i.toNat]? = some x ∧ K (.cptr x) H
  | .indexAddr sz, [.hsl id ver off ln z, .int _ i] => z = sz ∧ 0 ≤ i ∧ i < ln ∧ K (.ptr id ver (off + i.toNat * sz)) H
  | .indexStr, [.str s, .int _ i] => 0 ≤ i ∧ ∃ b, s[i.toNat]? = some b ∧ K (.int .u8 b.toNat) H
  | .slice lo hi sz, .sl _ z xs :: bs => z = sz ∧ boundsW lo hi xs.length bs fun l h => K (.sl false z ((xs.take h).drop l)) H
  | .append sz bytes, [.sl true z xs, .sl _ z' ys] => z = sz ∧ z' = sz ∧ fits (xs.length + ys.length) bytes ∧ K (.sl true z (xs ++ ys)) H
  | .len, [.sl _ _ xs] => K (.int .i64 xs.length) H
  | .len, [.nilh _] => K (.int .i64 0) H
  | .len, [.hsl _ _ _ ln _] => K (.int .i64 ln) H
  | .lenStr, [.str s] => K (.int .i64 s.length) H
  | .extract i, [.tup vs] => ∃ v, vs[i]? = some v ∧ K v H
  | .min, [.int j a, .int k b] => j = k ∧ K (.int j (if b < a then b else a)) H
  | .max, [.int j a, .int k b] => j = k ∧ K (.int j (if b > a then b else a)) H
  | .mkfn f, vs => K (.fn f vs) H
  | a, vs => ∃ r H', a.sem vs H = some (r, H') ∧ K r H'

theorem actW_sound {a : Act} {vs : List V} {H : Heap} {K : V → Heap → Prop} (h : actW a vs H K) : ∃ r H', a.sem vs H = some (r, H') ∧ K r H' := by
  unfold actW at h
  split at h
  · exact ⟨_, _, rfl, h⟩
  · rename_i c x y
    cases c with
    | true => exact ⟨_, _, rfl, h.1 rfl⟩
    | false => exact ⟨_, _, rfl, h.2 rfl⟩
  · obtain ⟨rfl, h⟩ := h; obtain ⟨v, h1, h2⟩ := intW_sound h; exact ⟨v, H, by simp [Act.sem, sBin, h1], h2⟩
  · obtain ⟨v, h1, h2⟩ := h; exact ⟨v, H, by simp [Act.sem, sBin, h1], h2⟩
  · obtain ⟨v, h1, h2⟩ := h; exact ⟨_, H, by simp [Act.sem, sEqc, h1], h2⟩
  · obtain ⟨v, h1, h2⟩ := h; exact ⟨_, H, by simp [Act.sem, sIsNil, h1], h2⟩
  · exact ⟨_, _, rfl, h⟩
  · obtain ⟨z, rfl, h⟩ := h; exact ⟨_, _, rfl, h⟩
  · obtain ⟨z, rfl, h⟩ := h; exact ⟨_, _, rfl, h⟩
  · exact ⟨_, _, rfl, h⟩
  · exact ⟨_, _, rfl, h⟩
  · obtain ⟨cs, l, h1, h2, _, h⟩ := cellsW_sound h
    obtain ⟨v, h3, h⟩ := mkW_sound h
    exact ⟨v, H, by simp [Act.sem, sLoad, h1, h2, h3], h⟩
  · obtain ⟨h1, h⟩ := h
    obtain ⟨v, h3, h⟩ := mkW_sound h
    exact ⟨v, H, by simp [Act.sem, sLoad, cut, h1, h3], h⟩
  · obtain ⟨cs, l, h1, h2, _, h⟩ := cellsW_sound h
    obtain ⟨v, h3, h⟩ := mkW_sound h
    exact ⟨v, _, by simp [Act.sem, sLoadT, h1, h2, h3], h⟩
  · exact ⟨_, _, rfl, h⟩
  · exact ⟨_, _, rfl, h⟩
  · exact ⟨_, _, rfl, h⟩
  · exact ⟨_, _, rfl, h⟩
  · exact ⟨_, _, rfl, h⟩
  · obtain ⟨h1, h⟩ := h
    obtain ⟨v, h3, h⟩ := mkW_sound h
    exact ⟨v, H, by simp [Act.sem, sField, cut, h1, h3], h⟩
  · obtain ⟨rfl, h1, x, h2, h⟩ := h; exact ⟨_, H, by simp [Act.sem, sIndexAddr, h1, h2], h⟩
  · obtain ⟨rfl, h1, h2, h⟩ := h; exact ⟨_, H, by simp [Act.sem, sIndexAddr, h1, h2], h⟩
  · obtain ⟨h1, b, h2, h⟩ := h; exact ⟨_, H, by simp [Act.sem, sIndexStr, h1, h2], h⟩
  · obtain ⟨rfl, h⟩ := h
    obtain ⟨p, h1, h⟩ := boundsW_sound h
    exact ⟨_, H, by simp [Act.sem, sSlice, h1], h⟩
  · obtain ⟨rfl, rfl, h1, h⟩ := h; exact ⟨_, H, by simp [Act.sem, sAppend, h1], h⟩
  · exact ⟨_, _, rfl, h⟩
  · exact ⟨_, _, rfl, h⟩
  · exact ⟨_, _, rfl, h⟩
  · exact ⟨_, _, rfl, h⟩
  · obtain ⟨v, h1, h⟩ := h; exact ⟨v, H, by simp [Act.sem, sExtract, h1], h⟩
  · obtain ⟨rfl, h⟩ := h; exact ⟨_, H, by simp [Act.sem, sMin], h⟩
  · obtain ⟨rfl, h⟩ := h; exact ⟨_, H, by simp [Act.sem, sMax], h⟩
  · exact ⟨_, _, rfl, h⟩
  · exact h

/-- An environment that is a list. -/
def LE (l : List (Nat × V)) : En := ⟨l, .u⟩
def wantedW (g : Option (Nat × Bool)) (E : En) (K : Bool → Prop) : Prop := match g with
  | none => K true
  | some (g, b) => match getE E.l E.d g with
    | .bool c => (c = b → K true) ∧ (c ≠ b → K false)
    | .tup _ => K false
    | _ => False

def argsW (E : En) (tk : List Nat) : List Opnd → List V
  | [] => []
  | .c v :: l => v :: argsW E tk l
  | .t i :: l => (if tk.contains i then getE E.l E.d i else strip (getE E.l E.d i)) :: argsW E tk l
theorem argsW_eq (E : En) (tk : List Nat) : ∀ l, argsW E tk l = l.map (evalA E.f tk)
  | [] => rfl
  | .c v :: l => by rw [argsW, argsW_eq E tk l]; rfl
  | .t i :: l => by rw [argsW, argsW_eq E tk l]; simp [evalA, En.f]

def callW (P : Program) (m : CM) (f : Nat) (args : List V) (H : Heap) (K : V → Heap → Prop) : Prop := match m with
  | .wr => ∃ r H', T P f args H r H' ∧ K r H'
  | .rd => ∃ r, T P f args H r H ∧ K r H
  | .al => ∃ r, T P f args [] r [] ∧ idsL 0 args = true ∧ K r H
  | .gr => ∃ r L, T P f args H r (H ++ L) ∧ K r (H ++ L)
def stepW (P : Program) (o : VOp) (E : En) (H : Heap) (K : En → Heap → Prop) : Prop :=
  wantedW o.guard E fun y => match y with
    | false => K (E.setO o.dst (.tup [])) H
    | true => match o.act with
      | .call b => (match argsW E o.take o.args with
        | .fn f caps :: rest => callW P b f (rest ++ caps) H fun r H' => K ((stripEn o.take E).setO o.dst r) H'
        | _ => False)
      | a => actW a (argsW E o.take o.args) H fun r H' => K ((stripEn o.take E).setO o.dst r) H'
def opsW (P : Program) : List VOp → En → Heap → (En → Heap → Prop) → Prop
  | [], E, H, K => K E H
  | o :: os, E, H, K => stepW P o E H fun E' H' => opsW P os E' H' K

theorem wantedW_sound {o : VOp} {E : En} {K : Bool → Prop} (h : wantedW o.guard E K) : ∃ y, o.wanted E.f = some y ∧ K y := by
  unfold wantedW at h
  unfold VOp.wanted
  split at h
  · rename_i hg; rw [hg]; exact ⟨_, rfl, h⟩
  · rename_i g b hg
    rw [hg]
    simp only [En.f]
    split at h
    · rename_i c hc
      rw [hc]
      simp only
      by_cases hcb : c = b
      · exact ⟨true, by simp [hcb], h.1 hcb⟩
      · exact ⟨false, by simp [hcb], h.2 hcb⟩
    · rename_i hc; rw [hc]; exact ⟨_, rfl, h⟩
    · exact h.elim

theorem stepW_sound {P : Program} {o : VOp} {E : En} {H : Heap} {K : En → Heap → Prop} (h : stepW P o E H K) : ∃ E' H', VStep P o E.f H E'.f H' ∧ K E' H' := by
  obtain ⟨y, hw, h⟩ := wantedW_sound h
  cases y with
  | false => exact ⟨_, _, ⟨none, .skip hw, by rw [En.setO_f]; rfl⟩, h⟩
  | true =>
    simp only at h
    split at h
    · rename_i b ha
      split at h
      · rename_i f caps rest hv
        rw [argsW_eq] at hv
        cases b with
        | wr =>
          obtain ⟨r, H', ht, hk⟩ := h
          exact ⟨_, _, ⟨some r, .call .wr f caps rest hw ha hv ht (fun e => by rcases e with e | e <;> cases e) (fun e => by cases e) (fun e => nomatch e), by rw [En.setO_f, stripEn_f]; rfl⟩, hk⟩
        | rd =>
          obtain ⟨r, ht, hk⟩ := h
          exact ⟨_, _, ⟨some r, .call .rd f caps rest hw ha hv ht (fun _ => rfl) (fun e => by cases e) (fun e => nomatch e), by rw [En.setO_f, stripEn_f]; rfl⟩, hk⟩
        | al =>
          obtain ⟨r, ht, hi, hk⟩ := h
          exact ⟨_, _, ⟨some r, .call .al f caps rest hw ha hv (ht.frame hi _) (fun _ => rfl) (fun _ => ⟨ht, hi⟩) (fun e => nomatch e), by rw [En.setO_f, stripEn_f]; rfl⟩, hk⟩
        | gr =>
          obtain ⟨r, L, ht, hk⟩ := h
          exact ⟨_, _, ⟨some r, .call .gr f caps rest hw ha hv ht (fun e => by rcases e with e | e <;> cases e) (fun e => by cases e) (fun _ => ⟨L, rfl⟩), by rw [En.setO_f, stripEn_f]; rfl⟩, hk⟩
      · exact h.elim
    · obtain ⟨r, H', hs, h⟩ := actW_sound h
      rw [argsW_eq] at hs
      exact ⟨_, _, ⟨some r, .act hw hs, by rw [En.setO_f, stripEn_f]; rfl⟩, h⟩

theorem opsW_sound {P : Program} : ∀ {os : List VOp} {E : En} {H : Heap} {K : En → Heap → Prop}, opsW P os E H K → ∃ E' H', VRun P os E.f H E'.f H' ∧ K E' H'
  | [], E, H, _, h => ⟨E, H, .nil, h⟩
  | o :: os, E, H, K, h => by
    obtain ⟨E1, H1, h1, h2⟩ := stepW_sound h
    obtain ⟨E2, H2, h3, h4⟩ := opsW_sound h2
    exact ⟨E2, H2, .cons h1 h3, h4⟩

/-- The code runs, and K holds of where it ends. -/
def WP (P : Program) (vc : VCode) (E : En) (H : Heap) (K : X → En → Heap → Prop) : Prop := ∃ x E' H', VExec P vc E.f H x E'.f H' ∧ K x E' H'

def keepS (E : En) (ks : List Nat) : En := LE (ks.map fun i => (i, getE E.l E.d i))
theorem keepS_f (E : En) (ks : List Nat) : (keepS E ks).f = keepE ks E.f := by
  rw [← En.keep_f]
  funext j
  show getE _ _ j = getE _ _ j
  congr 1
  show ks.map _ = keepL E.l E.d ks
  induction ks with
  | nil => rfl
  | cons k ks ih => rw [List.map_cons, ih, keepL, forceV_eq]

section
variable {P : Program} {E : En} {H : Heap} {K : X → En → Heap → Prop}

theorem WP.region {ops : List VOp} {keep : List Nat} (h : opsW P ops E H fun E' H' => K .normal (keepS E' keep) H') : WP P (.region ops keep) E H K := by
  obtain ⟨E1, H1, h1, h2⟩ := opsW_sound h
  exact ⟨_, _, _, by rw [keepS_f]; exact .region h1, h2⟩
theorem WP.seq {a b : VCode} (h : WP P a E H fun x E' H' => match x with | .normal => WP P b E' H' K | x => K x E' H') : WP P (.seq a b) E H K := by
  obtain ⟨x, E1, H1, h1, h2⟩ := h
  cases x with
  | normal => obtain ⟨x, E2, H2, h3, h4⟩ := h2; exact ⟨x, E2, H2, .seq h1 h3, h4⟩
  | exit id => exact ⟨_, _, _, .seqX h1 (by simp), h2⟩
  | ret => exact ⟨_, _, _, .seqX h1 (by simp), h2⟩
theorem WP.cond {c : Opnd} {a b : VCode} (y : Bool) (hc : evalA E.f [] c = .bool y) (h1 : y = true → WP P a E H K) (h2 : y = false → WP P b E H K) : WP P (.cond c a b) E H K := by
  cases y with
  | true => obtain ⟨x, E1, H1, k1, k2⟩ := h1 rfl; exact ⟨x, E1, H1, .cond (y := true) hc k1, k2⟩
  | false => obtain ⟨x, E1, H1, k1, k2⟩ := h2 rfl; exact ⟨x, E1, H1, .cond (y := false) hc k1, k2⟩
theorem WP.skip (h : K .normal E H) : WP P .skip E H K := ⟨_, _, _, .skip, h⟩
theorem WP.label (h : K .normal E H) : WP P .label E H K := ⟨_, _, _, .label, h⟩
theorem WP.exit {id : Nat} (h : K (.exit id) E H) : WP P (.exit id) E H K := ⟨_, _, _, .exit id, h⟩
theorem WP.ret (h : K .ret E H) : WP P .ret E H K := ⟨_, _, _, .ret, h⟩
theorem WP.scope {a : VCode} (h : WP P a E H K) : WP P (.scope a) E H K := by
  obtain ⟨x, E1, H1, h1, h2⟩ := h; exact ⟨_, _, _, .scope h1, h2⟩
theorem WP.block {id : Nat} {a : VCode} (h : WP P a E H fun x E' H' => K (unblock id x) E' H') : WP P (.block id a) E H K := by
  obtain ⟨x, E1, H1, h1, h2⟩ := h; exact ⟨_, _, _, .block h1, h2⟩
/-- A loop: what holds at each round's start, and a number that falls. -/
theorem WP.loop {a : VCode} (I : Nat → En → Heap → Prop) (step : ∀ n E H, I n E H → WP P a E H fun x E' H' => match x with | .normal => ∃ m, m < n ∧ I m E' H' | x => K x E' H') {n : Nat} (h : I n E H) : WP P (.loop a) E H K := by
  induction n using Nat.strongRecOn generalizing E H with
  | ind n ih =>
    obtain ⟨x, E1, H1, h1, h2⟩ := step n E H h
    cases x with
    | normal =>
      obtain ⟨m, hm, hI⟩ := h2
      obtain ⟨x, E2, H2, h3, h4⟩ := ih m hm hI
      exact ⟨x, E2, H2, .loop h1 h3, h4⟩
    | exit id => exact ⟨_, _, _, .loopX h1 (by simp), h2⟩
    | ret => exact ⟨_, _, _, .loopX h1 (by simp), h2⟩
theorem WP.mono {vc : VCode} {K' : X → En → Heap → Prop} (h : WP P vc E H K) (hk : ∀ x E' H', K x E' H' → K' x E' H') : WP P vc E H K' := by
  obtain ⟨x, E1, H1, h1, h2⟩ := h; exact ⟨x, E1, H1, h1, hk _ _ _ h2⟩

/-- A function that leaves the heap as it was, and all that it made behind. -/
theorem T.of_wp (hmix : P.follows .mixedOrders = true) {f : Nat} {vf : VFunc} (hc : chkFn P f vf = true) {args : List V} (hl : args.length ≤ vf.n) {r : V}
    (h : WP P vf.body ⟨args.zipIdx.map fun p => (p.2, p.1), .tup []⟩ H fun x E' H' => (∀ id, x ≠ .exit id) ∧ H.length ≤ H'.length ∧ (∀ (i : Nat) (ob : Obj), i < H.length → H'[i]? = some ob → H[i]? = some ob) ∧ ∃ r0, resV H.length H' E'.f vf.results = some r0 ∧ fixV H.length H' 8 r0 = some r) : T P f args H r H := by
  obtain ⟨x, E1, H1, h1, h2, h3, h4, r0, h5, h6⟩ := h
  rw [env0_eq] at h1
  have := T_of hmix hc hl h1 h2 (m := H.length) (Nat.le_refl _) h3 h5 h6 (fun i ob hi hob => .inl (h4 i ob hi hob))
  have htake : H1.take H.length = H := by
    apply List.ext_getElem?
    intro i
    by_cases hi : i < H.length
    · rw [take_get hi]
      have hlt : i < H1.length := by omega
      rw [List.getElem?_eq_getElem hlt]
      exact (h4 i _ hi (List.getElem?_eq_getElem hlt)).symm
    · rw [List.getElem?_eq_none (by simp; omega), List.getElem?_eq_none (by omega)]
  rwa [htake] at this
/-- The same where nothing is made. -/
theorem T.of_pure (hmix : P.follows .mixedOrders = true) {f : Nat} {vf : VFunc} (hc : chkFn P f vf = true) {args : List V} (hl : args.length ≤ vf.n) {r : V}
    (h : WP P vf.body ⟨args.zipIdx.map fun p => (p.2, p.1), .tup []⟩ H fun x E' H' => (∀ id, x ≠ .exit id) ∧ H' = H ∧ ∃ r0, resV H.length H E'.f vf.results = some r0 ∧ fixV H.length H 8 r0 = some r) : T P f args H r H := by
  refine T.of_wp hmix hc hl (h.mono ?_)
  rintro x E' H' ⟨h1, rfl, r0, h2, h3⟩
  exact ⟨h1, Nat.le_refl _, fun _ _ _ h => h, r0, h2, h3⟩
end
end Go.Proofs.Ytdmnacjpgaopfaa.Vm
namespace Go.Proofs.Ytdmnacjpgaopfaa.Vm
open Go

@[go_sem] theorem getE_cons (j : Nat) (v : V) (l : List (Nat × V)) (d : V) (i : Nat) : getE ((j, v) :: l) d i = if j = i then v else getE l d i := by
  simp only [getE]
  by_cases h : j = i
  · subst h; simp
  · have h1 : Nat.beq j i = false := by cases hb : Nat.beq j i with
      | false => rfl
      | true => exact absurd (Nat.eq_of_beq_eq_true hb) h
    simp [h1, h]
@[go_sem] theorem getE_nil (d : V) (i : Nat) : getE [] d i = d := rfl

def condW (v : V) (A B : Prop) : Prop := match v with
  | .bool y => (y = true → A) ∧ (y = false → B)
  | _ => False
def valA (E : En) : Opnd → V
  | .t i => getE E.l E.d i
  | .c v => v
def guardW (v : V) (b : Bool) (A B : Prop) : Prop := match v with
  | .bool c => (c = b → A) ∧ (c ≠ b → B)
  | .tup _ => B
  | _ => False

abbrev KK := X → En → Heap → Prop
def seqW (K : KK) (N : En → Heap → Prop) : KK
  | .normal, E, H => N E H
  | .exit id, E, H => K (.exit id) E H
  | .ret, E, H => K .ret E H

/-- What must hold ahead of code; a loop is left as it is. -/
def wp (P : Program) : VCode → En → Heap → KK → Prop
  | .skip, E, H, K => K .normal E H
  | .label, E, H, K => K .normal E H
  | .exit id, E, H, K => K (.exit id) E H
  | .ret, E, H, K => K .ret E H
  | .region ops keep, E, H, K => opsW P ops E H fun E' H' => K .normal (keepS E' keep) H'
  | .seq a b, E, H, K => wp P a E H (seqW K fun E' H' => wp P b E' H' K)
  | .cond c a b, E, H, K => condW (valA E c) (wp P a E H K) (wp P b E H K)
  | .block id a, E, H, K => wp P a E H fun x E' H' => K (unblock id x) E' H'
  | .loop a, E, H, K => WP P (.loop a) E H K
  | .scope a, E, H, K => wp P a E H K

theorem condW_sound {P : Program} {a b : VCode} {E : En} {H : Heap} {K : KK} {c : Opnd} (h : condW (valA E c) (WP P a E H K) (WP P b E H K)) : WP P (.cond c a b) E H K := by
  unfold condW at h
  split at h
  · rename_i y hy
    refine .cond y ?_ h.1 h.2
    cases c with
    | c v => exact hy
    | t i => simp only [valA] at hy; simp [evalA, En.f, hy, strip, strip0]
  · exact h.elim
theorem condW_mono {v : V} {A B A' B' : Prop} (h : condW v A B) (ha : A → A') (hb : B → B') : condW v A' B' := by
  unfold condW at h ⊢
  split at h
  · exact ⟨fun e => ha (h.1 e), fun e => hb (h.2 e)⟩
  · exact h.elim

theorem wp_sound {P : Program} : ∀ {vc : VCode} {E : En} {H : Heap} {K : KK}, wp P vc E H K → WP P vc E H K
  | .skip, _, _, _, h => .skip h
  | .label, _, _, _, h => .label h
  | .exit _, _, _, _, h => .exit h
  | .ret, _, _, _, h => .ret h
  | .region _ _, _, _, _, h => .region h
  | .seq a b, E, H, K, h => by
    have h' : wp P a E H (seqW K fun E' H' => wp P b E' H' K) := h
    refine .seq ((wp_sound h').mono ?_)
    intro x E' H' k
    cases x with
    | normal => exact wp_sound k
    | exit id => exact k
    | ret => exact k
  | .cond c a b, E, H, K, h => condW_sound (condW_mono (show condW (valA E c) (wp P a E H K) (wp P b E H K) from h) (fun h => wp_sound h) (fun h => wp_sound h))
  | .block id a, E, H, K, h => by
    have h' : wp P a E H (fun x E' H' => K (unblock id x) E' H') := h
    exact .block (wp_sound h')
  | .loop a, _, _, _, h => h
  | .scope a, E, H, K, h => by
    have h' : wp P a E H K := h
    exact .scope (wp_sound h')

/-- What comes behind. -/
inductive Fr where
  | code (c : VCode)
  | blk (id : Nat)
def goes (P : Program) (K : KK) : List Fr → KK
  | [], x, E, H => K x E H
  | .code c :: s, .normal, E, H => wp P c E H (goes P K s)
  | .code _ :: s, .exit id, E, H => goes P K s (.exit id) E H
  | .code _ :: s, .ret, E, H => goes P K s .ret E H
  | .blk id :: s, x, E, H => goes P K s (unblock id x) E H
def run (P : Program) (c : VCode) (s : List Fr) (E : En) (H : Heap) (K : KK) : Prop := wp P c E H (goes P K s)
def runOps (P : Program) (os : List VOp) (keep : List Nat) (s : List Fr) (E : En) (H : Heap) (K : KK) : Prop := opsW P os E H fun E' H' => goes P K s .normal (keepS E' keep) H'
/-- One operation. -/
def runAct (P : Program) (a : Act) (vs : List V) (tk : List Nat) (dst : Option Nat) (os : List VOp) (keep : List Nat) (s : List Fr) (E : En) (H : Heap) (K : KK) : Prop := match a with
  | .call b => (match vs with
    | .fn f caps :: rest => callW P b f (rest ++ caps) H fun r H' => runOps P os keep s ((stripEn tk E).setO dst r) H' K
    | _ => False)
  | a => actW a vs H fun r H' => runOps P os keep s ((stripEn tk E).setO dst r) H' K
def runInt (P : Program) (op : BinOp) (k : IntKind) (a b : Int) (tk : List Nat) (dst : Option Nat) (os : List VOp) (keep : List Nat) (s : List Fr) (E : En) (H : Heap) (K : KK) : Prop :=
  intW op k a b fun v => runOps P os keep s ((stripEn tk E).setO dst v) H K

section
variable {P : Program} {K : KK} {s : List Fr} {E : En} {H : Heap} {tk : List Nat} {dst : Option Nat} {os : List VOp} {keep : List Nat}

theorem wp_run {c : VCode} : wp P c E H K = run P c [] E H K := rfl
@[go_sem] theorem goes_nil {x : X} : goes P K [] x E H = K x E H := (rfl)
@[go_sem] theorem goes_code {c : VCode} : goes P K (.code c :: s) .normal E H = run P c s E H K := (rfl)
@[go_sem] theorem goes_exit {c : VCode} {id : Nat} : goes P K (.code c :: s) (.exit id) E H = goes P K s (.exit id) E H := (rfl)
@[go_sem] theorem goes_ret {c : VCode} : goes P K (.code c :: s) .ret E H = goes P K s .ret E H := (rfl)
@[go_sem] theorem goes_blk {id : Nat} {x : X} : goes P K (.blk id :: s) x E H = goes P K s (unblock id x) E H := (rfl)
@[go_sem] theorem unblock_exit {id id' : Nat} : unblock id (.exit id') = if id' = id then .normal else .exit id' := rfl
@[go_sem] theorem unblock_ret {id : Nat} : unblock id .ret = .ret := rfl
@[go_sem] theorem unblock_normal {id : Nat} : unblock id .normal = .normal := rfl
@[go_sem] theorem run_skip : run P .skip s E H K = goes P K s .normal E H := (rfl)
@[go_sem] theorem run_label : run P .label s E H K = goes P K s .normal E H := (rfl)
@[go_sem] theorem run_exit {id : Nat} : run P (.exit id) s E H K = goes P K s (.exit id) E H := (rfl)
@[go_sem] theorem run_ret : run P .ret s E H K = goes P K s .ret E H := (rfl)
@[go_sem] theorem run_region {ops : List VOp} : run P (.region ops keep) s E H K = runOps P ops keep s E H K := (rfl)
@[go_sem] theorem run_seq {a b : VCode} : run P (.seq a b) s E H K = run P a (.code b :: s) E H K := by
  show wp P a E H _ = wp P a E H _
  congr 1
  funext x E H
  cases x <;> rfl
def condD (P : Program) (v : V) (a b : VCode) (s : List Fr) (E : En) (H : Heap) (K : KK) : Prop := condW v (run P a s E H K) (run P b s E H K)
@[go_sem] theorem run_cond {c : Opnd} {a b : VCode} : run P (.cond c a b) s E H K = condD P (valA E c) a b s E H K := (rfl)
@[go_sem] theorem run_block {id : Nat} {a : VCode} : run P (.block id a) s E H K = run P a (.blk id :: s) E H K := (rfl)
@[go_sem] theorem run_scope {a : VCode} : run P (.scope a) s E H K = run P a s E H K := (rfl)
@[go_sem] theorem run_loop {a : VCode} : run P (.loop a) s E H K = WP P (.loop a) E H (goes P K s) := (rfl)
@[go_sem] theorem valA_t {l : List (Nat × V)} {d : V} {i : Nat} : valA ⟨l, d⟩ (.t i) = getE l d i := rfl
@[go_sem] theorem valA_c {v : V} : valA E (.c v) = v := rfl
theorem iteP {c : Prop} [Decidable c] {A B : Prop} : (if c then A else B) = ((c → A) ∧ (¬c → B)) := by
  by_cases h : c <;> simp [h]
@[go_sem] theorem condD_bool {y : Bool} {a b : VCode} : condD P (.bool y) a b s E H K = if y = true then run P a s E H K else run P b s E H K := by
  unfold condD condW
  rw [iteP]
  cases y <;> simp

@[go_sem] theorem ops_nil {l : List (Nat × V)} {d : V} : runOps P [] keep s ⟨l, d⟩ H K = goes P K s .normal (keepS ⟨l, d⟩ keep) H := (rfl)
@[go_sem] theorem keepS_eq {l : List (Nat × V)} {d : V} {ks : List Nat} : keepS ⟨l, d⟩ ks = ⟨ks.map fun i => (i, getE l d i), .u⟩ := rfl
@[go_sem] theorem ops_cons {act : Act} {args : List Opnd} : runOps P (⟨dst, act, args, tk, none⟩ :: os) keep s E H K = runAct P act (argsW E tk args) tk dst os keep s E H K := by
  unfold runOps runAct; rw [opsW]; unfold stepW; simp only [wantedW]
  cases act <;> first | rfl | skip
theorem ops_guard0 {act : Act} {args : List Opnd} {g : Nat} {b : Bool} : runOps P (⟨dst, act, args, tk, some (g, b)⟩ :: os) keep s E H K =
    guardW (getE E.l E.d g) b (runAct P act (argsW E tk args) tk dst os keep s E H K) (runOps P os keep s (E.setO dst (.tup [])) H K) := by
  unfold runOps runAct; rw [opsW]; unfold stepW guardW; simp only [wantedW]
  cases getE E.l E.d g <;> cases act <;> first | rfl | skip
theorem args_congr {E2 : En} (h : E.f = E2.f) : ∀ l : List Opnd, argsW E tk l = argsW E2 tk l := by
  intro l; rw [argsW_eq, argsW_eq, h]
theorem set_congr {E2 : En} (h : E.f = E2.f) (o : Option Nat) (v : V) : (E.setO o v).f = (E2.setO o v).f := by rw [En.setO_f, En.setO_f, h]
theorem strip_congr {E2 : En} (h : E.f = E2.f) (tk : List Nat) : (stripEn tk E).f = (stripEn tk E2).f := by rw [stripEn_f, stripEn_f, h]
theorem opsW_congr {K1 K2 : En → Heap → Prop} (hk : ∀ (E1 E2 : En) H, E1.f = E2.f → K1 E1 H = K2 E2 H) : ∀ (os : List VOp) (E1 E2 : En) (H : Heap), E1.f = E2.f → opsW P os E1 H K1 = opsW P os E2 H K2
  | [], E1, E2, H, h => hk E1 E2 H h
  | o :: os, E1, E2, H, h => by
    have ih := opsW_congr hk os
    have hg : ∀ i, getE E1.l E1.d i = getE E2.l E2.d i := fun i => congrFun h i
    show stepW P o E1 H _ = stepW P o E2 H _
    have hf : opsW P os (E1.setO o.dst (.tup [])) H K1 = opsW P os (E2.setO o.dst (.tup [])) H K2 := ih _ _ _ (set_congr h _ _)
    have hr : ∀ (r : V) (H' : Heap), opsW P os ((stripEn o.take E1).setO o.dst r) H' K1 = opsW P os ((stripEn o.take E2).setO o.dst r) H' K2 := fun r H' => ih _ _ _ (set_congr (strip_congr h _) _ _)
    unfold stepW wantedW
    simp only [hg, args_congr h, hf, hr]
theorem runOps_congr {E2 : En} (h : E.f = E2.f) : runOps P os keep s E H K = runOps P os keep s E2 H K := by
  unfold runOps
  refine opsW_congr (fun E1 E2 H h => ?_) _ _ _ _ h
  have : keepS E1 keep = keepS E2 keep := by
    unfold keepS
    congr 1
    apply List.map_congr_left
    intro i _
    rw [show getE E1.l E1.d i = getE E2.l E2.d i from congrFun h i]
  rw [this]
theorem runAct_congr {a : Act} {vs : List V} {E2 : En} (h : E.f = E2.f) : runAct P a vs tk dst os keep s E H K = runAct P a vs tk dst os keep s E2 H K := by
  have hr : ∀ (r : V) (H' : Heap), runOps P os keep s ((stripEn tk E).setO dst r) H' K = runOps P os keep s ((stripEn tk E2).setO dst r) H' K := fun r H' => runOps_congr (set_congr (strip_congr h _) _ _)
  unfold runAct
  simp only [hr]
def guardE (v : V) (b : Bool) (A B C : Prop) : Prop := match v with
  | .bool c => (c = b → A) ∧ (c = (!b) → B)
  | .tup _ => C
  | _ => False
theorem ops_guard1 {l : List (Nat × V)} {d : V} {act : Act} {args : List Opnd} {g : Nat} {b : Bool} : runOps P (⟨dst, act, args, tk, some (g, b)⟩ :: os) keep s ⟨l, d⟩ H K =
    guardE (getE l d g) b (runAct P act (argsW ⟨(g, .bool b) :: l, d⟩ tk args) tk dst os keep s ⟨(g, .bool b) :: l, d⟩ H K)
      (runOps P os keep s (En.setO ⟨(g, .bool !b) :: l, d⟩ dst (.tup [])) H K) (runOps P os keep s (En.setO ⟨l, d⟩ dst (.tup [])) H K) := by
  rw [ops_guard0]
  unfold guardW guardE
  cases hg : getE l d g with
  | bool c =>
    have hext : ∀ c', c = c' → (⟨(g, .bool c') :: l, d⟩ : En).f = (⟨l, d⟩ : En).f := by
      rintro c' rfl
      funext i
      show getE ((g, V.bool c) :: l) d i = getE l d i
      rw [getE_cons]
      split
      · rename_i h; subst h; exact hg.symm
      · rfl
    simp only [hg]
    have e1 : (c = b → runAct P act (argsW ⟨l, d⟩ tk args) tk dst os keep s ⟨l, d⟩ H K) = (c = b → runAct P act (argsW ⟨(g, .bool b) :: l, d⟩ tk args) tk dst os keep s ⟨(g, .bool b) :: l, d⟩ H K) := by
      apply propext
      refine forall_congr' fun h => ?_
      rw [args_congr (hext b h), runAct_congr (hext b h)]
    have e2 : (c ≠ b → runOps P os keep s (En.setO ⟨l, d⟩ dst (.tup [])) H K) = (c = (!b) → runOps P os keep s (En.setO ⟨(g, .bool !b) :: l, d⟩ dst (.tup [])) H K) := by
      have : (c ≠ b) = (c = (!b)) := by cases c <;> cases b <;> simp
      rw [this]
      apply propext
      refine forall_congr' fun h => ?_
      rw [runOps_congr (set_congr (hext _ h) _ _)]
    rw [e1, e2]
  | _ => simp only [hg]
def guardD (P : Program) (v : V) (g : Nat) (b : Bool) (act : Act) (args : List Opnd) (tk : List Nat) (dst : Option Nat) (os : List VOp) (keep : List Nat) (s : List Fr) (l : List (Nat × V)) (d : V) (H : Heap) (K : KK) : Prop :=
  guardE v b (runAct P act (argsW ⟨(g, .bool b) :: l, d⟩ tk args) tk dst os keep s ⟨(g, .bool b) :: l, d⟩ H K)
      (runOps P os keep s (En.setO ⟨(g, .bool !b) :: l, d⟩ dst (.tup [])) H K) (runOps P os keep s (En.setO ⟨l, d⟩ dst (.tup [])) H K)
@[go_sem] theorem ops_guard {l : List (Nat × V)} {d : V} {act : Act} {args : List Opnd} {g : Nat} {b : Bool} : runOps P (⟨dst, act, args, tk, some (g, b)⟩ :: os) keep s ⟨l, d⟩ H K =
    guardD P (getE l d g) g b act args tk dst os keep s l d H K := ops_guard1
@[go_sem] theorem guardD_bool {c : Bool} {l : List (Nat × V)} {d : V} {act : Act} {args : List Opnd} {g : Nat} {b : Bool} : guardD P (.bool c) g b act args tk dst os keep s l d H K =
    if c = b then runAct P act (argsW ⟨(g, .bool b) :: l, d⟩ tk args) tk dst os keep s ⟨(g, .bool b) :: l, d⟩ H K else runOps P os keep s (En.setO ⟨(g, .bool !b) :: l, d⟩ dst (.tup [])) H K := by
  rw [iteP]
  unfold guardD guardE
  cases c <;> cases b <;> simp
@[go_sem] theorem guardD_tup {w : List V} {l : List (Nat × V)} {d : V} {act : Act} {args : List Opnd} {g : Nat} {b : Bool} : guardD P (.tup w) g b act args tk dst os keep s l d H K =
    runOps P os keep s (En.setO ⟨l, d⟩ dst (.tup [])) H K := (rfl)
@[go_sem] theorem args_nil : argsW E tk [] = [] := rfl
@[go_sem] theorem args_c {v : V} {l : List Opnd} : argsW E tk (.c v :: l) = v :: argsW E tk l := rfl
@[go_sem] theorem args_t {l : List (Nat × V)} {d : V} {i : Nat} {av : List Opnd} : argsW ⟨l, d⟩ tk (.t i :: av) = (if tk.contains i then getE l d i else strip (getE l d i)) :: argsW ⟨l, d⟩ tk av := rfl
@[go_sem] theorem set_some {l : List (Nat × V)} {d : V} {i : Nat} {v : V} : En.setO ⟨l, d⟩ (some i) v = ⟨(i, v) :: l, d⟩ := rfl
@[go_sem] theorem set_none {v : V} : En.setO E none v = E := rfl
@[go_sem] theorem stripEn_nil : stripEn [] E = E := rfl
@[go_sem] theorem stripEn_cons {l : List (Nat × V)} {d : V} {i : Nat} {is : List Nat} : stripEn (i :: is) ⟨l, d⟩ = stripEn is ⟨(i, strip (getE l d i)) :: l, d⟩ := rfl
@[go_sem] theorem strip_int {k : IntKind} {n : Int} : strip (.int k n) = .int k n := rfl
@[go_sem] theorem strip_bool {b : Bool} : strip (.bool b) = .bool b := rfl
@[go_sem] theorem strip_str {b : List UInt8} : strip (.str b) = .str b := rfl
@[go_sem] theorem strip_sl {o : Bool} {z : Nat} {xs : List (List V)} : strip (.sl o z xs) = .sl false z xs := rfl
@[go_sem] theorem strip_ptr {a b c : Nat} : strip (.ptr a b c) = .ptr a b c := rfl
@[go_sem] theorem strip_cptr {cs : List V} : strip (.cptr cs) = .cptr cs := rfl
@[go_sem] theorem strip_hsl {a b c d e : Nat} : strip (.hsl a b c d e) = .hsl a b c d e := rfl
@[go_sem] theorem strip_nilh {z : Nat} : strip (.nilh z) = .nilh z := rfl
@[go_sem] theorem strip_nilp : strip .nilp = .nilp := rfl
@[go_sem] theorem strip_u : strip .u = .u := rfl
@[go_sem] theorem strip_fr {z : Nat} {xs : List (List V)} : strip (.fr z xs) = .u := rfl
@[go_sem] theorem strip_fn {f : Nat} {cs : List V} : strip (.fn f cs) = .fn f cs := rfl
@[go_sem] theorem strip_agg {cs : List V} : strip (.agg cs) = .agg (cs.map strip0) := rfl
@[go_sem] theorem strip_tup {cs : List V} : strip (.tup cs) = .tup (cs.map stripA) := rfl
@[go_sem] theorem stripA_agg {cs : List V} : stripA (.agg cs) = .agg (cs.map strip0) := rfl
@[go_sem] theorem stripA_int {k : IntKind} {n : Int} : stripA (.int k n) = .int k n := rfl
@[go_sem] theorem stripA_bool {b : Bool} : stripA (.bool b) = .bool b := rfl
@[go_sem] theorem stripA_str {b : List UInt8} : stripA (.str b) = .str b := rfl
@[go_sem] theorem stripA_sl {o : Bool} {z : Nat} {xs : List (List V)} : stripA (.sl o z xs) = .sl false z xs := rfl
@[go_sem] theorem strip0_int {k : IntKind} {n : Int} : strip0 (.int k n) = .int k n := rfl
@[go_sem] theorem strip0_bool {b : Bool} : strip0 (.bool b) = .bool b := rfl
@[go_sem] theorem strip0_str {b : List UInt8} : strip0 (.str b) = .str b := rfl
@[go_sem] theorem strip0_sl {o : Bool} {z : Nat} {xs : List (List V)} : strip0 (.sl o z xs) = .sl false z xs := rfl
@[go_sem] theorem strip0_hsl {a b c d e : Nat} : strip0 (.hsl a b c d e) = .hsl a b c d e := rfl
@[go_sem] theorem strip0_ptr {a b c : Nat} : strip0 (.ptr a b c) = .ptr a b c := rfl
@[go_sem] theorem strip0_nilh {z : Nat} : strip0 (.nilh z) = .nilh z := rfl
@[go_sem] theorem strip0_nilp : strip0 .nilp = .nilp := rfl

@[go_sem] theorem run_call {f : Nat} {caps rest : List V} : runAct P (.call .wr) (.fn f caps :: rest) tk dst os keep s E H K =
    ∃ r H', T P f (rest ++ caps) H r H' ∧ runOps P os keep s ((stripEn tk E).setO dst r) H' K := (rfl)
@[go_sem] theorem run_callR {f : Nat} {caps rest : List V} : runAct P (.call .rd) (.fn f caps :: rest) tk dst os keep s E H K =
    ∃ r, T P f (rest ++ caps) H r H ∧ runOps P os keep s ((stripEn tk E).setO dst r) H K := (rfl)
@[go_sem] theorem run_callP {f : Nat} {caps rest : List V} : runAct P (.call .al) (.fn f caps :: rest) tk dst os keep s E H K =
    ∃ r, T P f (rest ++ caps) [] r [] ∧ idsL 0 (rest ++ caps) = true ∧ runOps P os keep s ((stripEn tk E).setO dst r) H K := (rfl)
@[go_sem] theorem run_callG {f : Nat} {caps rest : List V} : runAct P (.call .gr) (.fn f caps :: rest) tk dst os keep s E H K =
    ∃ r L, T P f (rest ++ caps) H r (H ++ L) ∧ runOps P os keep s ((stripEn tk E).setO dst r) (H ++ L) K := (rfl)
@[go_sem] theorem run_mv {v : V} : runAct P .mv [v] tk dst os keep s E H K = runOps P os keep s ((stripEn tk E).setO dst v) H K := (rfl)
@[go_sem] theorem run_pick {c : Bool} {x y : V} : runAct P .pick [.bool c, x, y] tk dst os keep s E H K = if c = true then runOps P os keep s ((stripEn tk E).setO dst x) H K else runOps P os keep s ((stripEn tk E).setO dst y) H K := by
  rw [iteP]
  show ((c = true → _) ∧ (c = false → _)) = _
  cases c <;> simp
@[go_sem] theorem run_bin {op : BinOp} {j k : IntKind} {a b : Int} : runAct P (.bin op) [.int j a, .int k b] tk dst os keep s E H K = (j = k ∧ runInt P op j a b tk dst os keep s E H K) := (rfl)
@[go_sem] theorem run_add {k : IntKind} {a b : Int} : runInt P .add k a b tk dst os keep s E H K = ∃ z, z = k.wrap (a + b) ∧ runOps P os keep s ((stripEn tk E).setO dst (.int k z)) H K := (rfl)
@[go_sem] theorem run_sub {k : IntKind} {a b : Int} : runInt P .sub k a b tk dst os keep s E H K = ∃ z, z = k.wrap (a - b) ∧ runOps P os keep s ((stripEn tk E).setO dst (.int k z)) H K := (rfl)
@[go_sem] theorem run_mul {k : IntKind} {a b : Int} : runInt P .mul k a b tk dst os keep s E H K = ∃ z, z = k.wrap (a * b) ∧ runOps P os keep s ((stripEn tk E).setO dst (.int k z)) H K := (rfl)
@[go_sem] theorem run_quo {k : IntKind} {a b : Int} : runInt P .quo k a b tk dst os keep s E H K = (b ≠ 0 ∧ ∃ z, z = k.wrap (a.tdiv b) ∧ runOps P os keep s ((stripEn tk E).setO dst (.int k z)) H K) := (rfl)
@[go_sem] theorem run_rem {k : IntKind} {a b : Int} : runInt P .rem k a b tk dst os keep s E H K = (b ≠ 0 ∧ ∃ z, z = k.wrap (a.tmod b) ∧ z = a.tmod b ∧ runOps P os keep s ((stripEn tk E).setO dst (.int k z)) H K) := (rfl)
@[go_sem] theorem run_eql {k : IntKind} {a b : Int} : runInt P .eql k a b tk dst os keep s E H K = runOps P os keep s ((stripEn tk E).setO dst (.bool (a == b))) H K := (rfl)
@[go_sem] theorem run_neq {k : IntKind} {a b : Int} : runInt P .neq k a b tk dst os keep s E H K = runOps P os keep s ((stripEn tk E).setO dst (.bool (a != b))) H K := (rfl)
@[go_sem] theorem run_lss {k : IntKind} {a b : Int} : runInt P .lss k a b tk dst os keep s E H K = runOps P os keep s ((stripEn tk E).setO dst (.bool (decide (a < b)))) H K := (rfl)
@[go_sem] theorem run_leq {k : IntKind} {a b : Int} : runInt P .leq k a b tk dst os keep s E H K = runOps P os keep s ((stripEn tk E).setO dst (.bool (decide (a ≤ b)))) H K := (rfl)
@[go_sem] theorem run_gtr {k : IntKind} {a b : Int} : runInt P .gtr k a b tk dst os keep s E H K = runOps P os keep s ((stripEn tk E).setO dst (.bool (decide (a > b)))) H K := (rfl)
@[go_sem] theorem run_geq {k : IntKind} {a b : Int} : runInt P .geq k a b tk dst os keep s E H K = runOps P os keep s ((stripEn tk E).setO dst (.bool (decide (a ≥ b)))) H K := (rfl)
@[go_sem] theorem run_not {b : Bool} : runAct P .not [.bool b] tk dst os keep s E H K = runOps P os keep s ((stripEn tk E).setO dst (.bool !b)) H K := (rfl)
@[go_sem] theorem run_eqb {ne agg : Bool} {ks : List K3} {x y : V} : runAct P (.eqc ne agg ks) [x, y] tk dst os keep s E H K = ∃ b, eqV ks agg x y = some b ∧ runOps P os keep s ((stripEn tk E).setO dst (.bool (b != ne))) H K := (rfl)
@[go_sem] theorem eqV_b {x y : Bool} : eqV [.b] false (.bool x) (.bool y) = some ((x == y) && true) := rfl
theorem run_alloc {zs : List V} : runAct P (.alloc zs) [] tk dst os keep s E H K = runOps P os keep s ((stripEn tk E).setO dst (.ptr H.length 0 0)) (H ++ [.cells 0 zs]) K := (rfl)
theorem run_load {id ver off n : Nat} {agg : Bool} : runAct P (.load n agg) [.ptr id ver off] tk dst os keep s E H K =
    cellsW H id ver off n fun _ l => mkW agg (l.map strip0) fun v => runOps P os keep s ((stripEn tk E).setO dst v) H K := (rfl)
@[go_sem] theorem run_loadc1 {v : V} : runAct P (.load 1 false) [.cptr [v]] tk dst os keep s E H K = runOps P os keep s ((stripEn tk E).setO dst v) H K := by
  show (1 ≤ [v].length ∧ _) = _
  simp [mkW]
@[go_sem] theorem run_loadc {n : Nat} {cs : List V} : runAct P (.load n true) [.cptr cs] tk dst os keep s E H K = (n ≤ cs.length ∧ runOps P os keep s ((stripEn tk E).setO dst (.agg (cs.take n))) H K) := (rfl)
@[go_sem] theorem run_nilCheck {a b c : Nat} : runAct P .nilCheck [.ptr a b c] tk dst os keep s E H K = runOps P os keep s ((stripEn tk E).setO dst (.ptr a b c)) H K := (rfl)
@[go_sem] theorem run_fieldAddr {off a b c : Nat} : runAct P (.fieldAddr off) [.ptr a b c] tk dst os keep s E H K = runOps P os keep s ((stripEn tk E).setO dst (.ptr a b (c + off))) H K := (rfl)
@[go_sem] theorem run_fieldAddrc {off : Nat} {cs : List V} : runAct P (.fieldAddr off) [.cptr cs] tk dst os keep s E H K = runOps P os keep s ((stripEn tk E).setO dst (.cptr (cs.drop off))) H K := (rfl)
@[go_sem] theorem run_index {o : Bool} {z sz : Nat} {xs : List (List V)} {k : IntKind} {i : Int} : runAct P (.indexAddr sz) [.sl o z xs, .int k i] tk dst os keep s E H K =
    (z = sz ∧ 0 ≤ i ∧ ∃ x, xs[i.toNat]? = some x ∧ runOps P os keep s ((stripEn tk E).setO dst (.cptr x)) H K) := (rfl)
@[go_sem] theorem run_indexh {a b c ln z sz : Nat} {k : IntKind} {i : Int} : runAct P (.indexAddr sz) [.hsl a b c ln z, .int k i] tk dst os keep s E H K =
    (z = sz ∧ 0 ≤ i ∧ i < ln ∧ runOps P os keep s ((stripEn tk E).setO dst (.ptr a b (c + i.toNat * sz))) H K) := (rfl)
@[go_sem] theorem run_len {o : Bool} {z : Nat} {xs : List (List V)} : runAct P .len [.sl o z xs] tk dst os keep s E H K = runOps P os keep s ((stripEn tk E).setO dst (.int .i64 xs.length)) H K := (rfl)
@[go_sem] theorem run_lenh {a b c ln z : Nat} : runAct P .len [.hsl a b c ln z] tk dst os keep s E H K = runOps P os keep s ((stripEn tk E).setO dst (.int .i64 ln)) H K := (rfl)
@[go_sem] theorem run_lenn {z : Nat} : runAct P .len [.nilh z] tk dst os keep s E H K = runOps P os keep s ((stripEn tk E).setO dst (.int .i64 0)) H K := (rfl)
@[go_sem] theorem run_append {z z' sz bytes : Nat} {o : Bool} {xs ys : List (List V)} : runAct P (.append sz bytes) [.sl true z xs, .sl o z' ys] tk dst os keep s E H K =
    (z = sz ∧ z' = sz ∧ fits (xs.length + ys.length) bytes ∧ runOps P os keep s ((stripEn tk E).setO dst (.sl true z (xs ++ ys))) H K) := (rfl)
@[go_sem] theorem run_extract {i : Nat} {vs : List V} : runAct P (.extract i) [.tup vs] tk dst os keep s E H K = ∃ v, vs[i]? = some v ∧ runOps P os keep s ((stripEn tk E).setO dst v) H K := (rfl)
@[go_sem] theorem run_build1 {k : IntKind} {n : Int} : runAct P (.buildSl 1) [.int k n] tk dst os keep s E H K = runOps P os keep s ((stripEn tk E).setO dst (.sl true 1 [[.int k n]])) H K := by
  show (∃ r H', sBuildSl 1 [.int k n] H = some (r, H') ∧ _) = _
  simp only [sBuildSl, elems, solid, scal0, V.cells, inl, plain0, strip0, List.length_cons, List.length_nil, List.all_cons, List.all_nil, List.map_cons, List.map_nil, and_self, Bool.and_self, if_true, Option.map_some, Option.bind_some, Nat.zero_add, Option.some.injEq, Prod.mk.injEq]
  apply propext
  constructor
  · rintro ⟨r, H', ⟨rfl, rfl⟩, h⟩; exact h
  · intro h; exact ⟨_, _, ⟨rfl, rfl⟩, h⟩
end

theorem ex_map {α β : Type} {l : List α} {f : α → β} {i : Nat} {K : β → Prop} : (∃ x, (l.map f)[i]? = some x ∧ K x) = ∃ a, l[i]? = some a ∧ K (f a) := by
  simp only [List.getElem?_map, Option.map_eq_some_iff]
  apply propext
  constructor
  · rintro ⟨x, ⟨a, h1, rfl⟩, h2⟩; exact ⟨a, h1, h2⟩
  · rintro ⟨a, h1, h2⟩; exact ⟨_, ⟨a, h1, rfl⟩, h2⟩

/-- A loop, from what holds at each round's start. -/
theorem WP.loop' {P : Program} {a : VCode} {E : En} {H : Heap} {K : KK} (I : Nat → En → Heap → Prop) {n : Nat} (h : I n E H) (step : ∀ n E H, I n E H → run P a [] E H (seqW K fun E' H' => ∃ m, m < n ∧ I m E' H')) : WP P (.loop a) E H K := by
  refine WP.loop I (fun n E H hI => (wp_sound (step n E H hI)).mono ?_) h
  intro x E' H' k
  cases x with
  | normal => exact k
  | exit id => exact k
  | ret => exact k
@[go_sem] theorem seqW_normal {K : KK} {N : En → Heap → Prop} {E : En} {H : Heap} : seqW K N .normal E H = N E H := (rfl)
@[go_sem] theorem seqW_exit {K : KK} {N : En → Heap → Prop} {E : En} {H : Heap} {id : Nat} : seqW K N (.exit id) E H = K (.exit id) E H := (rfl)
@[go_sem] theorem seqW_ret {K : KK} {N : En → Heap → Prop} {E : En} {H : Heap} : seqW K N .ret E H = K .ret E H := (rfl)

/-- How a function ends: what it answers. -/
def endW (H0 : Heap) (rs : List VRes) (R : V → Prop) : KK := fun x E H => (match x with | .exit _ => False | _ => True) ∧ H = H0 ∧ ∃ r0, resV H0.length H0 E.f rs = some r0 ∧ ∃ r, fixV H0.length H0 8 r0 = some r ∧ R r
def endV (H0 : Heap) (E : En) (rs : List VRes) (R : V → Prop) : Prop := ∃ r0, resV H0.length H0 E.f rs = some r0 ∧ ∃ r, fixV H0.length H0 8 r0 = some r ∧ R r
@[go_sem] theorem endW_normal (H0 : Heap) (rs : List VRes) (R : V → Prop) (E : En) (H : Heap) : endW H0 rs R .normal E H = (H = H0 ∧ endV H0 E rs R) := by simp [endW, endV]
@[go_sem] theorem endW_ret (H0 : Heap) (rs : List VRes) (R : V → Prop) (E : En) (H : Heap) : endW H0 rs R .ret E H = (H = H0 ∧ endV H0 E rs R) := by simp [endW, endV]

theorem T.of {P : Program} (hmix : P.follows .mixedOrders = true) {f : Nat} {vf : VFunc} (hc : chkFn P f vf = true) {args : List V} {H : Heap} {r : V} (hl : Nat.ble args.length vf.n = true)
    (h : run P vf.body [] ⟨args.zipIdx.map fun p => (p.2, p.1), .tup []⟩ H (endW H vf.results fun r' => r' = r)) : T P f args H r H := by
  refine T.of_pure hmix hc (Nat.le_of_ble_eq_true hl) ((wp_sound h).mono ?_)
  rintro x E' H' ⟨h1, rfl, r0, h2, r', h3, rfl⟩
  refine ⟨?_, rfl, r0, h2, h3⟩
  intro id e; subst e; exact h1

@[go_sem] theorem endV_tmp (H0 : Heap) (l : List (Nat × V)) (d : V) (t : Nat) (R : V → Prop) : endV H0 ⟨l, d⟩ [.tmp t] R = ∃ r, fixV H0.length H0 8 (getE l d t) = some r ∧ R r := by
  simp [endV, resV, resL, res1, pack, En.f]
@[go_sem] theorem endV_two (H0 : Heap) (l : List (Nat × V)) (d : V) (t u : Nat) (R : V → Prop) : endV H0 ⟨l, d⟩ [.tmp t, .tmp u] R = ∃ r, fixV H0.length H0 8 (.tup [getE l d t, getE l d u]) = some r ∧ R r := by
  simp [endV, resV, resL, res1, pack, En.f]
@[go_sem] theorem endV_nil (H0 : Heap) (l : List (Nat × V)) (d : V) (R : V → Prop) : endV H0 ⟨l, d⟩ [] R = R (.tup []) := by
  simp [endV, resV, resL, pack, fixV]
@[go_sem] theorem fix_int (m : Nat) (H : Heap) (k : IntKind) (n : Int) : fixV m H 8 (.int k n) = some (.int k n) := rfl
@[go_sem] theorem fix_bool (m : Nat) (H : Heap) (b : Bool) : fixV m H 8 (.bool b) = some (.bool b) := rfl
@[go_sem] theorem fix_str (m : Nat) (H : Heap) (s : List UInt8) : fixV m H 8 (.str s) = some (.str s) := rfl
@[go_sem] theorem fix_sl (m : Nat) (H : Heap) (o : Bool) (z : Nat) (xs : List (List V)) : fixV m H 8 (.sl o z xs) = some (.sl o z xs) := rfl

theorem wrap64 {n : Int} (h1 : -9223372036854775808 ≤ n) (h2 : n < 9223372036854775808) : IntKind.i64.wrap n = n := by
  simp [IntKind.wrap, IntKind.bits, IntKind.signed]
  omega

attribute [go_sem] List.map_cons List.map_nil List.zipIdx_cons List.zipIdx_nil Nat.reduceAdd Nat.reduceEqDiff ite_true ite_false if_true if_false
  reduceCtorEq List.contains_nil Bool.false_eq_true true_and and_true List.contains_cons forall_const false_implies Option.some.injEq exists_eq_left' eq_self Nat.reduceBEq Bool.or_false Bool.or_true Bool.true_or Bool.false_or
  iteP decide_eq_true_eq Bool.not_eq_true decide_eq_false_iff_not ne_eq not_true_eq_false not_false_eq_true Bool.not_true Bool.not_false and_false false_and
end Go.Proofs.Ytdmnacjpgaopfaa.Vm
namespace Go.Proofs.Ytdmnacjpgaopfaa.Vm
open Go

section
variable {P : Program} {K : KK} {s : List Fr} {E : En} {H : Heap} {tk : List Nat} {dst : Option Nat} {os : List VOp} {keep : List Nat}

/-- Goes on with an answer. -/
def nextV (P : Program) (v : V) (tk : List Nat) (dst : Option Nat) (os : List VOp) (keep : List Nat) (s : List Fr) (E : En) (H : Heap) (K : KK) : Prop := runOps P os keep s ((stripEn tk E).setO dst v) H K
@[go_sem] theorem nextV_eq {v : V} : nextV P v tk dst os keep s E H K = runOps P os keep s ((stripEn tk E).setO dst v) H K := (rfl)

def loadO (P : Program) (x : Option V) (tk : List Nat) (dst : Option Nat) (os : List VOp) (keep : List Nat) (s : List Fr) (E : En) (H : Heap) (K : KK) : Prop := ∃ v, x = some v ∧ nextV P (strip0 v) tk dst os keep s E H K
@[go_sem] theorem loadO_some {v : V} : loadO P (some v) tk dst os keep s E H K = nextV P (strip0 v) tk dst os keep s E H K := by
  apply propext
  constructor
  · rintro ⟨v, h, k⟩; cases h; exact k
  · intro k; exact ⟨v, rfl, k⟩
@[go_sem] theorem loadO_map {α : Type} {l : List α} {f : α → V} {i : Nat} : loadO P (l.map f)[i]? tk dst os keep s E H K = ∃ a, l[i]? = some a ∧ nextV P (strip0 (f a)) tk dst os keep s E H K := ex_map
def loadG (P : Program) (x : Option (List V)) (off : Nat) (tk : List Nat) (dst : Option Nat) (os : List VOp) (keep : List Nat) (s : List Fr) (E : En) (H : Heap) (K : KK) : Prop :=
  ∃ cs, x = some cs ∧ loadO P cs[off]? tk dst os keep s E H K
@[go_sem] theorem loadG_some {cs : List V} {off : Nat} : loadG P (some cs) off tk dst os keep s E H K = loadO P cs[off]? tk dst os keep s E H K := by
  apply propext
  constructor
  · rintro ⟨v, h, k⟩; cases h; exact k
  · intro k; exact ⟨cs, rfl, k⟩
theorem cut_one {cs : List V} {off : Nat} {v : V} (h : cs[off]? = some v) : cut cs off 1 = some [v] := by
  have hl := (List.getElem?_eq_some_iff.1 h).1
  unfold cut
  rw [if_pos (by omega)]
  congr 1
  apply List.ext_getElem?
  intro i
  rw [List.getElem?_take]
  match i with
  | 0 => rw [if_pos (by omega), List.getElem?_drop, Nat.add_zero, h]; rfl
  | i + 1 => rw [if_neg (by omega)]; simp
theorem one_cut {cs : List V} {off : Nat} {l : List V} (h : cut cs off 1 = some l) : ∃ v, cs[off]? = some v ∧ l = [v] := by
  have hl : off + 1 ≤ cs.length := by
    unfold cut at h; split at h
    · assumption
    · cases h
  have h1 : cs[off]? = some cs[off] := List.getElem?_eq_getElem (by omega)
  rw [cut_one h1] at h
  cases h
  exact ⟨_, h1, rfl⟩
@[go_sem] theorem run_load1 {id ver off : Nat} : runAct P (.load 1 false) [.ptr id ver off] tk dst os keep s E H K = loadG P (getCells H id ver) off tk dst os keep s E H K := by
  apply propext
  constructor
  · rintro ⟨cs, h1, h2, v, h3, h4⟩
    have hc : cut cs off 1 = some ((cs.drop off).take 1) := by simp [cut, h2]
    obtain ⟨y, hu, he⟩ := one_cut hc
    rw [he] at h3
    cases h3
    exact ⟨cs, h1, y, hu, h4⟩
  · rintro ⟨cs, h1, y, hu, h4⟩
    have hl := (List.getElem?_eq_some_iff.1 hu).1
    have hc := cut_one hu
    unfold cut at hc
    rw [if_pos (by omega)] at hc
    have hc := Option.some.inj hc
    exact ⟨cs, h1, by omega, strip0 y, by rw [hc]; rfl, h4⟩


def loadA (P : Program) (n : Nat) (x : Option (List V)) (off : Nat) (tk : List Nat) (dst : Option Nat) (os : List VOp) (keep : List Nat) (s : List Fr) (E : En) (H : Heap) (K : KK) : Prop :=
  ∃ cs, x = some cs ∧ off + n ≤ cs.length ∧ nextV P (.agg (((cs.drop off).take n).map strip0)) tk dst os keep s E H K
@[go_sem] theorem loadA_some {n : Nat} {cs : List V} {off : Nat} : loadA P n (some cs) off tk dst os keep s E H K = (off + n ≤ cs.length ∧ nextV P (.agg (((cs.drop off).take n).map strip0)) tk dst os keep s E H K) := by
  apply propext
  constructor
  · rintro ⟨v, h, k⟩; cases h; exact k
  · intro k; exact ⟨cs, rfl, k⟩
@[go_sem] theorem run_loadA {id ver off n : Nat} : runAct P (.load n true) [.ptr id ver off] tk dst os keep s E H K = loadA P n (getCells H id ver) off tk dst os keep s E H K := (rfl)
@[go_sem] theorem run_alloc' {zs : List V} : runAct P (.alloc zs) [] tk dst os keep s E H K = nextV P (.ptr H.length 0 0) tk dst os keep s E (H ++ [.cells 0 zs]) K := (rfl)

/-- A load that takes what it finds along. -/
def loadT1 (P : Program) (x : Option V) (cs : List V) (id ver off : Nat) (tk : List Nat) (dst : Option Nat) (os : List VOp) (keep : List Nat) (s : List Fr) (E : En) (H : Heap) (K : KK) : Prop :=
  ∃ v, x = some v ∧ nextV P v tk dst os keep s E (H.set id (.cells ver (cs.set off (strip0 v)))) K
@[go_sem] theorem loadT1_some {v : V} {cs : List V} {id ver off : Nat} : loadT1 P (some v) cs id ver off tk dst os keep s E H K = nextV P v tk dst os keep s E (H.set id (.cells ver (cs.set off (strip0 v)))) K := by
  apply propext
  constructor
  · rintro ⟨v, h, k⟩; cases h; exact k
  · intro k; exact ⟨v, rfl, k⟩
@[go_sem] theorem loadT1_map {α : Type} {l : List α} {f : α → V} {i : Nat} {cs : List V} {id ver off : Nat} : loadT1 P (l.map f)[i]? cs id ver off tk dst os keep s E H K = ∃ a, l[i]? = some a ∧ nextV P (f a) tk dst os keep s E (H.set id (.cells ver (cs.set off (strip0 (f a))))) K := ex_map
def loadTG (P : Program) (x : Option (List V)) (id ver off : Nat) (tk : List Nat) (dst : Option Nat) (os : List VOp) (keep : List Nat) (s : List Fr) (E : En) (H : Heap) (K : KK) : Prop :=
  ∃ cs, x = some cs ∧ loadT1 P cs[off]? cs id ver off tk dst os keep s E H K
@[go_sem] theorem loadTG_some {cs : List V} {id ver off : Nat} : loadTG P (some cs) id ver off tk dst os keep s E H K = loadT1 P cs[off]? cs id ver off tk dst os keep s E H K := by
  apply propext
  constructor
  · rintro ⟨v, h, k⟩; cases h; exact k
  · intro k; exact ⟨cs, rfl, k⟩
theorem put_one {cs : List V} {off : Nat} {v : V} (h : off < cs.length) : put cs off [v] = cs.set off v := by
  unfold put
  rw [List.set_eq_take_append_cons_drop, if_pos h]
  simp
@[go_sem] theorem run_loadT1 {id ver off : Nat} : runAct P (.loadT 1 false) [.ptr id ver off] tk dst os keep s E H K = loadTG P (getCells H id ver) id ver off tk dst os keep s E H K := by
  apply propext
  constructor
  · rintro ⟨cs, h1, h2, v, h3, h4⟩
    have hc : cut cs off 1 = some ((cs.drop off).take 1) := by simp [cut, h2]
    obtain ⟨x, hx, he⟩ := one_cut hc
    have hl := (List.getElem?_eq_some_iff.1 hx).1
    rw [he] at h3 h4
    cases h3
    simp only [List.map_cons, List.map_nil] at h4
    rw [put_one hl] at h4
    exact ⟨cs, h1, _, hx, h4⟩
  · rintro ⟨cs, h1, x, hx, h4⟩
    have hl := (List.getElem?_eq_some_iff.1 hx).1
    have hc := cut_one hx
    unfold cut at hc
    rw [if_pos (by omega)] at hc
    have hc := Option.some.inj hc
    refine ⟨cs, h1, by omega, x, hc, ?_⟩
    rw [hc]
    simp only [List.map_cons, List.map_nil]
    rw [put_one hl]
    exact h4

/-- A store. -/
def storeG (P : Program) (x : Option (List V)) (id ver off : Nat) (v : V) (tk : List Nat) (dst : Option Nat) (os : List VOp) (keep : List Nat) (s : List Fr) (E : En) (H : Heap) (K : KK) : Prop :=
  ∃ cs, x = some cs ∧ off < cs.length ∧ nextV P (.tup []) tk dst os keep s E (H.set id (.cells ver (cs.set off v))) K
@[go_sem] theorem storeG_some {cs : List V} {id ver off : Nat} {v : V} : storeG P (some cs) id ver off v tk dst os keep s E H K = (off < cs.length ∧ nextV P (.tup []) tk dst os keep s E (H.set id (.cells ver (cs.set off v))) K) := by
  apply propext
  constructor
  · rintro ⟨v, h, k⟩; cases h; exact k
  · intro k; exact ⟨cs, rfl, k⟩
theorem store_plain {id ver off : Nat} {v : V} (hs : scal0 v = true) (hf : ∀ z xs, v ≠ .fr z xs) : runAct P (.store 1) [.ptr id ver off, v] tk dst os keep s E H K = storeG P (getCells H id ver) id ver off v tk dst os keep s E H K := by
  have hcells : v.cells = [v] := by cases v <;> first | rfl | cases hs
  have hth : thawL [v] H = ([v], H) := by cases v <;> first | rfl | exact absurd rfl (hf _ _)
  have hsol : solid v = true := by cases v <;> first | rfl | cases hs
  have e : sStore 1 [.ptr id ver off, v] H = (getCells H id ver).bind fun cs => if off + 1 ≤ cs.length then some (.tup [], H.set id (.cells ver (put cs off [v]))) else none := by
    simp [sStore, hcells, hth, hsol, hs]
  show (∃ r H', sStore 1 [.ptr id ver off, v] H = some (r, H') ∧ _) = _
  rw [e]
  apply propext
  constructor
  · rintro ⟨r, H', h, k⟩
    obtain ⟨cs, h1, h⟩ := Option.bind_eq_some_iff.1 h
    split at h
    · rename_i hl
      cases h
      rw [put_one (by omega)] at k
      exact ⟨cs, h1, by omega, k⟩
    · cases h
  · rintro ⟨cs, h1, hl, k⟩
    refine ⟨.tup [], _, ?_, k⟩
    rw [h1, Option.bind_some, if_pos (by omega), put_one hl]
@[go_sem] theorem store_int {id ver off : Nat} {k : IntKind} {n : Int} : runAct P (.store 1) [.ptr id ver off, .int k n] tk dst os keep s E H K = storeG P (getCells H id ver) id ver off (.int k n) tk dst os keep s E H K := store_plain rfl (by simp)
@[go_sem] theorem store_bool {id ver off : Nat} {b : Bool} : runAct P (.store 1) [.ptr id ver off, .bool b] tk dst os keep s E H K = storeG P (getCells H id ver) id ver off (.bool b) tk dst os keep s E H K := store_plain rfl (by simp)
@[go_sem] theorem store_str {id ver off : Nat} {b : List UInt8} : runAct P (.store 1) [.ptr id ver off, .str b] tk dst os keep s E H K = storeG P (getCells H id ver) id ver off (.str b) tk dst os keep s E H K := store_plain rfl (by simp)
@[go_sem] theorem store_sl {id ver off : Nat} {o : Bool} {z : Nat} {xs : List (List V)} : runAct P (.store 1) [.ptr id ver off, .sl o z xs] tk dst os keep s E H K = storeG P (getCells H id ver) id ver off (.sl o z xs) tk dst os keep s E H K := store_plain rfl (by simp)
@[go_sem] theorem store_hsl {id ver off a b c d e : Nat} : runAct P (.store 1) [.ptr id ver off, .hsl a b c d e] tk dst os keep s E H K = storeG P (getCells H id ver) id ver off (.hsl a b c d e) tk dst os keep s E H K := store_plain rfl (by simp)
@[go_sem] theorem store_ptr {id ver off a b c : Nat} : runAct P (.store 1) [.ptr id ver off, .ptr a b c] tk dst os keep s E H K = storeG P (getCells H id ver) id ver off (.ptr a b c) tk dst os keep s E H K := store_plain rfl (by simp)
@[go_sem] theorem store_nilp {id ver off : Nat} : runAct P (.store 1) [.ptr id ver off, .nilp] tk dst os keep s E H K = storeG P (getCells H id ver) id ver off .nilp tk dst os keep s E H K := store_plain rfl (by simp)
@[go_sem] theorem store_nilh {id ver off z : Nat} : runAct P (.store 1) [.ptr id ver off, .nilh z] tk dst os keep s E H K = storeG P (getCells H id ver) id ver off (.nilh z) tk dst os keep s E H K := store_plain rfl (by simp)

@[go_sem] theorem thaw_fr {z : Nat} {xs : List (List V)} : runAct P .thaw [.fr z xs] tk dst os keep s E H K = nextV P (.hsl H.length 0 0 xs.length z) tk dst os keep s E (H ++ [.cells 0 xs.flatten]) K := by
  show (∃ r H', sThaw [.fr z xs] H = some (r, H') ∧ _) = _
  apply propext
  constructor
  · rintro ⟨r, H', h, k⟩; cases h; exact k
  · intro k; exact ⟨_, _, rfl, k⟩
@[go_sem] theorem thaw_hsl {a b c d e : Nat} : runAct P .thaw [.hsl a b c d e] tk dst os keep s E H K = nextV P (.hsl a b c d e) tk dst os keep s E H K := by
  show (∃ r H', sThaw [.hsl a b c d e] H = some (r, H') ∧ _) = _
  apply propext
  constructor
  · rintro ⟨r, H', h, k⟩; cases h; exact k
  · intro k; exact ⟨_, _, rfl, k⟩
@[go_sem] theorem thaw_sl {o : Bool} {z : Nat} {xs : List (List V)} : runAct P .thaw [.sl o z xs] tk dst os keep s E H K = nextV P (.sl o z xs) tk dst os keep s E H K := by
  show (∃ r H', sThaw [.sl o z xs] H = some (r, H') ∧ _) = _
  apply propext
  constructor
  · rintro ⟨r, H', h, k⟩; cases h; exact k
  · intro k; exact ⟨_, _, rfl, k⟩
theorem ite_next {c : Prop} [Decidable c] {v : V} {H1 : Heap} {F : V → Heap → Prop} : (∃ r H', (if c then some (v, H1) else none) = some (r, H') ∧ F r H') = (c ∧ F v H1) := by
  apply propext
  constructor
  · rintro ⟨r, H', h, k⟩
    split at h
    · rename_i hc; cases h; exact ⟨hc, k⟩
    · cases h
  · rintro ⟨hc, k⟩; exact ⟨_, _, by rw [if_pos hc], k⟩
@[go_sem] theorem run_makeH {sz bytes : Nat} {zs : List V} {j k : IntKind} {n c : Int} : runAct P (.makeH sz bytes zs) [.int j n, .int k c] tk dst os keep s E H K =
    ((n = c ∧ 0 ≤ n ∧ bytes * n ≤ 281474976710656 ∧ n ≤ 9223372036854775807) ∧ nextV P (.hsl H.length 0 0 n.toNat sz) tk dst os keep s E (H ++ [.cells 0 (List.replicate n.toNat zs).flatten]) K) := ite_next
@[go_sem] theorem run_makeSl {sz bytes : Nat} {zs : List V} {j k : IntKind} {n c : Int} : runAct P (.makeSl sz bytes zs) [.int j n, .int k c] tk dst os keep s E H K =
    ((n = c ∧ 0 ≤ n ∧ bytes * n ≤ 281474976710656 ∧ n ≤ 9223372036854775807) ∧ nextV P (.fr sz (List.replicate n.toNat zs)) tk dst os keep s E H K) := ite_next
@[go_sem] theorem run_buildFr1 {k : IntKind} {n : Int} : runAct P (.buildFr 1) [.int k n] tk dst os keep s E H K = nextV P (.fr 1 [[.int k n]]) tk dst os keep s E H K := by
  show (∃ r H', sBuildFr 1 [.int k n] H = some (r, H') ∧ _) = _
  have : sBuildFr 1 [.int k n] H = some (.fr 1 [[.int k n]], H) := by simp [sBuildFr, elems, solid, scal0, V.cells, inl, plain0, strip0]
  rw [this]
  apply propext
  constructor
  · rintro ⟨r, H', h, k⟩; cases h; exact k
  · intro k; exact ⟨_, _, rfl, k⟩

def appG (P : Program) (x : Option (List V)) (id ver ln sz : Nat) (ys : List (List V)) (tk : List Nat) (dst : Option Nat) (os : List VOp) (keep : List Nat) (s : List Fr) (E : En) (H : Heap) (K : KK) : Prop :=
  ∃ cs, x = some cs ∧ ln * sz ≤ cs.length ∧ nextV P (.hsl id (ver + 1) 0 (ln + ys.length) sz) tk dst os keep s E (H.set id (.cells (ver + 1) (cs.take (ln * sz) ++ ys.flatten))) K
@[go_sem] theorem appG_some {cs : List V} {id ver ln sz : Nat} {ys : List (List V)} : appG P (some cs) id ver ln sz ys tk dst os keep s E H K =
    (ln * sz ≤ cs.length ∧ nextV P (.hsl id (ver + 1) 0 (ln + ys.length) sz) tk dst os keep s E (H.set id (.cells (ver + 1) (cs.take (ln * sz) ++ ys.flatten))) K) := by
  apply propext
  constructor
  · rintro ⟨v, h, k⟩; cases h; exact k
  · intro k; exact ⟨cs, rfl, k⟩
@[go_sem] theorem run_appendH {id ver ln z z' sz bytes : Nat} {o : Bool} {ys : List (List V)} : runAct P (.appendH sz bytes) [.hsl id ver 0 ln z, .sl o z' ys] tk dst os keep s E H K =
    (z = sz ∧ z' = sz ∧ fits (ln + ys.length) bytes ∧ appG P (getCells H id ver) id ver ln sz ys tk dst os keep s E H K) := by
  have e : sAppendH sz bytes [.hsl id ver 0 ln z, .sl o z' ys] H = if z = sz ∧ z' = sz ∧ fits (ln + ys.length) bytes then (getCells H id ver).bind fun cs => if ln * sz ≤ cs.length then
      some (.hsl id (ver + 1) 0 (ln + ys.length) sz, H.set id (.cells (ver + 1) (cs.take (ln * sz) ++ ys.flatten))) else none else none := by
    simp only [sAppendH, true_and]
    split
    · congr 1
      funext cs
      simp only [cut, Nat.zero_add, List.drop_zero]
      split <;> rfl
    · rfl
  show (∃ r H', sAppendH sz bytes [.hsl id ver 0 ln z, .sl o z' ys] H = some (r, H') ∧ _) = _
  rw [e]
  apply propext
  constructor
  · rintro ⟨r, H', h, k⟩
    split at h
    · rename_i hc
      obtain ⟨cs, h1, h⟩ := Option.bind_eq_some_iff.1 h
      split at h
      · rename_i hl
        cases h
        exact ⟨hc.1, hc.2.1, hc.2.2, cs, h1, hl, k⟩
      · cases h
    · cases h
  · rintro ⟨h1, h2, h3, cs, h4, h5, k⟩
    refine ⟨_, _, ?_, k⟩
    rw [if_pos ⟨h1, h2, h3⟩, h4, Option.bind_some, if_pos h5]
@[go_sem] theorem run_appendN {z z' sz bytes : Nat} {o : Bool} {ys : List (List V)} : runAct P (.appendH sz bytes) [.nilh z, .sl o z' ys] tk dst os keep s E H K =
    ((z = sz ∧ z' = sz ∧ 0 < ys.length ∧ fits ys.length bytes) ∧ nextV P (.fr sz ys) tk dst os keep s E H K) := ite_next
@[go_sem] theorem slice_ft {o : Bool} {z sz : Nat} {xs : List (List V)} {k : IntKind} {x : Int} : runAct P (.slice false true sz) [.sl o z xs, .int k x] tk dst os keep s E H K =
    (z = sz ∧ 0 ≤ x ∧ x ≤ xs.length ∧ nextV P (.sl false z ((xs.take x.toNat).drop 0)) tk dst os keep s E H K) := (rfl)
@[go_sem] theorem slice_tf {o : Bool} {z sz : Nat} {xs : List (List V)} {k : IntKind} {x : Int} : runAct P (.slice true false sz) [.sl o z xs, .int k x] tk dst os keep s E H K =
    (z = sz ∧ 0 ≤ x ∧ x ≤ xs.length ∧ nextV P (.sl false z ((xs.take xs.length).drop x.toNat)) tk dst os keep s E H K) := (rfl)
@[go_sem] theorem slice_tt {o : Bool} {z sz : Nat} {xs : List (List V)} {j k : IntKind} {l h : Int} : runAct P (.slice true true sz) [.sl o z xs, .int j l, .int k h] tk dst os keep s E H K =
    (z = sz ∧ 0 ≤ l ∧ l ≤ h ∧ h ≤ xs.length ∧ nextV P (.sl false z ((xs.take h.toNat).drop l.toNat)) tk dst os keep s E H K) := (rfl)
@[go_sem] theorem sliceh_ft {id ver off ln z sz : Nat} {k : IntKind} {x : Int} : runAct P (.slice false true sz) [.hsl id ver off ln z, .int k x] tk dst os keep s E H K =
    ((z = sz ∧ 0 ≤ x ∧ x ≤ ln) ∧ nextV P (.hsl id ver off x.toNat z) tk dst os keep s E H K) := by
  have e : sSlice false true sz [.hsl id ver off ln z, .int k x] H = if z = sz ∧ 0 ≤ x ∧ x ≤ ln then some (.hsl id ver off x.toNat z, H) else none := by
    simp only [sSlice, bounds]
    by_cases h1 : z = sz
    · by_cases h2 : 0 ≤ x ∧ x ≤ ln
      · simp [h1, h2]
        omega
      · simp [h1, h2]
    · simp [h1]
  show (∃ r H', sSlice false true sz [.hsl id ver off ln z, .int k x] H = some (r, H') ∧ _) = _
  rw [e]
  exact ite_next
end
end Go.Proofs.Ytdmnacjpgaopfaa.Vm
namespace Go.Proofs.Ytdmnacjpgaopfaa.Vm
open Go

@[go_sem] theorem fixd_int (m : Nat) (H : Heap) (d : Nat) (k : IntKind) (n : Int) : fixV m H (d + 1) (.int k n) = some (.int k n) := rfl
@[go_sem] theorem fixd_bool (m : Nat) (H : Heap) (d : Nat) (b : Bool) : fixV m H (d + 1) (.bool b) = some (.bool b) := rfl
@[go_sem] theorem fixd_str (m : Nat) (H : Heap) (d : Nat) (s : List UInt8) : fixV m H (d + 1) (.str s) = some (.str s) := rfl
@[go_sem] theorem fixd_sl (m : Nat) (H : Heap) (d : Nat) (o : Bool) (z : Nat) (xs : List (List V)) : fixV m H (d + 1) (.sl o z xs) = some (.sl o z xs) := rfl
@[go_sem] theorem fixd_tup0 (m : Nat) (H : Heap) (d : Nat) : fixV m H (d + 1) (.tup []) = some (.tup []) := by simp [fixV]
theorem fixd_tup2 (m : Nat) (H : Heap) (d : Nat) (a b : V) : fixV m H (d + 1) (.tup [a, b]) = (fixV m H d a).bind fun a' => (fixV m H d b).map fun b' => .tup [a', b'] := by
  simp only [fixV, List.mapM_cons, List.mapM_nil]
  cases fixV m H d a <;> simp
  cases fixV m H d b <;> simp

/-- How a function that began in an empty heap ends. -/
def end0 (rs : List VRes) (R : V → Prop) : KK := fun x E H => (match x with | .exit _ => False | _ => True) ∧ ∃ r0, resV 0 H E.f rs = some r0 ∧ ∃ r, fixV 0 H 8 r0 = some r ∧ R r
def fin0 (H : Heap) (v : V) (R : V → Prop) : Prop := ∃ r, fixV 0 H 8 v = some r ∧ R r
section
variable {R : V → Prop} {l : List (Nat × V)} {d : V} {H : Heap} {t u : Nat}
@[go_sem] theorem end0_tmp : end0 [.tmp t] R .ret ⟨l, d⟩ H = fin0 H (getE l d t) R := by simp [end0, fin0, resV, resL, res1, pack, En.f]
@[go_sem] theorem end0_tmpN : end0 [.tmp t] R .normal ⟨l, d⟩ H = fin0 H (getE l d t) R := by simp [end0, fin0, resV, resL, res1, pack, En.f]
@[go_sem] theorem end0_two : end0 [.tmp t, .tmp u] R .ret ⟨l, d⟩ H = fin0 H (.tup [getE l d t, getE l d u]) R := by simp [end0, fin0, resV, resL, res1, pack, En.f]
@[go_sem] theorem end0_twoN : end0 [.tmp t, .tmp u] R .normal ⟨l, d⟩ H = fin0 H (.tup [getE l d t, getE l d u]) R := by simp [end0, fin0, resV, resL, res1, pack, En.f]
@[go_sem] theorem fin0_int {k : IntKind} {n : Int} : fin0 H (.int k n) R = R (.int k n) := by simp [fin0, fixV]
@[go_sem] theorem fin0_bool {b : Bool} : fin0 H (.bool b) R = R (.bool b) := by simp [fin0, fixV]
@[go_sem] theorem fin0_sl {o : Bool} {z : Nat} {xs : List (List V)} : fin0 H (.sl o z xs) R = R (.sl o z xs) := by simp [fin0, fixV]
@[go_sem] theorem fin0_slint {o : Bool} {z : Nat} {xs : List (List V)} {k : IntKind} {n : Int} : fin0 H (.tup [.sl o z xs, .int k n]) R = R (.tup [.sl o z xs, .int k n]) := by
  simp [fin0, fixd_tup2, fixd_sl, fixd_int]
end

theorem T.of0 {P : Program} (hmix : P.follows .mixedOrders = true) {f : Nat} {vf : VFunc} (hc : chkFn P f vf = true) {args : List V} {r : V} (hl : Nat.ble args.length vf.n = true)
    (h : run P vf.body [] ⟨args.zipIdx.map fun p => (p.2, p.1), .tup []⟩ [] (end0 vf.results fun r' => r' = r)) : T P f args [] r [] := by
  refine T.of_wp hmix hc (Nat.le_of_ble_eq_true hl) ((wp_sound h).mono ?_)
  rintro x E' H' ⟨h1, r0, h2, r', h3, rfl⟩
  refine ⟨?_, Nat.zero_le _, fun i ob hi _ => absurd hi (Nat.not_lt_zero i), r0, h2, h3⟩
  intro id e; subst e; exact h1

attribute [go_sem] List.nil_append List.cons_append List.length_cons List.length_nil List.length_append List.getElem?_cons_zero List.getElem?_cons_succ List.set_cons_zero List.set_cons_succ List.append_nil Nat.zero_add Nat.add_zero List.length_map List.length_replicate
end Go.Proofs.Ytdmnacjpgaopfaa.Vm
namespace Go.Proofs.Ytdmnacjpgaopfaa.Vm
open Go

/-- How a function ends that may change the heap: up to m all is kept. -/
def endX (m : Nat) (H0 : Heap) (rs : List VRes) (R : V → Heap → Prop) : KK := fun x E H => (match x with | .exit _ => False | _ => True) ∧
  H0.length ≤ m ∧ m ≤ H.length ∧ (∀ (i : Nat) (ob : Obj), i < m → H[i]? = some ob → H0[i]? = some ob ∨ idsO m ob = true) ∧ ∃ r0, resV m H E.f rs = some r0 ∧ ∃ r, fixV m H 8 r0 = some r ∧ R r (H.take m)
theorem T.of_ex {P : Program} (hmix : P.follows .mixedOrders = true) {f : Nat} {vf : VFunc} (hc : chkFn P f vf = true) {args : List V} {H : Heap} {R : V → Heap → Prop} (m : Nat) (hl : Nat.ble args.length vf.n = true)
    (h : run P vf.body [] ⟨args.zipIdx.map fun p => (p.2, p.1), .tup []⟩ H (endX m H vf.results R)) : ∃ r H', T P f args H r H' ∧ R r H' := by
  obtain ⟨x, E1, H1, h1, h2, h3, h4, h5, r0, h6, r, h7, h8⟩ := wp_sound h
  rw [env0_eq] at h1
  refine ⟨r, H1.take m, T_of hmix hc (Nat.le_of_ble_eq_true hl) h1 ?_ h3 h4 h6 h7 h5, h8⟩
  intro id e; subst e; exact h2
theorem T.of_h {P : Program} (hmix : P.follows .mixedOrders = true) {f : Nat} {vf : VFunc} (hc : chkFn P f vf = true) {args : List V} {H H' : Heap} {r : V} (m : Nat) (hl : Nat.ble args.length vf.n = true)
    (h : run P vf.body [] ⟨args.zipIdx.map fun p => (p.2, p.1), .tup []⟩ H (endX m H vf.results fun r1 H1 => r1 = r ∧ H1 = H')) : T P f args H r H' := by
  obtain ⟨r, H', h1, rfl, rfl⟩ := T.of_ex hmix hc m hl h
  exact h1
/-- At the end all objects that stay name only such. -/
def allIds (m : Nat) (H : Heap) : Bool := H.all (idsO m)
theorem endX_of {m : Nat} {H0 : Heap} {rs : List VRes} {R : V → Heap → Prop} {x : X} {E : En} {H : Heap} (hx : (match x with | .exit _ => False | _ => True)) (h1 : H0.length ≤ m) (h2 : m ≤ H.length) (h3 : allIds m (H.take m) = true)
    {r0 r : V} (h4 : resV m H E.f rs = some r0) (h5 : fixV m H 8 r0 = some r) (h6 : R r (H.take m)) : endX m H0 rs R x E H := by
  refine ⟨hx, h1, h2, fun i ob hi hob => .inr ?_, r0, h4, r, h5, h6⟩
  refine List.all_eq_true.1 h3 ob ?_
  exact List.mem_of_getElem? (by rw [List.getElem?_take, if_pos hi]; exact hob)
theorem idsL_all {m : Nat} : ∀ {l : List V}, idsL m l = l.all (idsV m)
  | [] => rfl
  | v :: l => by rw [idsL, List.all_cons, idsL_all]

def plainC : V → Bool
  | .fr _ _ => false
  | v => scal0 v
section
variable {P : Program} {K : KK} {s : List Fr} {E : En} {H : Heap} {tk : List Nat} {dst : Option Nat} {os : List VOp} {keep : List Nat}
@[go_sem] theorem plainC_int {k : IntKind} {n : Int} : plainC (.int k n) = true := (rfl)
@[go_sem] theorem plainC_bool {b : Bool} : plainC (.bool b) = true := (rfl)
@[go_sem] theorem plainC_str {b : List UInt8} : plainC (.str b) = true := (rfl)
@[go_sem] theorem plainC_sl {o : Bool} {z : Nat} {xs : List (List V)} : plainC (.sl o z xs) = true := (rfl)
@[go_sem] theorem plainC_hsl {a b c d e : Nat} : plainC (.hsl a b c d e) = true := (rfl)
@[go_sem] theorem plainC_ptr {a b c : Nat} : plainC (.ptr a b c) = true := (rfl)
@[go_sem] theorem plainC_nilh {a : Nat} : plainC (.nilh a) = true := (rfl)
@[go_sem] theorem plainC_nilp : plainC .nilp = true := (rfl)
@[go_sem] theorem scal0_int {k : IntKind} {n : Int} : scal0 (.int k n) = true := (rfl)
@[go_sem] theorem scal0_bool {b : Bool} : scal0 (.bool b) = true := (rfl)
@[go_sem] theorem scal0_str {b : List UInt8} : scal0 (.str b) = true := (rfl)
@[go_sem] theorem scal0_sl {o : Bool} {z : Nat} {xs : List (List V)} : scal0 (.sl o z xs) = true := (rfl)
@[go_sem] theorem scal0_hsl {a b c d e : Nat} : scal0 (.hsl a b c d e) = true := (rfl)
@[go_sem] theorem scal0_fr {z : Nat} {xs : List (List V)} : scal0 (.fr z xs) = true := (rfl)
@[go_sem] theorem scal0_ptr {a b c : Nat} : scal0 (.ptr a b c) = true := (rfl)
@[go_sem] theorem scal0_nilh {a : Nat} : scal0 (.nilh a) = true := (rfl)
@[go_sem] theorem scal0_nilp : scal0 .nilp = true := (rfl)

@[go_sem] theorem fillV_nil {zs : List V} : fillV zs [] [] = some zs := rfl
@[go_sem] theorem fillV_one {zs vs : List V} {off : Nat} {ps : List (Nat × Nat)} {v : V} (h : scal0 v = true) : fillV zs ((off, 1) :: ps) (v :: vs) = if off < zs.length then fillV (zs.set off v) ps vs else none := by
  have hcells : v.cells = [v] := by cases v <;> first | rfl | cases h
  have hsol : solid v = true := by cases v <;> first | rfl | cases h
  rw [fillV, hcells]
  by_cases hl : off < zs.length
  · rw [if_pos ⟨hsol, rfl, by omega⟩, if_pos hl, put_one hl]
  · rw [if_neg (fun hh => hl (by have := hh.2.2; omega)), if_neg hl]
def exO (x : Option (List V)) (F : List V → Prop) : Prop := ∃ cs, x = some cs ∧ F cs
@[go_sem] theorem exO_some {cs : List V} {F : List V → Prop} : exO (some cs) F = F cs := by
  apply propext
  constructor
  · rintro ⟨_, h, k⟩; cases h; exact k
  · intro k; exact ⟨_, rfl, k⟩
@[go_sem] theorem run_build {zs : List V} {ps : List (Nat × Nat)} {vs : List V} : runAct P (.build zs ps) vs tk dst os keep s E H K = exO (fillV zs ps vs) fun cs => nextV P (.agg cs) tk dst os keep s E H K := by
  show (∃ r H', sBuild zs ps vs H = some (r, H') ∧ _) = _
  apply propext
  constructor
  · rintro ⟨r, H', h, k⟩
    obtain ⟨cs, h1, h2⟩ := Option.map_eq_some_iff.1 h
    cases h2; exact ⟨cs, h1, k⟩
  · rintro ⟨cs, h1, k⟩
    exact ⟨_, _, by unfold sBuild; rw [h1]; rfl, k⟩

@[go_sem] theorem thawL_nil : thawL [] H = ([], H) := rfl
@[go_sem] theorem thawL_fr {z : Nat} {xs : List (List V)} {vs : List V} : thawL (.fr z xs :: vs) H = (.hsl H.length 0 0 xs.length z :: (thawL vs (H ++ [.cells 0 xs.flatten])).1, (thawL vs (H ++ [.cells 0 xs.flatten])).2) := rfl
@[go_sem] theorem thawL_plain {v : V} {vs : List V} (h : plainC v = true) : thawL (v :: vs) H = (v :: (thawL vs H).1, (thawL vs H).2) := by
  cases v <;> first | rfl | cases h
theorem thawL_all {vs : List V} : vs.all plainC = true → thawL vs H = (vs, H) := by
  induction vs with
  | nil => intro _; rfl
  | cons v vs ih =>
    intro h
    rw [List.all_cons, Bool.and_eq_true] at h
    rw [thawL_plain h.1, ih h.2]
@[go_sem] theorem run_box {cs : List V} : runAct P .box [.agg cs] tk dst os keep s E H K = nextV P (.ptr (thawL cs H).2.length 0 0) tk dst os keep s E ((thawL cs H).2 ++ [.cells 0 (thawL cs H).1]) K := by
  show (∃ r H', sBox [.agg cs] H = some (r, H') ∧ _) = _
  have e : sBox [.agg cs] H = some (.ptr (thawL cs H).2.length 0 0, (thawL cs H).2 ++ [.cells 0 (thawL cs H).1]) := by simp [sBox, solid, V.cells]
  rw [e]
  apply propext
  constructor
  · rintro ⟨r, H', h, k⟩; cases h; exact k
  · intro k; exact ⟨_, _, rfl, k⟩

/-- A struct is written. -/
def storeA (P : Program) (x : Option (List V)) (id ver off : Nat) (cs : List V) (tk : List Nat) (dst : Option Nat) (os : List VOp) (keep : List Nat) (s : List Fr) (E : En) (H : Heap) (K : KK) : Prop :=
  exO x fun c => off + cs.length ≤ c.length ∧ nextV P (.tup []) tk dst os keep s E (H.set id (.cells ver (put c off cs))) K
@[go_sem] theorem storeA_some {c cs : List V} {id ver off : Nat} : storeA P (some c) id ver off cs tk dst os keep s E H K = (off + cs.length ≤ c.length ∧ nextV P (.tup []) tk dst os keep s E (H.set id (.cells ver (put c off cs))) K) := exO_some
@[go_sem] theorem store_agg {id ver off n : Nat} {cs : List V} (h : cs.all plainC = true) (hn : n = cs.length) : runAct P (.store n) [.ptr id ver off, .agg cs] tk dst os keep s E H K = storeA P (getCells H id ver) id ver off cs tk dst os keep s E H K := by
  subst hn
  have hsc : cs.all scal0 = true := by
    rw [List.all_eq_true] at h ⊢
    intro v hv
    have := h v hv
    cases v <;> first | rfl | cases this
  have e : sStore cs.length [.ptr id ver off, .agg cs] H = (getCells H id ver).bind fun c => if off + cs.length ≤ c.length then some (.tup [], H.set id (.cells ver (put c off cs))) else none := by
    simp only [sStore, solid, V.cells, thawL_all h, hsc, true_and]
  show (∃ r H', sStore cs.length [.ptr id ver off, .agg cs] H = some (r, H') ∧ _) = _
  rw [e]
  apply propext
  constructor
  · rintro ⟨r, H', h, k⟩
    obtain ⟨c, h1, h⟩ := Option.bind_eq_some_iff.1 h
    split at h
    · rename_i hl
      cases h
      exact ⟨c, h1, hl, k⟩
    · cases h
  · rintro ⟨c, h1, hl, k⟩
    refine ⟨.tup [], _, ?_, k⟩
    rw [h1, Option.bind_some, if_pos hl]
theorem store_fr {id ver off z : Nat} {xs : List (List V)} : runAct P (.store 1) [.ptr id ver off, .fr z xs] tk dst os keep s E H K =
    exO (getCells H id ver) fun c => off < c.length ∧ nextV P (.tup []) tk dst os keep s E ((H ++ [Obj.cells 0 xs.flatten]).set id (.cells ver (c.set off (.hsl H.length 0 0 xs.length z)))) K := by
  have e : sStore 1 [.ptr id ver off, .fr z xs] H = (getCells H id ver).bind fun c => if off + 1 ≤ c.length then some (.tup [], (H ++ [Obj.cells 0 xs.flatten]).set id (.cells ver (put c off [.hsl H.length 0 0 xs.length z]))) else none := by
    simp [sStore, solid, scal0, V.cells, thawL]
  show (∃ r H', sStore 1 [.ptr id ver off, .fr z xs] H = some (r, H') ∧ _) = _
  rw [e]
  apply propext
  constructor
  · rintro ⟨r, H', h, k⟩
    obtain ⟨c, h1, h⟩ := Option.bind_eq_some_iff.1 h
    split at h
    · rename_i hl
      cases h
      rw [put_one (by omega)] at k
      exact ⟨c, h1, by omega, k⟩
    · cases h
  · rintro ⟨c, h1, hl, k⟩
    refine ⟨.tup [], _, ?_, k⟩
    rw [h1, Option.bind_some, if_pos (by omega), put_one hl]
attribute [go_sem] store_fr

theorem run_addW {k : IntKind} {a b : Int} : runInt P .add k a b tk dst os keep s E H K = runOps P os keep s ((stripEn tk E).setO dst (.int k (k.wrap (a + b)))) H K := by
  unfold runInt intW
  apply propext
  constructor
  · rintro ⟨z, rfl, h⟩; exact h
  · intro h; exact ⟨_, rfl, h⟩
theorem run_subW {k : IntKind} {a b : Int} : runInt P .sub k a b tk dst os keep s E H K = runOps P os keep s ((stripEn tk E).setO dst (.int k (k.wrap (a - b)))) H K := by
  unfold runInt intW
  apply propext
  constructor
  · rintro ⟨z, rfl, h⟩; exact h
  · intro h; exact ⟨_, rfl, h⟩
end
attribute [go_sem] List.all_cons List.all_nil Bool.and_self Nat.reduceLT Nat.reduceLeDiff List.set_cons_zero List.set_cons_succ

end Go.Proofs.Ytdmnacjpgaopfaa.Vm
namespace Go.Proofs.Ytdmnacjpgaopfaa.Vm
open Go

end Go.Proofs.Ytdmnacjpgaopfaa.Vm
namespace Go.Proofs.Ytdmnacjpgaopfaa.Vm
open Go Go.RowKit

def immW (w : World) (b o : Nat) : Option Value := match w.heap[b]? with
  | some (.cells c _ _) => c[o]?
  | _ => none
def gh0 (w : World) : Gh := ⟨immW w, []⟩
def own0 (w : World) (b : Nat) : Option Place := if b < w.heap.size then some .frame else none

theorem ok0 (w : World) : Ok w (gh0 w) (own0 w) [] := by
  refine ⟨fun b o v h => ?_, fun b p h => ?_, rfl, fun i ob h => by simp at h⟩
  · simp only [gh0, immW] at h
    split at h
    · rename_i c e f hc; exact ⟨c, e, f, hc, h⟩
    · cases h
  · unfold own0 at h; split at h
    · assumption
    · cases h

section
variable {P : Program} {w : World}

/-- WHAT A LAW ANSWERS. -/
theorem T.below {f : Nat} {vs : List V} (h : T P f vs [] (.bool true) []) {cs : Array Value} (hr : RepI (immW w) vs cs.toList) : Calls P f cs w fun e w' => e = .returned (.bool true) ∧ Below w.heap.size w w' := by
  refine (h.2 w (gh0 w) (own0 w) cs [] (ok0 w) (RepI.toL hr) List.nodup_nil (fun _ h => by cases h)).mono ?_
  rintro e w' ⟨c, rfl, G', own', bl, _, h2, _, _, h5⟩
  obtain ⟨cs', hcs, _⟩ := h2.bool_inv
  obtain ⟨rfl, _⟩ := List.cons.inj hcs
  refine ⟨rfl, h5.os, h5.tape, h5.out, h5.size, fun k hk => ?_⟩
  exact (h5.fixed k (by simp only [own0, if_pos hk])).1

theorem Addr.add_add (a : Addr) (x y : Nat) : (a.add x).add y = a.add (x + y) := by
  unfold Addr.add
  by_cases hx : x = 0
  · subst hx; simp
  · by_cases hy : y = 0
    · subst hy; simp [hx]
    · simp [hx, hy, Nat.add_assoc]

theorem cell_imm {a : Addr} {v : Value} (h : w.cell? a = some v) : a.spot = none ∧ immW w a.block a.off = some v := by
  unfold World.cell? at h
  unfold immW
  split at h
  · rename_i c e f hc
    split at h
    · cases h
    · rename_i hs
      rw [hc]
      exact ⟨by cases hh : a.spot with
        | none => rfl
        | some _ => rw [hh] at hs; simp at hs, h⟩
  · cases h

theorem mapM_some {α β : Type} {f : α → Option β} : ∀ {l : List α} {ys : List β}, l.mapM f = some ys → ys.length = l.length ∧ ∀ (i : Nat) (x : α), l[i]? = some x → ∃ y, ys[i]? = some y ∧ f x = some y
  | [], ys, h => by
    cases h
    exact ⟨rfl, fun i x h => by simp at h⟩
  | a :: l, ys, h => by
    rw [List.mapM_cons] at h
    obtain ⟨y, h1, h⟩ := Option.bind_eq_some_iff.1 h
    obtain ⟨zs, h2, h⟩ := Option.bind_eq_some_iff.1 h
    cases h
    obtain ⟨k1, k2⟩ := mapM_some h2
    refine ⟨by simp [k1], fun i x hx => ?_⟩
    match i with
    | 0 => simp at hx; subst hx; exact ⟨y, rfl, h1⟩
    | i + 1 => exact k2 i x (by simpa using hx)

theorem cells_imm {a : Addr} {n : Nat} {cs : List Value} (h : w.cells? 0 a n = some cs) : cs.length = n ∧ ∀ j v, cs[j]? = some v → w.cell? (a.add j) = some v := by
  unfold World.cells? at h
  rw [if_pos (Nat.zero_le _)] at h
  obtain ⟨h1, h2⟩ := mapM_some h
  rw [List.length_range] at h1
  refine ⟨h1, fun j v hv => ?_⟩
  have hj : j < n := by rw [← h1]; exact (List.getElem?_eq_some_iff.1 hv).1
  obtain ⟨y, k1, k2⟩ := h2 j j (by simp [hj])
  rw [hv] at k1; cases k1; exact k2

theorem flat_imm {a : Addr} {k : Nat} : ∀ (csl : List (List Value)) (s : Nat), (∀ i c, csl[i]? = some c → c.length = k ∧ ∀ j v, c[j]? = some v → w.cell? (a.add ((s + i) * k + j)) = some v) →
    ∀ o v, csl.flatten[o]? = some v → w.cell? (a.add (s * k + o)) = some v
  | [], s, _, o, v, h => by simp at h
  | c :: csl, s, hc, o, v, h => by
    obtain ⟨h1, h2⟩ := hc 0 c rfl
    rw [List.flatten_cons] at h
    rcases Nat.lt_or_ge o c.length with ho | ho
    · rw [List.getElem?_append_left ho] at h
      simpa using h2 o v h
    · rw [List.getElem?_append_right ho] at h
      have := flat_imm csl (s + 1) (fun i c' hc' => by
        have := hc (i + 1) c' (by simpa using hc')
        rw [show s + (i + 1) = s + 1 + i by omega] at this; exact this) (o - c.length) v h
      rw [show s * k + o = (s + 1) * k + (o - c.length) by rw [Nat.add_mul]; omega]
      exact this

theorem flat_at {a : Addr} {k : Nat} {csl : List (List Value)} (h : ∀ i c, csl[i]? = some c → c.length = k ∧ ∀ j v, c[j]? = some v → w.cell? (a.add (i * k + j)) = some v) : ImmAt (immW w) a csl.flatten := by
  have hall := flat_imm (w := w) (a := a) (k := k) csl 0 (fun i c hc => by simpa using h i c hc)
  refine ⟨fun hne => ?_, fun i v hv => ?_⟩
  · obtain ⟨v, hv⟩ : ∃ v, csl.flatten[0]? = some v := by
      cases hf : csl.flatten with
      | nil => exact absurd hf hne
      | cons v l => exact ⟨v, rfl⟩
    have := (cell_imm (hall 0 v hv)).1
    simpa [Addr.add] using this
  · have := (cell_imm (hall i v hv)).2
    rw [(add_off a _).1, (add_off a _).2] at this
    simpa using this

variable {H : Type} {enc : TypeId × Value → H} {sp : Nat → Bool} {held : Bool}

abbrev Reads (P : Program) (enc : TypeId × Value → H) (sp : Nat → Bool) (held : Bool) (w : World) (t : TypeId) (Q : DataW H → List V → Prop) : Prop :=
  ∀ fuel cs d ps, DataW.trod enc P w 0 sp held fuel t cs = some (d, ps) → ∃ vs, RepI (immW w) vs cs ∧ Q d vs

theorem reads_int {t : TypeId} {k : IntKind} (hu : P.underlying t = some (.int k)) : Reads P enc sp held w t fun d vs => ∃ n : Int, d = .lit (.int k n) ∧ (Lit.int k n).wf = true ∧ vs = [.int k n] := by
  intro fuel cs d ps h
  cases fuel with
  | zero => cases h
  | succ fuel =>
    unfold DataW.trod at h
    rw [hu] at h
    split at h <;> try (rename_i he; cases he; done)
    all_goals first | (cases h; done) | skip
    rename_i he
    cases he
    split at h
    · rename_i hk
      obtain ⟨rfl, hk⟩ := hk
      cases h
      exact ⟨_, .int _ _ .nil, _, rfl, hk, rfl⟩
    · cases h

theorem reads_bool {t : TypeId} (hu : P.underlying t = some .bool) : Reads P enc sp held w t fun d vs => ∃ b : Bool, d = .lit (.bool b) ∧ vs = [.bool b] := by
  intro fuel cs d ps h
  cases fuel with
  | zero => cases h
  | succ fuel =>
    unfold DataW.trod at h
    rw [hu] at h
    split at h <;> try (rename_i he; cases he; done)
    all_goals first | (cases h; done) | skip
    all_goals cases h; exact ⟨_, .bool _ .nil, _, rfl, rfl⟩

theorem reads_str {t : TypeId} (hu : P.underlying t = some .string) : Reads P enc sp held w t fun d vs => ∃ l : List UInt8, d = .lit (.string l) ∧ vs = [.str l] := by
  intro fuel cs d ps h
  cases fuel with
  | zero => cases h
  | succ fuel =>
    unfold DataW.trod at h
    rw [hu] at h
    split at h <;> try (rename_i he; cases he; done)
    all_goals first | (cases h; done) | skip
    split at h
    · cases h; exact ⟨_, .str _ .nil, _, rfl, rfl⟩
    · cases h

theorem flatten_rep {imm : Nat → Nat → Option Value} : ∀ (xs : List (List V)) (csl : List (List Value)), xs.length = csl.length → (∀ (i : Nat) (x : List V) (c : List Value), xs[i]? = some x → csl[i]? = some c → RepI imm x c) → RepI imm xs.flatten csl.flatten
  | [], [], _, _ => .nil
  | [], _ :: _, h, _ => by cases h
  | _ :: _, [], h, _ => by cases h
  | x :: xs, c :: csl, h, hr => by
    rw [List.flatten_cons, List.flatten_cons]
    exact RepI.append (flatten_rep xs csl (by simpa using h) fun i x c h1 h2 => hr (i + 1) x c (by simpa using h1) (by simpa using h2)) (hr 0 x c rfl rfl)

abbrev ReadsF (P : Program) (enc : TypeId × Value → H) (sp : Nat → Bool) (held : Bool) (w : World) (fuel : Nat) (t : TypeId) (Q : DataW H → List V → Prop) : Prop :=
  ∀ cs d ps, DataW.trod enc P w 0 sp held fuel t cs = some (d, ps) → ∃ vs, RepI (immW w) vs cs ∧ Q d vs
theorem readsF_slice {t e : TypeId} {fuel : Nat} (hu : P.underlying t = some (.slice e)) {Q : DataW H → List V → Prop} (he : ReadsF P enc sp held w fuel e Q) :
    ReadsF P enc sp held w (fuel + 1) t fun d vs => ∃ xs, vs = [.sl false (P.cellsOf e) xs] ∧ ((d = .nil ∧ xs = []) ∨ ∃ elems spare, d = .slice elems spare ∧ xs.length = elems.length ∧ ∀ (i : Nat) (d : DataW H) (x : List V), elems[i]? = some d → xs[i]? = some x → Q d x) := by
  intro cs d ps h
  unfold DataW.trod at h
  rw [hu] at h
  split at h <;> try (rename_i he; cases he; done)
  all_goals first | (cases h; exact ⟨_, .slnil _ .nil, _, rfl, .inl ⟨rfl, rfl⟩⟩) | (cases h; done) | skip
  rename_i e' a len cap hue
  cases hue
  split at h
  · rename_i hb
    obtain ⟨elems, h1, h⟩ := Option.bind_eq_some_iff.1 h
    obtain ⟨rest, h2, h⟩ := Option.map_eq_some_iff.1 h
    obtain ⟨rfl, rfl⟩ := Prod.mk.inj h
    obtain ⟨k1, k2⟩ := mapM_some h1
    rw [List.length_range] at k1
    -- the elements' cells
    have hex : ∀ n, n ≤ len → ∃ (csl : List (List Value)) (xs : List (List V)), csl.length = n ∧ xs.length = n ∧ (∀ (i : Nat) c, csl[i]? = some c → w.cells? 0 (a.add (i * P.cellsOf e)) (P.cellsOf e) = some c) ∧
        (∀ (i : Nat) (x : List V) (c : List Value), xs[i]? = some x → csl[i]? = some c → RepI (immW w) x c) ∧ ∀ (i : Nat) (d : DataW H × List MemPlace) (x : List V), elems[i]? = some d → xs[i]? = some x → Q d.1 x := by
      intro n
      induction n with
      | zero => intro _; exact ⟨[], [], rfl, rfl, fun i c h => by simp at h, fun i x c h => by simp at h, fun i d x _ h => by simp at h⟩
      | succ n ih =>
        intro hn
        obtain ⟨csl, xs, j1, j2, j3, j4, j5⟩ := ih (by omega)
        obtain ⟨y, g1, g2⟩ := k2 n n (by rw [List.getElem?_range (by omega)])
        obtain ⟨c, g3, g4⟩ := Option.bind_eq_some_iff.1 g2
        obtain ⟨x, g5, g6⟩ := he c y.1 y.2 (by rw [g4])
        refine ⟨csl ++ [c], xs ++ [x], by simp [j1], by simp [j2], ?_, ?_, ?_⟩
        · intro i c' hc'
          rcases Nat.lt_or_ge i n with hi | hi
          · rw [List.getElem?_append_left (by omega)] at hc'; exact j3 i c' hc'
          · rw [List.getElem?_append_right (by omega), j1] at hc'
            have : i = n := by
              rcases Nat.lt_or_ge n i with h' | h'
              · rw [List.getElem?_eq_none (by simp; omega)] at hc'; cases hc'
              · omega
            subst this; simp at hc'; subst hc'; exact g3
        · intro i x' c' hx' hc'
          rcases Nat.lt_or_ge i n with hi | hi
          · rw [List.getElem?_append_left (by omega)] at hc' hx'; exact j4 i x' c' hx' hc'
          · rw [List.getElem?_append_right (by omega), j1] at hc'
            rw [List.getElem?_append_right (by omega), j2] at hx'
            have : i = n := by
              rcases Nat.lt_or_ge n i with h' | h'
              · rw [List.getElem?_eq_none (by simp; omega)] at hc'; cases hc'
              · omega
            subst this; simp at hc' hx'; subst hc' hx'; exact g5
        · intro i d' x' hd' hx'
          rcases Nat.lt_or_ge i n with hi | hi
          · rw [List.getElem?_append_left (by omega)] at hx'; exact j5 i d' x' hd' hx'
          · rw [List.getElem?_append_right (by omega), j2] at hx'
            have : i = n := by
              rcases Nat.lt_or_ge n i with h' | h'
              · rw [List.getElem?_eq_none (by simp; omega)] at hx'; cases hx'
              · omega
            subst this; simp at hx'; subst hx'
            rw [g1] at hd'; cases hd'; exact g6
    obtain ⟨csl, xs, j1, j2, j3, j4, j5⟩ := hex len (Nat.le_refl _)
    have himm : ImmAt (immW w) a csl.flatten := flat_at (k := P.cellsOf e) fun i c hc => by
      obtain ⟨g1, g2⟩ := cells_imm (j3 i c hc)
      exact ⟨g1, fun j v hv => by rw [← Addr.add_add]; exact g2 j v hv⟩
    have hrep := flatten_rep xs csl (by rw [j1, j2]) j4
    have hxl : ∀ x ∈ xs, x.length = P.cellsOf e := by
      intro x hx
      obtain ⟨i, hi⟩ := List.mem_iff_getElem?.1 hx
      have hil : i < csl.length := by rw [j1, ← j2]; exact (List.getElem?_eq_some_iff.1 hi).1
      have hc := List.getElem?_eq_getElem hil
      rw [(j4 i x _ hi hc).length]
      exact (cells_imm (j3 i _ hc)).1
    have := RepI.sl (P.cellsOf e) xs a cap hxl himm hrep (by rw [j2]; exact hb.2.1) .nil
    rw [j2] at this
    refine ⟨_, this, xs, rfl, .inr ⟨_, _, rfl, by rw [List.length_map, k1, j2], fun i d x hd hx => ?_⟩⟩
    rw [List.getElem?_map] at hd
    obtain ⟨y, g1, rfl⟩ := Option.map_eq_some_iff.1 hd
    exact j5 i y x g1 hx
  · cases h

theorem reads_slice {t e : TypeId} (hu : P.underlying t = some (.slice e)) {Q : DataW H → List V → Prop} (he : Reads P enc sp held w e Q) :
    Reads P enc sp held w t fun d vs => ∃ xs, vs = [.sl false (P.cellsOf e) xs] ∧ ((d = .nil ∧ xs = []) ∨ ∃ elems spare, d = .slice elems spare ∧ xs.length = elems.length ∧ ∀ (i : Nat) (d : DataW H) (x : List V), elems[i]? = some d → xs[i]? = some x → Q d x) := by
  intro fuel
  cases fuel with
  | zero => intro cs d ps h; cases h
  | succ fuel => exact readsF_slice hu (he fuel)

/-- What an argument read, it reads behind the call. -/
theorem stays (hl : laidOutB P = true) {w' : World} (hb : Below w.heap.size w w') {ts : List TypeId} (ht : ts.all (fun t => P.readableRec t && decide (t < P.types.size)) = true) :
    ∀ {vs : List Value} {ds : List (DataW H)} {ps : List MemPlace}, DataW.TrodAll enc P w 0 (fun _ => true) true ts vs ds ps → DataW.TrodAll enc P w' 0 (fun b => decide (b < w.heap.size)) true ts vs ds ps := by
  induction ts with
  | nil =>
    intro vs ds ps h
    match vs, ds, h with
    | [], [], h => exact h
  | cons t ts ih =>
    intro vs ds ps h
    match vs, ds, h with
    | v :: vs, d :: ds, h =>
      obtain ⟨p, q, ⟨fuel, h1⟩, h2, rfl⟩ := h
      simp only [List.all_cons, Bool.and_eq_true, decide_eq_true_eq] at ht
      have hlt := DataW.trod_lt fuel t _ _ h1
      exact ⟨p, q, ⟨fuel, DataW.trod_stays (kids_book hl ht.1.1) (book_sized ht.1.1) (fun h => by cases h) ⟨ht.1.2, book_self t⟩ h1 (fun x hx => hb.same (hlt x hx)) (fun x hx => by simpa using hlt x hx)⟩, ih ht.2 h2, rfl⟩
end
end Go.Proofs.Ytdmnacjpgaopfaa.Vm
namespace Go.Proofs.Ytdmnacjpgaopfaa.Vm
open Go Go.RowKit Go.WideShapes

/-- What one value's reading weighs. -/
def Light {H : Type} (P : Program) (t : TypeId) (d : DataW H) : Prop := (d.weights P t).all (· ≤ reachBytes) = true
theorem light_each {H : Type} {P : Program} : ∀ {ts : List TypeId} {ds : List (DataW H)}, (DataW.weightsEach P ts ds).all (· ≤ reachBytes) = true → ∀ {j : Nat} {t : TypeId} {d : DataW H}, ts[j]? = some t → ds[j]? = some d → Light P t d
  | [], _, _, j, t, d, ht, _ => by simp at ht
  | _ :: _, [], _, j, t, d, _, hd => by simp at hd
  | t0 :: ts, d0 :: ds, h, j, t, d, ht, hd => by
    unfold DataW.weightsEach at h
    rw [List.all_append, Bool.and_eq_true] at h
    match j with
    | 0 => simp at ht hd; subst ht hd; exact h.1
    | j + 1 => exact light_each h.2 (j := j) (by simpa using ht) (by simpa using hd)
theorem light_all {H : Type} {P : Program} {e : TypeId} : ∀ {ds : List (DataW H)}, (DataW.weightsAll P e ds).all (· ≤ reachBytes) = true → ∀ d ∈ ds, Light P e d
  | [], _, d, hd => by cases hd
  | d0 :: ds, h, d, hd => by
    unfold DataW.weightsAll at h
    rw [List.all_append, Bool.and_eq_true] at h
    rcases List.mem_cons.1 hd with rfl | hd
    · exact h.1
    · exact light_all h.2 d hd
theorem light_slice {H : Type} {P : Program} {t e : TypeId} {elems spare : List (DataW H)} (hu : P.underlying t = some (.slice e)) (h : Light P t (.slice elems spare)) : elems.length * P.bytesOf e ≤ reachBytes ∧ ∀ d ∈ elems, Light P e d := by
  unfold Light at h
  simp only [DataW.weights, hu, List.all_cons, Bool.and_eq_true, decide_eq_true_eq, List.all_append] at h
  refine ⟨Nat.le_trans (Nat.mul_le_mul_right _ (Nat.le_add_right _ _)) h.1, light_all h.2.1⟩

theorem ex_list {α β : Type} {f : α → β} {p : α → Prop} : ∀ {xs : List β}, (∀ x ∈ xs, ∃ a, x = f a ∧ p a) → ∃ l : List α, xs = l.map f ∧ ∀ a ∈ l, p a
  | [], _ => ⟨[], rfl, fun _ h => by cases h⟩
  | x :: xs, h => by
    obtain ⟨a, rfl, ha⟩ := h x (List.mem_cons_self ..)
    obtain ⟨l, rfl, hl⟩ := ex_list fun y hy => h y (List.mem_cons_of_mem _ hy)
    exact ⟨a :: l, rfl, fun b hb => by
      rcases List.mem_cons.1 hb with rfl | hb
      · exact ha
      · exact hl b hb⟩

section
variable {P : Program} {w : World} {H : Type} {enc : TypeId × Value → H} {sp : Nat → Bool} {held : Bool}
theorem reads_sl {t e : TypeId} (hu : P.underlying t = some (.slice e)) {α : Type} {f : α → List V} {p : α → Prop} (hb : 1 ≤ P.bytesOf e) (he : Reads P enc sp held w e fun d vs => Light P e d → ∃ a, vs = f a ∧ p a) :
    Reads P enc sp held w t fun d vs => Light P t d → ∃ l : List α, vs = [.sl false (P.cellsOf e) (l.map f)] ∧ l.length ≤ reachBytes ∧ ∀ a ∈ l, p a := by
  intro fuel cs d ps h
  obtain ⟨vs, h1, xs, rfl, h2⟩ := reads_slice hu he fuel cs d ps h
  refine ⟨_, h1, fun hl => ?_⟩
  rcases h2 with ⟨rfl, rfl⟩ | ⟨elems, spare, rfl, h3, h4⟩
  · exact ⟨[], rfl, Nat.zero_le _, fun _ h => by cases h⟩
  · obtain ⟨k1, k2⟩ := light_slice hu hl
    obtain ⟨l, rfl, hp⟩ := ex_list (f := f) (p := p) (xs := xs) fun x hx => by
      obtain ⟨i, hi⟩ := List.mem_iff_getElem?.1 hx
      have hil : i < elems.length := by rw [← h3]; exact (List.getElem?_eq_some_iff.1 hi).1
      have hd := List.getElem?_eq_getElem hil
      exact h4 i _ x hd hi (k2 _ (List.getElem_mem hil))
    refine ⟨l, rfl, ?_, hp⟩
    rw [List.length_map] at h3
    rw [h3]
    exact Nat.le_trans (Nat.le_mul_of_pos_right _ hb) k1
theorem open_slice {t e : TypeId} {r : Reach} {b0 : Nat} {v : Value} {d : DataW H} {ps : List MemPlace} (hu : P.underlying t = some (.slice e)) (hval : Value.okWide P w r b0 t v) {Q : DataW H → List V → Prop} (hr : Reads P enc sp held w t Q)
    (hd : DataW.Trod enc P w 0 sp held t v d ps) : ∃ vs, RepI (immW w) vs [v] ∧ Q d vs := by
  obtain ⟨a, len, cap, rfl⟩ := okWide_slice hu hval
  obtain ⟨fuel, h⟩ := hd
  exact hr fuel _ d ps h
theorem open_intV {t : TypeId} {k : IntKind} {r : Reach} {b0 : Nat} {v : Value} {d : DataW H} {ps : List MemPlace} (hu : P.underlying t = some (.int k)) (hval : Value.okWide P w r b0 t v)
    (hd : DataW.Trod enc P w 0 sp held t v d ps) : ∃ n : Int, RepI (immW w) [.int k n] [v] ∧ d = .lit (.int k n) ∧ (Lit.int k n).wf = true := by
  obtain ⟨n, rfl⟩ := okWide_int hu hval
  obtain ⟨fuel, h⟩ := hd
  obtain ⟨vs, h1, n', h2, h3, h4⟩ := reads_int (w := w) (enc := enc) (sp := sp) (held := held) hu fuel _ d ps h
  subst h4
  have : n' = n := by
    cases h1; rfl
  subst this
  exact ⟨n', h1, h2, h3⟩
theorem open_strV {t : TypeId} {r : Reach} {b0 : Nat} {v : Value} {d : DataW H} {ps : List MemPlace} (hu : P.underlying t = some .string) (hval : Value.okWide P w r b0 t v)
    (hd : DataW.Trod enc P w 0 sp held t v d ps) : ∃ l : List UInt8, RepI (immW w) [.str l] [v] ∧ d = .lit (.string l) := by
  obtain ⟨n, rfl⟩ := okWide_string hu hval
  obtain ⟨fuel, h⟩ := hd
  obtain ⟨vs, h1, l, h2, h4⟩ := reads_str (w := w) (enc := enc) (sp := sp) (held := held) hu fuel _ d ps h
  subst h4
  exact ⟨l, h1, h2⟩
end
end Go.Proofs.Ytdmnacjpgaopfaa.Vm
