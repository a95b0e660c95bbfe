/-
The program's functions, as the value machine has them.
Parse: what must come of fixed calls.
Programs as the language has them, part 2: functions that turn nothing; bounds; which ones are the same.
Programs as the language has them, part 3: without places; which patterns are the same.
Programs as the language has them, part 4: how cells are looked at.
Programs as the language has them, part 5: which expressions are the same.
Programs as the language has them, part 6: data types, programs; which ones are the same.
Programs as the language has them, part 7: which ones have no places (the reference).
-/
import Derived.Test.YtpamkokbajmjkaaZ1
import Derived.Test.YtpamkokbajmjkaaZ2
set_option linter.unusedVariables false
set_option linter.unusedSimpArgs false
set_option linter.constructorNameAsVariable false
namespace Go.Proofs.Ytpamkokbajmjkaa.Vm
open Go

def v_l06_ParseStrips : VFunc := ⟨31, .seq (.region [qt 2 .box [.t 0] [0], qt 3 .box [.t 1] [1], qo 4 .mv [qb false]] [2, 3])
 (.seq (.regionD [5, 6] [qo 7 (.load 3 true) [.t 2], qt 8 (.call .al) [qf 19, .t 7] [7], qo 9 (.load 9 true) [.t 3], qt 10 (.call .al) [qf 20, .t 9] [9], qo 5 (.allocR 5 [.nilh 5, .sl true 5 [], .nilh 4]) [],
qo 6 (.allocR 6 [.int .i64 0, .str [], .int .i64 0, .sl true 1 [], .sl true 9 [], .sl true 7 [], .nilh 4, .int .i64 0, .int .i64 0]) [], qn (.storeP 3) [.t 5, .t 8] [8],
qn (.storeP 9) [.t 6, .t 10] [10]] [(2, 5), (3, 5), (2, 6), (3, 6), (5, 6)] [2, 3, 5, 6])
 (.seq (.region [qo 11 (.loadT 3 true) [.t 2], qo 12 (.load 3 true) [.t 5], qt 13 (.call .wr) [qf 11, .t 11, .t 12, qb false] [11, 12], qm 14 13, qg 15 (.loadT 3 true) [.t 5] [] 14 true,
qg 16 (.call .wr) [qf 21, .t 15] [15] 14 true, qo 17 .pick [.t 14, .t 16, qb false], qm 18 17, qg 19 (.loadT 9 true) [.t 3] [] 18 true, qg 20 (.load 9 true) [.t 6] [] 18 true,
qg 21 (.call .wr) [qf 22, .t 19, .t 20, qb false] [19, 20] 18 true, qo 22 .pick [.t 18, .t 21, qb false], qm 23 22, qg 24 (.loadT 9 true) [.t 6] [] 23 true,
qg 25 (.buildSl 9) [.t 24] [24] 23 true, qg 26 (.call .wr) [qf 23, .t 25] [25] 23 true, qo 27 .pick [.t 23, .t 26, qb false], qm 28 27, qg 29 (.call .wr) [qf 8] [] 28 true,
qo 30 .pick [.t 28, .t 29, qb false], qm 4 30] [4])
 (.ret))), [.tmp 4]⟩
def v_l06_known : VFunc := ⟨91, .seq (.region [qo 0 .mv [qb false]] [])
 (.seq (.region [qo 7 (.call .wr) [qf 9, .c (.str [102, 32, 120, 32, 61, 32, 120, 32, 43, 32, 49])], qt 6 .mv [.t 7] [7], qo 8 (.extract 0) [.t 6], qt 9 (.extract 1) [.t 6] [6],
qo 1 (.alloc [.nilh 5, .sl true 5 [], .nilh 4]) [], qo 2 (.alloc [.int .i64 0, .int .i64 0, .int .i64 0]) [], qn (.store 3) [.t 1, .t 8] [8], qn (.store 3) [.t 2, .t 9] []] [1, 2])
 (.seq (.region [qo 11 (.call .wr) [qf 9, .c (.str [102, 32, 61, 32])], qt 10 .mv [.t 11] [11], qo 12 (.extract 0) [.t 10], qt 13 (.extract 1) [.t 10] [10], qo 3 (.alloc [.nilh 5, .sl true 5 [], .nilh 4]) [],
qo 4 (.alloc [.int .i64 0, .int .i64 0, .int .i64 0]) [], qn (.store 3) [.t 3, .t 12] [12], qn (.store 3) [.t 4, .t 13] []] [1, 2, 4])
 (.seq (.seq (.region [qo 14 (.fieldAddr 0) [.t 2], qo 15 (.load 1 false) [.t 14], qo 16 (.bin .neq) [.t 15, qi 0], qm 17 16, qg 18 (.fieldAddr 2) [.t 1] [] 17 false, qg 19 (.load 1 false) [.t 18] [] 17 false,
qg 20 .len [.t 19] [] 17 false, qg 21 (.bin .neq) [.t 20, qi 1] [] 17 false, qo 22 .pick [.t 17, qb true, .t 21], qm 23 22, qg 24 (.fieldAddr 2) [.t 1] [] 23 false,
qg 25 (.load 1 false) [.t 24] [] 23 false, qg 26 (.indexAddr 4) [.t 25, qi 0] [] 23 false, qg 27 (.fieldAddr 1) [.t 26] [] 23 false, qg 28 (.load 1 false) [.t 27] [] 23 false,
qg 29 .len [.t 28] [] 23 false, qg 30 (.bin .neq) [.t 29, qi 1] [] 23 false, qo 31 .pick [.t 23, qb true, .t 30], qm 32 31, qg 33 (.fieldAddr 2) [.t 1] [] 32 false,
qg 34 (.load 1 false) [.t 33] [] 32 false, qg 35 (.indexAddr 4) [.t 34, qi 0] [] 32 false, qg 36 (.fieldAddr 1) [.t 35] [] 32 false, qg 37 (.load 1 false) [.t 36] [] 32 false,
qg 38 (.indexAddr 2) [.t 37, qi 0] [] 32 false, qg 39 (.fieldAddr 1) [.t 38] [] 32 false, qg 40 (.load 1 false) [.t 39] [] 32 false, qg 41 .len [.t 40] [] 32 false,
qg 42 (.bin .neq) [.t 41, qi 1] [] 32 false, qo 43 .pick [.t 32, qb true, .t 42]] [1, 4, 43])
 (.cond (.t 43)
 (.seq (.region [qo 0 .mv [qb false]] [0])
 (.ret))
 (.skip)))
 (.seq (.region [qo 44 (.fieldAddr 2) [.t 1], qo 45 (.load 1 false) [.t 44], qo 46 (.indexAddr 4) [.t 45, qi 0], qo 47 (.fieldAddr 1) [.t 46], qo 48 (.load 1 false) [.t 47],
qo 49 (.indexAddr 2) [.t 48, qi 0], qo 50 (.fieldAddr 1) [.t 49], qo 51 (.load 1 false) [.t 50], qo 52 (.indexAddr 10) [.t 51, qi 0], qo 53 (.fieldAddr 1) [.t 52],
qo 54 (.load 9 true) [.t 53], qo 5 (.alloc [.int .i64 0, .str [], .int .i64 0, .sl true 1 [], .sl true 9 [], .sl true 7 [], .nilh 4, .int .i64 0, .int .i64 0]) [],
qn (.store 9) [.t 5, .t 54] [54]] [1, 4, 5])
 (.seq (.region [qo 55 (.fieldAddr 2) [.t 1], qo 56 (.load 1 false) [.t 55], qo 57 (.indexAddr 4) [.t 56, qi 0], qo 58 (.fieldAddr 0) [.t 57], qo 59 (.load 1 false) [.t 58],
qo 60 (.bin .eql) [.t 59, .c (.str [102])], qm 61 60, qg 62 (.fieldAddr 0) [.t 5] [] 61 true, qg 63 (.load 1 false) [.t 62] [] 61 true, qg 64 (.bin .eql) [.t 63, qi 4] [] 61 true,
qo 65 .pick [.t 61, .t 64, qb false], qm 66 65, qg 67 (.fieldAddr 4) [.t 5] [] 66 true, qg 68 (.load 1 false) [.t 67] [] 66 true, qg 69 .len [.t 68] [] 66 true,
qg 70 (.bin .eql) [.t 69, qi 2] [] 66 true, qo 71 .pick [.t 66, .t 70, qb false], qm 72 71, qg 73 (.fieldAddr 4) [.t 5] [] 72 true, qg 74 (.load 1 false) [.t 73] [] 72 true,
qg 75 (.indexAddr 9) [.t 74, qi 1] [] 72 true, qg 76 (.fieldAddr 2) [.t 75] [] 72 true, qg 77 (.load 1 false) [.t 76] [] 72 true, qg 78 (.bin .eql) [.t 77, qi 1] [] 72 true,
qo 79 .pick [.t 72, .t 78, qb false], qm 80 79, qg 81 (.fieldAddr 7) [.t 5] [] 80 true, qg 82 (.load 2 true) [.t 81] [] 80 true,
qg 83 (.build [.int .i64 0, .int .i64 0] [(0, 1), (1, 1)]) [qi 1, qi 9] [] 80 true, qg 84 (.eqc false true [.i, .i]) [.t 82, .t 83] [] 80 true, qo 85 .pick [.t 80, .t 84, qb false], qm 86 85,
qg 87 (.fieldAddr 0) [.t 4] [] 86 true, qg 88 (.load 1 false) [.t 87] [] 86 true, qg 89 (.bin .eql) [.t 88, qi 60] [] 86 true, qo 90 .pick [.t 86, .t 89, qb false], qm 0 90] [0])
 (.ret)))))), [.tmp 0]⟩
def v_parse_Program : VFunc := ⟨55, .seq (.region [qo 2 (.alloc [.nilh 5, .sl true 5 [], .nilh 4]) [], qo 3 (.alloc [.int .i64 0, .int .i64 0, .int .i64 0]) []] [0, 2, 3])
 (.seq (.region [qm 7 0, qo 8 (.call .wr) [qf 25, .t 7], qo 4 (.alloc [.nilp]) [], qn (.store 1) [.t 4, .t 8] []] [2, 3, 4])
 (.seq (.region [qo 5 (.alloc [.nilh 5, .sl true 5 [], .nilh 4]) []] [2, 3, 4, 5])
 (.seq (.region [qo 9 (.load 1 false) [.t 4], qo 10 (.mkfn 27) [.t 4, .t 5], qo 11 (.call .wr) [qf 26, .t 9, .t 10]] [2, 3, 4, 5])
 (.seq (.region [qo 12 (.load 1 false) [.t 4], qo 13 (.call .wr) [qf 29, .t 12, .c (.str [125])]] [2, 3, 4, 5])
 (.seq (.region [qo 14 (.load 1 false) [.t 4], qo 15 (.call .wr) [qf 30, .t 14]] [2, 3, 4, 5])
 (.seq (.region [qo 16 (.fieldAddr 1) [.t 5], qo 17 (.load 1 false) [.t 16], qt 18 (.build [.sl true 5 [], .bool false, .int .i64 0, .int .i64 0, .int .i64 0] [(0, 1)]) [.t 17] [17], qt 19 .box [.t 18] [18],
qm 6 19] [2, 3, 4, 5, 6])
 (.seq (.seq (.region [qo 20 (.load 1 false) [.t 4], qo 21 .nilCheck [.t 20], qo 22 (.fieldAddr 2) [.t 21], qo 23 (.load 1 false) [.t 22], qo 24 .not [.t 23]] [2, 3, 4, 5, 6, 24])
 (.cond (.t 24)
 (.seq (.region [qm 25 6, qo 26 (.fieldAddr 2) [.t 5], qo 27 (.load 1 false) [.t 26], qt 28 (.call .wr) [qf 31, .t 25, .t 27] [27], qo 29 (.fieldAddr 2) [.t 5], qn (.store 1) [.t 29, .t 28] [28]] [2, 3, 4, 5, 6])
 (.regionD [] [qo 30 (.load 1 false) [.t 4], qo 31 (.load 1 false) [.t 4], qm 32 6, qo 33 .nilCheck [.t 32], qo 34 (.fieldAddr 1) [.t 33], qo 35 (.load 1 false) [.t 34], qm 36 6, qo 37 .nilCheck [.t 36],
qo 38 (.fieldAddr 2) [.t 37], qo 39 (.load 3 true) [.t 38], qo 40 .nilCheck [.t 30], qo 41 (.fieldAddr 2) [.t 40], qn (.storeP 1) [.t 41, .t 35] [], qo 42 .nilCheck [.t 31],
qo 43 (.fieldAddr 3) [.t 42], qn (.store 3) [.t 43, .t 39] []] [(4, 41)] [2, 3, 4, 5]))
 (.skip)))
 (.seq (.seq (.region [qo 44 (.load 1 false) [.t 4], qo 45 .nilCheck [.t 44], qo 46 (.fieldAddr 2) [.t 45], qo 47 (.load 1 false) [.t 46]] [2, 3, 4, 5, 47])
 (.cond (.t 47)
 (.seq (.regionD [] [qo 48 (.build [.nilh 5, .sl true 5 [], .nilh 4] []) [], qo 49 (.load 1 false) [.t 4], qo 50 .nilCheck [.t 49], qo 51 (.fieldAddr 3) [.t 50], qo 52 (.load 3 true) [.t 51],
qn (.storeP 3) [.t 2, .t 48] [48], qn (.store 3) [.t 3, .t 52] []] [(4, 2), (51, 2)] [2, 3])
 (.ret))
 (.skip)))
 (.seq (.region [qo 53 (.loadT 3 true) [.t 5], qo 54 (.build [.int .i64 0, .int .i64 0, .int .i64 0] []) [], qn (.store 3) [.t 2, .t 53] [53], qn (.store 3) [.t 3, .t 54] []] [2, 3])
 (.ret)))))))))), [.cell 2 3 true, .cell 3 3 true]⟩
def v_r06_SamePrograms : VFunc := ⟨77, .seq (.region [qt 3 .box [.t 0] [0], qt 4 .box [.t 1] [1], qo 6 .mv [qb false]] [2, 3, 4])
 (.seq (.seq (.region [qo 10 (.fieldAddr 1) [.t 3], qo 11 (.load 1 false) [.t 10], qo 12 .len [.t 11], qo 13 (.fieldAddr 1) [.t 4], qo 14 (.load 1 false) [.t 13], qo 15 .len [.t 14],
qo 16 (.bin .neq) [.t 12, .t 15]] [2, 3, 4, 16])
 (.cond (.t 16)
 (.seq (.region [qo 6 .mv [qb false]] [6])
 (.ret))
 (.skip)))
 (.seq (.seq (.region [qo 7 .mv [qi 0]] [2, 3, 4, 7])
 (.block 0 (.loop (.seq (.seq (.region [qm 17 7, qo 18 (.fieldAddr 1) [.t 3], qo 19 (.load 1 false) [.t 18], qo 20 .len [.t 19], qo 21 (.bin .lss) [.t 17, .t 20]] [2, 3, 4, 7, 21])
 (.cond (.t 21)
 (.skip)
 (.exit 0)))
 (.seq (.block 1 (.seq (.regionD [8, 9] [qo 24 (.fieldAddr 1) [.t 3], qo 25 (.load 1 false) [.t 24], qm 26 7, qo 27 (.indexAddr 5) [.t 25, .t 26], qo 28 (.load 5 true) [.t 27], qo 29 (.fieldAddr 1) [.t 4],
qo 30 (.load 1 false) [.t 29], qm 31 7, qo 32 (.indexAddr 5) [.t 30, .t 31], qo 33 (.loadC 5 true) [.t 32], qo 8 (.allocR 8 [.str [], .int .i64 0, .int .i64 0, .int .i64 0, .int .i64 0]) [],
qo 9 (.allocR 9 [.str [], .int .i64 0, .int .i64 0, .int .i64 0, .int .i64 0]) [], qn (.storeP 5) [.t 8, .t 28] [], qn (.storeP 5) [.t 9, .t 33] []] [(24, 8), (27, 8), (29, 8), (24, 9), (27, 9), (29, 9), (8, 9)] [2, 3, 4, 7, 8, 9])
 (.seq (.region [qo 34 (.fieldAddr 0) [.t 8], qo 35 (.load 1 false) [.t 34], qo 36 (.fieldAddr 0) [.t 9], qo 37 (.load 1 false) [.t 36], qo 38 (.bin .neq) [.t 35, .t 37], qm 39 38,
qg 40 (.fieldAddr 1) [.t 8] [] 39 false, qg 41 (.load 1 false) [.t 40] [] 39 false, qg 42 (.fieldAddr 1) [.t 9] [] 39 false, qg 43 (.load 1 false) [.t 42] [] 39 false,
qg 44 (.bin .neq) [.t 41, .t 43] [] 39 false, qo 45 .pick [.t 39, qb true, .t 44], qm 46 45, qg 47 (.fieldAddr 2) [.t 8] [] 46 false, qg 48 (.load 1 false) [.t 47] [] 46 false,
qg 49 (.fieldAddr 2) [.t 9] [] 46 false, qg 50 (.load 1 false) [.t 49] [] 46 false, qg 51 (.bin .neq) [.t 48, .t 50] [] 46 false, qo 52 .pick [.t 46, qb true, .t 51], qm 53 52,
qv 54 2 53 false, qv 55 54 53 false, qg 56 (.fieldAddr 3) [.t 8] [] 55 true, qg 57 (.load 2 true) [.t 56] [] 55 true, qg 58 (.fieldAddr 3) [.t 9] [] 55 true,
qg 59 (.load 2 true) [.t 58] [] 55 true, qg 60 (.eqc true true [.i, .i]) [.t 57, .t 59] [] 55 true, qg 61 .pick [.t 55, .t 60, qb false] [] 53 false, qo 62 .pick [.t 53, qb true, .t 61]] [2, 3, 4, 7, 62])
 (.cond (.t 62)
 (.seq (.region [qo 6 .mv [qb false]] [6])
 (.ret))
 (.skip)))))
 (.region [qm 22 7, qo 23 (.bin .add) [.t 22, qi 1], qm 7 23] [2, 3, 4, 7]))))))
 (.seq (.region [qo 63 (.fieldAddr 0) [.t 3], qo 64 (.load 1 false) [.t 63], qo 65 (.fieldAddr 0) [.t 4], qo 66 (.load 1 false) [.t 65], qm 67 2, qt 68 (.call .wr) [qf 32, .t 64, .t 66, .t 67] [64, 66],
qm 69 68, qg 70 (.fieldAddr 2) [.t 3] [] 69 true, qg 71 (.load 1 false) [.t 70] [] 69 true, qg 72 (.fieldAddr 2) [.t 4] [] 69 true, qg 73 (.load 1 false) [.t 72] [] 69 true, qv 74 2 69 true,
qg 75 (.call .wr) [qf 33, .t 71, .t 73, .t 74] [71, 73] 69 true, qo 76 .pick [.t 69, .t 75, qb false], qm 6 76] [6])
 (.ret)))), [.tmp 6]⟩
def v_parse_Strip : VFunc := ⟨64, .seq (.region [qt 1 .box [.t 0] [0], qo 2 (.alloc [.nilh 5, .sl true 5 [], .nilh 4]) []] [1, 2])
 (.seq (.region [qo 3 (.alloc [.nilh 5, .sl true 5 [], .nilh 4]) []] [1, 2, 3])
 (.seq (.seq (.region [qo 11 (.fieldAddr 0) [.t 1], qo 12 (.load 1 false) [.t 11], qo 13 .len [.t 12], qo 14 .mv [qi 0]] [1, 2, 3, 12, 13, 14])
 (.block 0 (.loop (.seq (.region [qo 15 (.bin .lss) [.t 14, .t 13]] [1, 2, 3, 12, 13, 14, 15])
 (.seq (.cond (.t 15)
 (.skip)
 (.exit 0))
 (.seq (.block 1 (.seq (.region [qo 16 (.indexAddr 5) [.t 12, .t 14], qo 17 (.load 5 true) [.t 16], qo 5 (.alloc [.str [], .sl true 1 [], .sl true 4 [], .int .i64 0, .int .i64 0]) [], qn (.store 5) [.t 5, .t 17] [17]] [1, 2, 3, 5, 12, 13, 14])
 (.seq (.region [qo 18 (.build [.int .i64 0, .int .i64 0] []) [], qo 19 (.fieldAddr 3) [.t 5], qn (.store 2) [.t 19, .t 18] []] [1, 2, 3, 5, 12, 13, 14])
 (.seq (.region [qo 6 .mv [.c (.sl true 4 [])]] [1, 2, 3, 5, 6, 12, 13, 14])
 (.seq (.seq (.region [qo 20 (.fieldAddr 2) [.t 5], qo 21 (.load 1 false) [.t 20], qo 22 .len [.t 21], qo 23 .mv [qi 0]] [1, 2, 3, 5, 6, 12, 13, 14, 21, 22, 23])
 (.block 2 (.loop (.seq (.region [qo 24 (.bin .lss) [.t 23, .t 22]] [1, 2, 3, 5, 6, 12, 13, 14, 21, 22, 23, 24])
 (.seq (.cond (.t 24)
 (.skip)
 (.exit 2))
 (.seq (.block 3 (.seq (.region [qo 25 (.indexAddr 4) [.t 21, .t 23], qo 26 (.load 4 true) [.t 25], qo 8 (.alloc [.str [], .sl true 4 [], .int .i64 0, .int .i64 0]) [], qn (.store 4) [.t 8, .t 26] [26]] [1, 2, 3, 5, 6, 8, 12, 13, 14, 21, 22, 23])
 (.seq (.region [qo 27 (.build [.int .i64 0, .int .i64 0] []) [], qo 28 (.fieldAddr 2) [.t 8], qn (.store 2) [.t 28, .t 27] []] [1, 2, 3, 5, 6, 8, 12, 13, 14, 21, 22, 23])
 (.region [qt 29 .mv [.t 6] [6], qo 30 (.loadT 4 true) [.t 8], qt 31 (.buildSl 4) [.t 30] [30], qt 32 (.append 4 56) [.t 29, .t 31] [29], qt 6 .mv [.t 32] [32]] [1, 2, 3, 5, 6, 12, 13, 14, 21, 22, 23]))))
 (.region [qo 33 (.bin .add) [.t 23, qi 1], qm 23 33] [1, 2, 3, 5, 6, 12, 13, 14, 21, 22, 23])))))))
 (.seq (.region [qt 34 .mv [.t 6] [6], qo 35 (.fieldAddr 2) [.t 5], qn (.store 1) [.t 35, .t 34] [34]] [1, 2, 3, 5, 12, 13, 14])
 (.region [qo 36 (.fieldAddr 0) [.t 3], qo 37 (.load 1 false) [.t 36], qo 38 (.loadT 5 true) [.t 5], qt 39 (.buildSl 5) [.t 38] [38], qo 40 (.appendH 5 80) [.t 37, .t 39], qo 41 (.fieldAddr 0) [.t 3],
qn (.store 1) [.t 41, .t 40] [40]] [1, 2, 3, 12, 13, 14])))))))
 (.region [qo 42 (.bin .add) [.t 14, qi 1], qm 14 42] [1, 2, 3, 12, 13, 14])))))))
 (.seq (.seq (.region [qo 43 (.fieldAddr 1) [.t 1], qo 44 (.load 1 false) [.t 43], qo 45 .len [.t 44], qo 46 .mv [qi 0]] [1, 2, 3, 44, 45, 46])
 (.block 4 (.loop (.seq (.region [qo 47 (.bin .lss) [.t 46, .t 45]] [1, 2, 3, 44, 45, 46, 47])
 (.seq (.cond (.t 47)
 (.skip)
 (.exit 4))
 (.seq (.block 5 (.seq (.region [qo 48 (.indexAddr 5) [.t 44, .t 46], qo 49 (.load 5 true) [.t 48], qo 10 (.alloc [.str [], .int .i64 0, .int .i64 0, .int .i64 0, .int .i64 0]) [], qn (.store 5) [.t 10, .t 49] []] [1, 2, 3, 10, 44, 45, 46])
 (.seq (.region [qo 50 (.build [.int .i64 0, .int .i64 0] []) [], qo 51 (.fieldAddr 3) [.t 10], qn (.store 2) [.t 51, .t 50] []] [1, 2, 3, 10, 44, 45, 46])
 (.region [qo 52 (.fieldAddr 1) [.t 3], qo 53 (.loadT 1 false) [.t 52], qo 54 (.load 5 true) [.t 10], qo 55 (.buildSl 5) [.t 54], qt 56 (.append 5 48) [.t 53, .t 55] [53], qo 57 (.fieldAddr 1) [.t 3],
qn (.store 1) [.t 57, .t 56] [56]] [1, 2, 3, 44, 45, 46]))))
 (.region [qo 58 (.bin .add) [.t 46, qi 1], qm 46 58] [1, 2, 3, 44, 45, 46])))))))
 (.seq (.region [qo 59 (.fieldAddr 2) [.t 1], qo 60 (.load 1 false) [.t 59], qt 61 (.call .wr) [qf 47, .t 60] [60], qo 62 (.fieldAddr 2) [.t 3], qn (.store 1) [.t 62, .t 61] [61]] [2, 3])
 (.seq (.region [qo 63 (.loadT 3 true) [.t 3], qn (.store 3) [.t 2, .t 63] [63]] [2])
 (.ret)))))), [.cell 2 3 true]⟩
def v_parse_Bare : VFunc := ⟨54, .seq (.region [qt 1 .box [.t 0] [0], qo 2 (.alloc [.int .i64 0, .str [], .int .i64 0, .sl true 1 [], .sl true 9 [], .sl true 7 [], .nilh 4, .int .i64 0, .int .i64 0]) []] [1, 2])
 (.seq (.region [qo 9 (.build [.int .i64 0, .int .i64 0] []) [], qo 10 (.fieldAddr 7) [.t 1], qn (.store 2) [.t 10, .t 9] []] [1, 2])
 (.seq (.region [qo 3 .mv [.c (.sl true 9 [])]] [1, 2, 3])
 (.seq (.seq (.region [qo 11 (.fieldAddr 4) [.t 1], qo 12 (.load 1 false) [.t 11], qo 13 .len [.t 12], qo 14 .mv [qi 0]] [1, 2, 3, 12, 13, 14])
 (.block 0 (.loop (.seq (.region [qo 15 (.bin .lss) [.t 14, .t 13]] [1, 2, 3, 12, 13, 14, 15])
 (.seq (.cond (.t 15)
 (.skip)
 (.exit 0))
 (.seq (.block 1 (.seq (.region [qo 16 (.indexAddr 9) [.t 12, .t 14], qo 17 (.load 9 true) [.t 16],
qo 5 (.alloc [.int .i64 0, .str [], .int .i64 0, .sl true 1 [], .sl true 9 [], .sl true 7 [], .nilh 4, .int .i64 0, .int .i64 0]) [], qn (.store 9) [.t 5, .t 17] [17]] [1, 2, 3, 5, 12, 13, 14])
 (.region [qt 18 .mv [.t 3] [3], qo 19 (.loadT 9 true) [.t 5], qt 20 (.call .wr) [qf 20, .t 19] [19], qt 21 (.buildSl 9) [.t 20] [20], qt 22 (.append 9 144) [.t 18, .t 21] [18], qt 3 .mv [.t 22] [22]] [1, 2, 3, 12, 13, 14])))
 (.region [qo 23 (.bin .add) [.t 14, qi 1], qm 14 23] [1, 2, 3, 12, 13, 14])))))))
 (.seq (.region [qt 24 .mv [.t 3] [3], qo 25 (.fieldAddr 4) [.t 1], qn (.store 1) [.t 25, .t 24] [24]] [1, 2])
 (.seq (.region [qo 6 .mv [.c (.sl true 7 [])]] [1, 2, 6])
 (.seq (.seq (.region [qo 26 (.fieldAddr 5) [.t 1], qo 27 (.load 1 false) [.t 26], qo 28 .len [.t 27], qo 29 .mv [qi 0]] [1, 2, 6, 27, 28, 29])
 (.block 2 (.loop (.seq (.region [qo 30 (.bin .lss) [.t 29, .t 28]] [1, 2, 6, 27, 28, 29, 30])
 (.seq (.cond (.t 30)
 (.skip)
 (.exit 2))
 (.seq (.block 3 (.seq (.region [qo 31 (.indexAddr 7) [.t 27, .t 29], qo 32 (.load 7 true) [.t 31], qo 8 (.alloc [.int .i64 0, .str [], .int .i64 0, .sl true 6 [], .int .i64 0, .int .i64 0, .sl true 10 []]) [],
qn (.store 7) [.t 8, .t 32] [32]] [1, 2, 6, 8, 27, 28, 29])
 (.region [qt 33 .mv [.t 6] [6], qo 34 (.fieldAddr 0) [.t 8], qo 35 (.load 6 true) [.t 34], qt 36 (.buildSl 6) [.t 35] [35], qt 37 (.call .al) [qf 48, .t 36] [36], qo 38 (.indexAddr 6) [.t 37, qi 0],
qo 39 (.load 6 true) [.t 38], qo 40 (.fieldAddr 6) [.t 8], qo 41 (.load 1 false) [.t 40], qt 42 (.call .al) [qf 49, .t 41] [41],
qt 43 (.build [.int .i64 0, .str [], .int .i64 0, .sl true 6 [], .int .i64 0, .int .i64 0, .sl true 10 []] [(0, 6), (6, 1)]) [.t 39, .t 42] [39, 42], qt 44 (.buildSl 7) [.t 43] [43],
qt 45 (.append 7 96) [.t 33, .t 44] [33], qt 6 .mv [.t 45] [45]] [1, 2, 6, 27, 28, 29])))
 (.region [qo 46 (.bin .add) [.t 29, qi 1], qm 29 46] [1, 2, 6, 27, 28, 29])))))))
 (.seq (.region [qt 47 .mv [.t 6] [6], qo 48 (.fieldAddr 5) [.t 1], qn (.store 1) [.t 48, .t 47] [47]] [1, 2])
 (.seq (.region [qo 49 (.fieldAddr 6) [.t 1], qo 50 (.load 1 false) [.t 49], qt 51 (.call .wr) [qf 47, .t 50] [50], qo 52 (.fieldAddr 6) [.t 1], qn (.store 1) [.t 52, .t 51] [51]] [1, 2])
 (.seq (.region [qo 53 (.loadT 9 true) [.t 1], qn (.store 9) [.t 2, .t 53] [53]] [2])
 (.ret)))))))))), [.cell 2 9 true]⟩
def v_r06_Bare : VFunc := ⟨64, .seq (.region [qt 1 .box [.t 0] [0], qo 2 .mv [qb false]] [1])
 (.seq (.region [qo 7 (.load 3 true) [.t 1], qo 3 (.alloc [.nilh 5, .sl true 5 [], .nilh 4]) [], qn (.store 3) [.t 3, .t 7] [7]] [1, 3])
 (.seq (.seq (.region [qo 4 .mv [qi 0]] [1, 3, 4])
 (.block 0 (.loop (.seq (.seq (.region [qm 8 4, qo 9 (.fieldAddr 0) [.t 1], qo 10 (.load 1 false) [.t 9], qo 11 .len [.t 10], qo 12 (.bin .lss) [.t 8, .t 11]] [1, 3, 4, 12])
 (.cond (.t 12)
 (.skip)
 (.exit 0)))
 (.seq (.block 1 (.seq (.seq (.region [qo 15 (.fieldAddr 0) [.t 1], qo 16 (.load 1 false) [.t 15], qm 17 4, qo 18 (.indexAddr 5) [.t 16, .t 17], qo 19 (.fieldAddr 3) [.t 18], qo 20 (.load 2 true) [.t 19],
qo 21 (.build [.int .i64 0, .int .i64 0] []) [], qo 22 (.eqc true true [.i, .i]) [.t 20, .t 21]] [1, 3, 4, 22])
 (.cond (.t 22)
 (.seq (.region [qo 2 .mv [qb false]] [2])
 (.ret))
 (.skip)))
 (.seq (.region [qo 5 .mv [qi 0]] [1, 3, 4, 5])
 (.block 2 (.loop (.seq (.seq (.region [qm 23 5, qo 24 (.fieldAddr 0) [.t 1], qo 25 (.load 1 false) [.t 24], qm 26 4, qo 27 (.indexAddr 5) [.t 25, .t 26], qo 28 (.fieldAddr 2) [.t 27], qo 29 (.load 1 false) [.t 28],
qo 30 .len [.t 29], qo 31 (.bin .lss) [.t 23, .t 30]] [1, 3, 4, 5, 31])
 (.cond (.t 31)
 (.skip)
 (.exit 2)))
 (.seq (.block 3 (.seq (.region [qo 34 (.fieldAddr 0) [.t 1], qo 35 (.load 1 false) [.t 34], qm 36 4, qo 37 (.indexAddr 5) [.t 35, .t 36], qo 38 (.fieldAddr 2) [.t 37], qo 39 (.load 1 false) [.t 38], qm 40 5,
qo 41 (.indexAddr 4) [.t 39, .t 40], qo 42 (.fieldAddr 2) [.t 41], qo 43 (.load 2 true) [.t 42], qo 44 (.build [.int .i64 0, .int .i64 0] []) [],
qo 45 (.eqc true true [.i, .i]) [.t 43, .t 44]] [1, 3, 4, 5, 45])
 (.cond (.t 45)
 (.seq (.region [qo 2 .mv [qb false]] [2])
 (.ret))
 (.skip))))
 (.region [qm 32 5, qo 33 (.bin .add) [.t 32, qi 1], qm 5 33] [1, 3, 4, 5]))))))))
 (.region [qm 13 4, qo 14 (.bin .add) [.t 13, qi 1], qm 4 14] [1, 3, 4]))))))
 (.seq (.seq (.region [qo 6 .mv [qi 0]] [1, 3, 6])
 (.block 4 (.loop (.seq (.seq (.region [qm 46 6, qo 47 (.fieldAddr 1) [.t 1], qo 48 (.load 1 false) [.t 47], qo 49 .len [.t 48], qo 50 (.bin .lss) [.t 46, .t 49]] [1, 3, 6, 50])
 (.cond (.t 50)
 (.skip)
 (.exit 4)))
 (.seq (.block 5 (.seq (.region [qo 53 (.fieldAddr 1) [.t 1], qo 54 (.load 1 false) [.t 53], qm 55 6, qo 56 (.indexAddr 5) [.t 54, .t 55], qo 57 (.fieldAddr 3) [.t 56], qo 58 (.load 2 true) [.t 57],
qo 59 (.build [.int .i64 0, .int .i64 0] []) [], qo 60 (.eqc true true [.i, .i]) [.t 58, .t 59]] [1, 3, 6, 60])
 (.cond (.t 60)
 (.seq (.region [qo 2 .mv [qb false]] [2])
 (.ret))
 (.skip))))
 (.region [qm 51 6, qo 52 (.bin .add) [.t 51, qi 1], qm 6 52] [1, 3, 6]))))))
 (.seq (.region [qo 61 (.fieldAddr 2) [.t 3], qo 62 (.load 1 false) [.t 61], qt 63 (.call .wr) [qf 50, .t 62] [62], qm 2 63] [2])
 (.ret))))), [.tmp 2]⟩
def v_r06_SameExpr : VFunc := ⟨129, .seq (.region [qt 3 .box [.t 0] [0], qt 4 .box [.t 1] [1], qo 6 .mv [qb false]] [2, 3, 4])
 (.seq (.seq (.region [qo 9 (.fieldAddr 0) [.t 3], qo 10 (.load 1 false) [.t 9], qo 11 (.fieldAddr 0) [.t 4], qo 12 (.load 1 false) [.t 11], qo 13 (.bin .neq) [.t 10, .t 12], qm 14 13,
qg 15 (.fieldAddr 1) [.t 3] [] 14 false, qg 16 (.load 1 false) [.t 15] [] 14 false, qg 17 (.fieldAddr 1) [.t 4] [] 14 false, qg 18 (.load 1 false) [.t 17] [] 14 false,
qg 19 (.bin .neq) [.t 16, .t 18] [] 14 false, qo 20 .pick [.t 14, qb true, .t 19], qm 21 20, qg 22 (.fieldAddr 2) [.t 3] [] 21 false, qg 23 (.load 1 false) [.t 22] [] 21 false,
qg 24 (.fieldAddr 2) [.t 4] [] 21 false, qg 25 (.load 1 false) [.t 24] [] 21 false, qg 26 (.bin .neq) [.t 23, .t 25] [] 21 false, qo 27 .pick [.t 21, qb true, .t 26], qm 28 27,
qv 29 2 28 false, qv 30 29 28 false, qg 31 (.fieldAddr 7) [.t 3] [] 30 true, qg 32 (.load 2 true) [.t 31] [] 30 true, qg 33 (.fieldAddr 7) [.t 4] [] 30 true,
qg 34 (.load 2 true) [.t 33] [] 30 true, qg 35 (.eqc true true [.i, .i]) [.t 32, .t 34] [] 30 true, qg 36 .pick [.t 30, .t 35, qb false] [] 28 false, qo 37 .pick [.t 28, qb true, .t 36],
qm 38 37, qg 39 (.fieldAddr 3) [.t 3] [] 38 false, qg 40 (.load 1 false) [.t 39] [] 38 false, qg 41 .len [.t 40] [] 38 false, qg 42 (.fieldAddr 3) [.t 4] [] 38 false,
qg 43 (.load 1 false) [.t 42] [] 38 false, qg 44 .len [.t 43] [] 38 false, qg 45 (.bin .neq) [.t 41, .t 44] [] 38 false, qo 46 .pick [.t 38, qb true, .t 45], qm 47 46,
qg 48 (.fieldAddr 5) [.t 3] [] 47 false, qg 49 (.load 1 false) [.t 48] [] 47 false, qg 50 .len [.t 49] [] 47 false, qg 51 (.fieldAddr 5) [.t 4] [] 47 false,
qg 52 (.load 1 false) [.t 51] [] 47 false, qg 53 .len [.t 52] [] 47 false, qg 54 (.bin .neq) [.t 50, .t 53] [] 47 false, qo 55 .pick [.t 47, qb true, .t 54]] [2, 3, 4, 55])
 (.cond (.t 55)
 (.seq (.region [qo 6 .mv [qb false]] [6])
 (.ret))
 (.skip)))
 (.seq (.seq (.region [qo 7 .mv [qi 0]] [2, 3, 4, 7])
 (.block 0 (.loop (.seq (.seq (.region [qm 56 7, qo 57 (.fieldAddr 3) [.t 3], qo 58 (.load 1 false) [.t 57], qo 59 .len [.t 58], qo 60 (.bin .lss) [.t 56, .t 59]] [2, 3, 4, 7, 60])
 (.cond (.t 60)
 (.skip)
 (.exit 0)))
 (.seq (.block 1 (.seq (.region [qo 63 (.fieldAddr 3) [.t 3], qo 64 (.load 1 false) [.t 63], qm 65 7, qo 66 (.indexAddr 1) [.t 64, .t 65], qo 67 (.load 1 false) [.t 66], qo 68 (.fieldAddr 3) [.t 4],
qo 69 (.load 1 false) [.t 68], qm 70 7, qo 71 (.indexAddr 1) [.t 69, .t 70], qo 72 (.load 1 false) [.t 71], qo 73 (.bin .neq) [.t 67, .t 72]] [2, 3, 4, 7, 73])
 (.cond (.t 73)
 (.seq (.region [qo 6 .mv [qb false]] [6])
 (.ret))
 (.skip))))
 (.region [qm 61 7, qo 62 (.bin .add) [.t 61, qi 1], qm 7 62] [2, 3, 4, 7]))))))
 (.seq (.seq (.region [qo 8 .mv [qi 0]] [2, 3, 4, 8])
 (.block 2 (.loop (.seq (.seq (.region [qm 74 8, qo 75 (.fieldAddr 5) [.t 3], qo 76 (.load 1 false) [.t 75], qo 77 .len [.t 76], qo 78 (.bin .lss) [.t 74, .t 77]] [2, 3, 4, 8, 78])
 (.cond (.t 78)
 (.skip)
 (.exit 2)))
 (.seq (.block 3 (.seq (.region [qo 81 (.fieldAddr 5) [.t 3], qo 82 (.load 1 false) [.t 81], qm 83 8, qo 84 (.indexAddr 7) [.t 82, .t 83], qo 85 (.fieldAddr 0) [.t 84], qo 86 (.load 6 true) [.t 85],
qt 87 (.buildSl 6) [.t 86] [86], qo 88 (.fieldAddr 5) [.t 4], qo 89 (.load 1 false) [.t 88], qm 90 8, qo 91 (.indexAddr 7) [.t 89, .t 90], qo 92 (.fieldAddr 0) [.t 91],
qo 93 (.load 6 true) [.t 92], qt 94 (.buildSl 6) [.t 93] [93], qm 95 2, qt 96 (.call .wr) [qf 51, .t 87, .t 94, .t 95] [87, 94], qo 97 .not [.t 96], qm 98 97,
qg 99 (.fieldAddr 5) [.t 3] [] 98 false, qg 100 (.load 1 false) [.t 99] [] 98 false, qv 101 8 98 false, qg 102 (.indexAddr 7) [.t 100, .t 101] [] 98 false,
qg 103 (.fieldAddr 6) [.t 102] [] 98 false, qg 104 (.load 1 false) [.t 103] [] 98 false, qg 105 (.fieldAddr 5) [.t 4] [] 98 false, qg 106 (.load 1 false) [.t 105] [] 98 false,
qv 107 8 98 false, qg 108 (.indexAddr 7) [.t 106, .t 107] [] 98 false, qg 109 (.fieldAddr 6) [.t 108] [] 98 false, qg 110 (.load 1 false) [.t 109] [] 98 false, qv 111 2 98 false,
qg 112 (.call .wr) [qf 52, .t 104, .t 110, .t 111] [104, 110] 98 false, qg 113 .not [.t 112] [] 98 false, qo 114 .pick [.t 98, qb true, .t 113]] [2, 3, 4, 8, 114])
 (.cond (.t 114)
 (.seq (.region [qo 6 .mv [qb false]] [6])
 (.ret))
 (.skip))))
 (.region [qm 79 8, qo 80 (.bin .add) [.t 79, qi 1], qm 8 80] [2, 3, 4, 8]))))))
 (.seq (.region [qo 115 (.fieldAddr 4) [.t 3], qo 116 (.load 1 false) [.t 115], qo 117 (.fieldAddr 4) [.t 4], qo 118 (.load 1 false) [.t 117], qm 119 2,
qt 120 (.call .wr) [qf 53, .t 116, .t 118, .t 119] [116, 118], qm 121 120, qg 122 (.fieldAddr 6) [.t 3] [] 121 true, qg 123 (.load 1 false) [.t 122] [] 121 true,
qg 124 (.fieldAddr 6) [.t 4] [] 121 true, qg 125 (.load 1 false) [.t 124] [] 121 true, qv 126 2 121 true, qg 127 (.call .wr) [qf 33, .t 123, .t 125, .t 126] [123, 125] 121 true,
qo 128 .pick [.t 121, .t 127, qb false], qm 6 128] [6])
 (.ret))))), [.tmp 6]⟩
def v_r06_BareExprs : VFunc := ⟨58, .seq (.region [qo 2 .mv [qb false]] [0])
 (.seq (.seq (.region [qo 3 .mv [qi 0]] [0, 3])
 (.block 0 (.loop (.seq (.seq (.region [qm 6 3, qm 7 0, qo 8 .len [.t 7], qo 9 (.bin .lss) [.t 6, .t 8]] [0, 3, 9])
 (.cond (.t 9)
 (.skip)
 (.exit 0)))
 (.seq (.block 1 (.seq (.region [qm 12 0, qm 13 3, qo 14 (.indexAddr 9) [.t 12, .t 13], qo 15 (.load 9 true) [.t 14],
qo 4 (.alloc [.int .i64 0, .str [], .int .i64 0, .sl true 1 [], .sl true 9 [], .sl true 7 [], .nilh 4, .int .i64 0, .int .i64 0]) [], qn (.store 9) [.t 4, .t 15] [15]] [0, 3, 4])
 (.seq (.seq (.region [qo 16 (.fieldAddr 7) [.t 4], qo 17 (.load 2 true) [.t 16], qo 18 (.build [.int .i64 0, .int .i64 0] []) [], qo 19 (.eqc true true [.i, .i]) [.t 17, .t 18], qm 20 19,
qg 21 (.fieldAddr 4) [.t 4] [] 20 false, qg 22 (.load 1 false) [.t 21] [] 20 false, qg 23 (.call .wr) [qf 23, .t 22] [22] 20 false, qg 24 .not [.t 23] [] 20 false,
qo 25 .pick [.t 20, qb true, .t 24], qm 26 25, qg 27 (.fieldAddr 6) [.t 4] [] 26 false, qg 28 (.load 1 false) [.t 27] [] 26 false, qg 29 (.call .wr) [qf 50, .t 28] [28] 26 false,
qg 30 .not [.t 29] [] 26 false, qo 31 .pick [.t 26, qb true, .t 30]] [0, 3, 4, 31])
 (.cond (.t 31)
 (.seq (.region [qo 2 .mv [qb false]] [2])
 (.ret))
 (.skip)))
 (.seq (.region [qo 5 .mv [qi 0]] [0, 3, 4, 5])
 (.block 2 (.loop (.seq (.seq (.region [qm 32 5, qo 33 (.fieldAddr 5) [.t 4], qo 34 (.load 1 false) [.t 33], qo 35 .len [.t 34], qo 36 (.bin .lss) [.t 32, .t 35]] [0, 3, 4, 5, 36])
 (.cond (.t 36)
 (.skip)
 (.exit 2)))
 (.seq (.block 3 (.seq (.region [qo 39 (.fieldAddr 5) [.t 4], qo 40 (.load 1 false) [.t 39], qm 41 5, qo 42 (.indexAddr 7) [.t 40, .t 41], qo 43 (.fieldAddr 0) [.t 42], qo 44 (.load 6 true) [.t 43],
qt 45 (.buildSl 6) [.t 44] [44], qt 46 (.call .wr) [qf 54, .t 45] [45], qo 47 .not [.t 46], qm 48 47, qg 49 (.fieldAddr 5) [.t 4] [] 48 false, qg 50 (.load 1 false) [.t 49] [] 48 false,
qv 51 5 48 false, qg 52 (.indexAddr 7) [.t 50, .t 51] [] 48 false, qg 53 (.fieldAddr 6) [.t 52] [] 48 false, qg 54 (.load 1 false) [.t 53] [] 48 false,
qg 55 (.call .wr) [qf 55, .t 54] [54] 48 false, qg 56 .not [.t 55] [] 48 false, qo 57 .pick [.t 48, qb true, .t 56]] [0, 3, 4, 5, 57])
 (.cond (.t 57)
 (.seq (.region [qo 2 .mv [qb false]] [2])
 (.ret))
 (.skip))))
 (.region [qm 37 5, qo 38 (.bin .add) [.t 37, qi 1], qm 5 38] [0, 3, 4, 5])))))))))
 (.region [qm 10 3, qo 11 (.bin .add) [.t 10, qi 1], qm 3 11] [0, 3]))))))
 (.seq (.region [qo 2 .mv [qb true]] [2])
 (.ret))), [.tmp 2]⟩
def v_parse_begin : VFunc := ⟨28, .seq (.region [qo 2 .mv [.c (.nilp)]] [0])
 (.seq (.region [qm 7 0, qo 8 (.call .wr) [qf 42, .t 7], qt 6 .mv [.t 8] [8], qo 9 (.extract 0) [.t 6], qt 10 (.extract 1) [.t 6] [6], qo 4 (.alloc [.int .i64 0, .int .i64 0, .int .i64 0]) [],
qt 3 .mv [.t 9] [9], qn (.store 3) [.t 4, .t 10] []] [3, 4])
 (.seq (.region [qo 11 (.fieldAddr 0) [.t 4], qo 12 (.load 1 false) [.t 11], qo 13 (.bin .neq) [.t 12, qi 0], qo 14 (.load 3 true) [.t 4],
qo 15 (.build [.sl true 6 [], .int .i64 0, .bool false, .int .i64 0, .int .i64 0, .int .i64 0] [(2, 1), (3, 3)]) [.t 13, .t 14], qt 16 .box [.t 15] [15], qm 5 16] [3, 5])
 (.seq (.seq (.region [qm 17 5, qo 18 .nilCheck [.t 17], qo 19 (.fieldAddr 2) [.t 18], qo 20 (.load 1 false) [.t 19], qo 21 .not [.t 20]] [3, 5, 21])
 (.cond (.t 21)
 (.region [qm 22 5, qt 23 .mv [.t 3] [3], qt 24 (.call .wr) [qf 56, .t 23] [23], qo 25 .nilCheck [.t 22], qo 26 (.fieldAddr 0) [.t 25], qn (.store 1) [.t 26, .t 24] [24]] [5])
 (.skip)))
 (.seq (.region [qm 27 5, qm 2 27] [2])
 (.ret))))), [.tmp 2]⟩
def v_parse_parser_block : VFunc := ⟨36, .seq (.region [qo 4 .mv [qi 0]] [0, 1])
 (.scope (.seq (.region [qm 6 0, qo 7 (.call .wr) [qf 29, .t 6, .c (.str [123])]] [0, 1])
 (.seq (.region [qo 5 .mv [qi 0]] [0, 1, 5])
 (.seq (.label)
 (.seq (.block 0 (.loop (.seq (.seq (.region [qm 8 0, qo 9 .nilCheck [.t 8], qo 10 (.fieldAddr 2) [.t 9], qo 11 (.load 1 false) [.t 10], qo 12 .not [.t 11]] [0, 1, 5, 12])
 (.cond (.t 12)
 (.skip)
 (.exit 0)))
 (.block 1 (.seq (.block 2 (.seq (.region [qm 14 0, qo 15 (.call .wr) [qf 57, .t 14, .c (.str [125])], qm 13 15] [0, 1, 5, 13])
 (.cond (.t 13)
 (.exit 0)
 (.seq (.region [qm 17 0, qo 18 (.call .wr) [qf 57, .t 17, .c (.str [59])], qm 16 18] [0, 1, 5, 16])
 (.cond (.t 16)
 (.seq (.region [qm 19 0, qo 20 (.call .wr) [qf 58, .t 19]] [0, 1, 5])
 (.exit 1))
 (.skip))))))
 (.seq (.region [qm 21 1, qo 22 (.call .wr) [.t 21]] [0, 1, 5])
 (.seq (.region [qm 23 5, qo 24 (.bin .add) [.t 23, qi 1], qm 5 24] [0, 1, 5])
 (.seq (.region [qm 25 0, qo 26 (.call .wr) [qf 57, .t 25, .c (.str [125])], qo 27 .not [.t 26], qm 28 27, qv 29 0 28 true, qg 30 (.call .wr) [qf 57, .t 29, .c (.str [59])] [] 28 true,
qg 31 .not [.t 30] [] 28 true, qo 32 .pick [.t 28, .t 31, qb false]] [0, 1, 5, 32])
 (.cond (.t 32)
 (.region [qm 33 0, qo 34 (.call .wr) [qf 59, .t 33, qi 60]] [0, 1, 5])
 (.skip))))))))))
 (.seq (.region [qm 35 5, qm 4 35] [4])
 (.ret))))))), [.tmp 4]⟩
def v_parse_Program_1 : VFunc := ⟨4, .region [qo 2 (.load 1 false) [.t 0], qo 3 (.call .wr) [qf 28, .t 2, .t 1]] [], []⟩
def v_parse_parser_top : VFunc := ⟨49, .block 0 (.seq (.region [qm 16 0, qo 17 (.call .wr) [qf 57, .t 16, .c (.str [100, 97, 116, 97])], qm 15 17] [0, 1, 15])
 (.cond (.t 15)
 (.seq (.region [qm 18 0, qo 19 (.call .wr) [qf 60, .t 18], qo 4 (.alloc [.str [], .sl true 1 [], .sl true 4 [], .int .i64 0, .int .i64 0]) [], qn (.store 5) [.t 4, .t 19] [19]] [1, 4])
 (.region [qm 20 1, qm 21 1, qo 22 .nilCheck [.t 21], qo 23 (.fieldAddr 0) [.t 22], qo 24 (.load 1 false) [.t 23], qo 25 (.loadT 5 true) [.t 4], qt 26 (.buildSl 5) [.t 25] [25],
qo 27 (.appendH 5 80) [.t 24, .t 26], qo 28 .nilCheck [.t 20], qo 29 (.fieldAddr 0) [.t 28], qn (.store 1) [.t 29, .t 27] [27]] []))
 (.seq (.seq (.region [qm 31 0, qo 32 (.call .wr) [qf 57, .t 31, .c (.str [105, 110, 102, 105, 120, 108])], qm 30 32] [0, 1, 30])
 (.cond (.t 30)
 (.skip)
 (.seq (.region [qm 33 0, qo 34 (.call .wr) [qf 57, .t 33, .c (.str [105, 110, 102, 105, 120, 114])], qm 30 34] [0, 1, 30])
 (.cond (.t 30)
 (.skip)
 (.region [qm 35 0, qo 36 (.call .wr) [qf 57, .t 35, .c (.str [105, 110, 102, 105, 120])], qm 30 36] [0, 1, 30])))))
 (.cond (.t 30)
 (.seq (.region [qm 37 0, qo 38 (.call .wr) [qf 61, .t 37], qo 5 (.alloc [.str [], .int .i64 0, .int .i64 0, .int .i64 0, .int .i64 0]) [], qn (.store 5) [.t 5, .t 38] []] [1, 5])
 (.region [qm 39 1, qm 40 1, qo 41 .nilCheck [.t 40], qo 42 (.fieldAddr 1) [.t 41], qo 43 (.loadT 1 false) [.t 42], qo 44 (.load 5 true) [.t 5], qo 45 (.buildSl 5) [.t 44],
qt 46 (.append 5 48) [.t 43, .t 45] [43], qo 47 .nilCheck [.t 39], qo 48 (.fieldAddr 1) [.t 47], qn (.store 1) [.t 48, .t 46] [46]] []))
 (.region [qm 6 1, qm 7 0, qm 8 1, qo 9 .nilCheck [.t 8], qo 10 (.fieldAddr 2) [.t 9], qo 11 (.load 1 false) [.t 10], qt 12 (.call .wr) [qf 62, .t 7, .t 11] [11], qo 13 .nilCheck [.t 6],
qo 14 (.fieldAddr 2) [.t 13], qn (.store 1) [.t 14, .t 12] [12]] []))))), []⟩
def v_parse_parser_text : VFunc := ⟨13, .seq (.region [qo 4 (.alloc [.int .i64 0, .str [], .int .i64 0, .int .i64 0, .int .i64 0, .bool false]) []] [0, 1, 4])
 (.seq (.seq (.region [qm 5 0, qm 6 1, qo 7 (.call .wr) [qf 57, .t 5, .t 6], qo 8 .not [.t 7]] [0, 4, 8])
 (.cond (.t 8)
 (.region [qm 9 0, qo 10 (.call .wr) [qf 59, .t 9, qi 60]] [0, 4])
 (.skip)))
 (.seq (.region [qm 11 0, qo 12 (.call .wr) [qf 58, .t 11], qn (.store 6) [.t 4, .t 12] []] [4])
 (.ret))), [.cell 4 6 true]⟩
def v_parse_parser_ends : VFunc := ⟨21, .seq (.region [qm 2 0, qo 3 .nilCheck [.t 2], qo 4 (.fieldAddr 2) [.t 3], qo 5 (.load 1 false) [.t 4], qo 6 .not [.t 5], qm 7 6, qv 8 0 7 true, qg 9 .nilCheck [.t 8] [] 7 true,
qg 10 (.fieldAddr 1) [.t 9] [] 7 true, qg 11 (.load 1 false) [.t 10] [] 7 true, qv 12 0 7 true, qg 13 .nilCheck [.t 12] [] 7 true, qg 14 (.fieldAddr 0) [.t 13] [] 7 true,
qg 15 (.load 1 false) [.t 14] [] 7 true, qg 16 .len [.t 15] [] 7 true, qg 17 (.bin .lss) [.t 11, .t 16] [] 7 true, qo 18 .pick [.t 7, .t 17, qb false]] [0, 18])
 (.cond (.t 18)
 (.region [qm 19 0, qo 20 (.call .wr) [qf 59, .t 19, qi 60]] [])
 (.skip)), []⟩
def v_parse_grower_binds : VFunc := ⟨42, .seq (.region [qo 4 .mv [.c (.sl true 4 [])]] [0, 1])
 (.seq (.region [qo 5 .mv [.c (.sl true 4 [])]] [0, 1, 5])
 (.seq (.seq (.region [qt 11 .mv [.t 1] [1], qo 12 .len [.t 11], qo 13 .mv [qi 0]] [0, 5, 11, 12, 13])
 (.block 0 (.loop (.seq (.region [qo 14 (.bin .lss) [.t 13, .t 12]] [0, 5, 11, 12, 13, 14])
 (.seq (.cond (.t 14)
 (.skip)
 (.exit 0))
 (.seq (.block 1 (.seq (.region [qo 15 (.indexAddr 4) [.t 11, .t 13], qo 16 (.load 4 true) [.t 15], qo 7 (.alloc [.str [], .sl true 2 [], .int .i64 0, .int .i64 0]) [], qn (.store 4) [.t 7, .t 16] [16]] [0, 5, 7, 11, 12, 13])
 (.seq (.region [qo 8 .mv [.c (.sl true 2 [])]] [0, 5, 7, 8, 11, 12, 13])
 (.seq (.seq (.region [qo 17 (.fieldAddr 1) [.t 7], qo 18 (.load 1 false) [.t 17], qo 19 .len [.t 18], qo 20 .mv [qi 0]] [0, 5, 7, 8, 11, 12, 13, 18, 19, 20])
 (.block 2 (.loop (.seq (.region [qo 21 (.bin .lss) [.t 20, .t 19]] [0, 5, 7, 8, 11, 12, 13, 18, 19, 20, 21])
 (.seq (.cond (.t 21)
 (.skip)
 (.exit 2))
 (.seq (.block 3 (.seq (.region [qo 22 (.indexAddr 2) [.t 18, .t 20], qo 23 (.load 2 true) [.t 22], qo 10 (.alloc [.sl true 6 [], .sl true 10 []]) [], qn (.store 2) [.t 10, .t 23] [23]] [0, 5, 7, 8, 10, 11, 12, 13, 18, 19, 20])
 (.seq (.region [qm 24 0, qo 25 (.fieldAddr 1) [.t 10], qo 26 (.load 1 false) [.t 25], qt 27 (.call .wr) [qf 63, .t 24, .t 26] [26], qo 28 (.fieldAddr 1) [.t 10], qn (.store 1) [.t 28, .t 27] [27]] [0, 5, 7, 8, 10, 11, 12, 13, 18, 19, 20])
 (.region [qt 29 .mv [.t 8] [8], qo 30 (.loadT 2 true) [.t 10], qt 31 (.buildSl 2) [.t 30] [30], qt 32 (.append 2 48) [.t 29, .t 31] [29], qt 8 .mv [.t 32] [32]] [0, 5, 7, 8, 11, 12, 13, 18, 19, 20]))))
 (.region [qo 33 (.bin .add) [.t 20, qi 1], qm 20 33] [0, 5, 7, 8, 11, 12, 13, 18, 19, 20])))))))
 (.seq (.region [qt 34 .mv [.t 8] [8], qo 35 (.fieldAddr 1) [.t 7], qn (.store 1) [.t 35, .t 34] [34]] [0, 5, 7, 11, 12, 13])
 (.region [qt 36 .mv [.t 5] [5], qo 37 (.loadT 4 true) [.t 7], qt 38 (.buildSl 4) [.t 37] [37], qt 39 (.append 4 56) [.t 36, .t 38] [36], qt 5 .mv [.t 39] [39]] [0, 5, 11, 12, 13]))))))
 (.region [qo 40 (.bin .add) [.t 13, qi 1], qm 13 40] [0, 5, 11, 12, 13])))))))
 (.seq (.region [qt 41 .mv [.t 5] [5], qt 4 .mv [.t 41] [41]] [4])
 (.ret)))), [.tmp 4]⟩
def v_r06_sameDatas : VFunc := ⟨124, .seq (.region [qo 6 .mv [qb false]] [0, 1, 2])
 (.seq (.seq (.region [qm 14 0, qo 15 .len [.t 14], qm 16 1, qo 17 .len [.t 16], qo 18 (.bin .neq) [.t 15, .t 17]] [0, 1, 2, 18])
 (.cond (.t 18)
 (.seq (.region [qo 6 .mv [qb false]] [6])
 (.ret))
 (.skip)))
 (.seq (.seq (.region [qo 7 .mv [qi 0]] [0, 1, 2, 7])
 (.block 0 (.loop (.seq (.seq (.region [qm 19 7, qm 20 0, qo 21 .len [.t 20], qo 22 (.bin .lss) [.t 19, .t 21]] [0, 1, 2, 7, 22])
 (.cond (.t 22)
 (.skip)
 (.exit 0)))
 (.seq (.block 1 (.seq (.regionD [8, 9] [qm 25 0, qm 26 7, qo 27 (.indexAddr 5) [.t 25, .t 26], qo 28 (.load 5 true) [.t 27], qm 29 1, qm 30 7, qo 31 (.indexAddr 5) [.t 29, .t 30], qo 32 (.loadC 5 true) [.t 31],
qo 8 (.allocR 8 [.str [], .sl true 1 [], .sl true 4 [], .int .i64 0, .int .i64 0]) [], qo 9 (.allocR 9 [.str [], .sl true 1 [], .sl true 4 [], .int .i64 0, .int .i64 0]) [],
qn (.storeP 5) [.t 8, .t 28] [28], qn (.storeP 5) [.t 9, .t 32] [32]] [(27, 8), (27, 9), (8, 9)] [0, 1, 2, 7, 8, 9])
 (.seq (.seq (.region [qo 33 (.fieldAddr 0) [.t 8], qo 34 (.load 1 false) [.t 33], qo 35 (.fieldAddr 0) [.t 9], qo 36 (.load 1 false) [.t 35], qo 37 (.bin .neq) [.t 34, .t 36], qm 38 37, qv 39 2 38 false,
qv 40 39 38 false, qg 41 (.fieldAddr 3) [.t 8] [] 40 true, qg 42 (.load 2 true) [.t 41] [] 40 true, qg 43 (.fieldAddr 3) [.t 9] [] 40 true, qg 44 (.load 2 true) [.t 43] [] 40 true,
qg 45 (.eqc true true [.i, .i]) [.t 42, .t 44] [] 40 true, qg 46 .pick [.t 40, .t 45, qb false] [] 38 false, qo 47 .pick [.t 38, qb true, .t 46], qm 48 47,
qg 49 (.fieldAddr 1) [.t 8] [] 48 false, qg 50 (.load 1 false) [.t 49] [] 48 false, qg 51 .len [.t 50] [] 48 false, qg 52 (.fieldAddr 1) [.t 9] [] 48 false,
qg 53 (.load 1 false) [.t 52] [] 48 false, qg 54 .len [.t 53] [] 48 false, qg 55 (.bin .neq) [.t 51, .t 54] [] 48 false, qo 56 .pick [.t 48, qb true, .t 55], qm 57 56,
qg 58 (.fieldAddr 2) [.t 8] [] 57 false, qg 59 (.load 1 false) [.t 58] [] 57 false, qg 60 .len [.t 59] [] 57 false, qg 61 (.fieldAddr 2) [.t 9] [] 57 false,
qg 62 (.load 1 false) [.t 61] [] 57 false, qg 63 .len [.t 62] [] 57 false, qg 64 (.bin .neq) [.t 60, .t 63] [] 57 false, qo 65 .pick [.t 57, qb true, .t 64]] [0, 1, 2, 7, 8, 9, 65])
 (.cond (.t 65)
 (.seq (.region [qo 6 .mv [qb false]] [6])
 (.ret))
 (.skip)))
 (.seq (.seq (.region [qo 10 .mv [qi 0]] [0, 1, 2, 7, 8, 9, 10])
 (.block 2 (.loop (.seq (.seq (.region [qm 66 10, qo 67 (.fieldAddr 1) [.t 8], qo 68 (.load 1 false) [.t 67], qo 69 .len [.t 68], qo 70 (.bin .lss) [.t 66, .t 69]] [0, 1, 2, 7, 8, 9, 10, 70])
 (.cond (.t 70)
 (.skip)
 (.exit 2)))
 (.seq (.block 3 (.seq (.region [qo 73 (.fieldAddr 1) [.t 8], qo 74 (.load 1 false) [.t 73], qm 75 10, qo 76 (.indexAddr 1) [.t 74, .t 75], qo 77 (.load 1 false) [.t 76], qo 78 (.fieldAddr 1) [.t 9],
qo 79 (.load 1 false) [.t 78], qm 80 10, qo 81 (.indexAddr 1) [.t 79, .t 80], qo 82 (.load 1 false) [.t 81], qo 83 (.bin .neq) [.t 77, .t 82]] [0, 1, 2, 7, 8, 9, 10, 83])
 (.cond (.t 83)
 (.seq (.region [qo 6 .mv [qb false]] [6])
 (.ret))
 (.skip))))
 (.region [qm 71 10, qo 72 (.bin .add) [.t 71, qi 1], qm 10 72] [0, 1, 2, 7, 8, 9, 10]))))))
 (.seq (.region [qo 11 .mv [qi 0]] [0, 1, 2, 7, 8, 9, 11])
 (.block 4 (.loop (.seq (.seq (.region [qm 84 11, qo 85 (.fieldAddr 2) [.t 8], qo 86 (.load 1 false) [.t 85], qo 87 .len [.t 86], qo 88 (.bin .lss) [.t 84, .t 87]] [0, 1, 2, 7, 8, 9, 11, 88])
 (.cond (.t 88)
 (.skip)
 (.exit 4)))
 (.seq (.block 5 (.seq (.regionD [12, 13] [qo 91 (.fieldAddr 2) [.t 8], qo 92 (.load 1 false) [.t 91], qm 93 11, qo 94 (.indexAddr 4) [.t 92, .t 93], qo 95 (.load 4 true) [.t 94], qo 96 (.fieldAddr 2) [.t 9],
qo 97 (.load 1 false) [.t 96], qm 98 11, qo 99 (.indexAddr 4) [.t 97, .t 98], qo 100 (.loadC 4 true) [.t 99], qo 12 (.allocR 12 [.str [], .sl true 4 [], .int .i64 0, .int .i64 0]) [],
qo 13 (.allocR 13 [.str [], .sl true 4 [], .int .i64 0, .int .i64 0]) [], qn (.storeP 4) [.t 12, .t 95] [95], qn (.storeP 4) [.t 13, .t 100] [100]] [(91, 12), (94, 12), (96, 12), (91, 13), (94, 13), (96, 13), (12, 13)] [0, 1, 2, 7, 8, 9, 11, 12, 13])
 (.seq (.region [qo 101 (.fieldAddr 0) [.t 12], qo 102 (.load 1 false) [.t 101], qo 103 (.fieldAddr 0) [.t 13], qo 104 (.load 1 false) [.t 103], qo 105 (.bin .neq) [.t 102, .t 104], qm 106 105,
qv 107 2 106 false, qv 108 107 106 false, qg 109 (.fieldAddr 2) [.t 12] [] 108 true, qg 110 (.load 2 true) [.t 109] [] 108 true, qg 111 (.fieldAddr 2) [.t 13] [] 108 true,
qg 112 (.load 2 true) [.t 111] [] 108 true, qg 113 (.eqc true true [.i, .i]) [.t 110, .t 112] [] 108 true, qg 114 .pick [.t 108, .t 113, qb false] [] 106 false,
qo 115 .pick [.t 106, qb true, .t 114], qm 116 115, qg 117 (.fieldAddr 1) [.t 12] [] 116 false, qg 118 (.load 1 false) [.t 117] [] 116 false, qg 119 (.fieldAddr 1) [.t 13] [] 116 false,
qg 120 (.load 1 false) [.t 119] [] 116 false, qg 121 (.call .wr) [qf 64, .t 118, .t 120] [118, 120] 116 false, qg 122 .not [.t 121] [] 116 false, qo 123 .pick [.t 116, qb true, .t 122]] [0, 1, 2, 7, 8, 9, 11, 123])
 (.cond (.t 123)
 (.seq (.region [qo 6 .mv [qb false]] [6])
 (.ret))
 (.skip)))))
 (.region [qm 89 11, qo 90 (.bin .add) [.t 89, qi 1], qm 11 90] [0, 1, 2, 7, 8, 9, 11]))))))))))
 (.region [qm 23 7, qo 24 (.bin .add) [.t 23, qi 1], qm 7 24] [0, 1, 2, 7]))))))
 (.seq (.region [qo 6 .mv [qb true]] [6])
 (.ret)))), [.tmp 6]⟩
def v_r06_SameBinds : VFunc := ⟨93, .seq (.region [qo 6 .mv [qb false]] [0, 1, 2])
 (.seq (.seq (.region [qm 11 0, qo 12 .len [.t 11], qm 13 1, qo 14 .len [.t 13], qo 15 (.bin .neq) [.t 12, .t 14]] [0, 1, 2, 15])
 (.cond (.t 15)
 (.seq (.region [qo 6 .mv [qb false]] [6])
 (.ret))
 (.skip)))
 (.seq (.seq (.region [qo 7 .mv [qi 0]] [0, 1, 2, 7])
 (.block 0 (.loop (.seq (.seq (.region [qm 16 7, qm 17 0, qo 18 .len [.t 17], qo 19 (.bin .lss) [.t 16, .t 18]] [0, 1, 2, 7, 19])
 (.cond (.t 19)
 (.skip)
 (.exit 0)))
 (.seq (.block 1 (.seq (.regionD [8, 9] [qm 22 0, qm 23 7, qo 24 (.indexAddr 4) [.t 22, .t 23], qo 25 (.load 4 true) [.t 24], qm 26 1, qm 27 7, qo 28 (.indexAddr 4) [.t 26, .t 27], qo 29 (.loadC 4 true) [.t 28],
qo 8 (.allocR 8 [.str [], .sl true 2 [], .int .i64 0, .int .i64 0]) [], qo 9 (.allocR 9 [.str [], .sl true 2 [], .int .i64 0, .int .i64 0]) [], qn (.storeP 4) [.t 8, .t 25] [25],
qn (.storeP 4) [.t 9, .t 29] [29]] [(24, 8), (24, 9), (8, 9)] [0, 1, 2, 7, 8, 9])
 (.seq (.seq (.region [qo 30 (.fieldAddr 0) [.t 8], qo 31 (.load 1 false) [.t 30], qo 32 (.fieldAddr 0) [.t 9], qo 33 (.load 1 false) [.t 32], qo 34 (.bin .neq) [.t 31, .t 33], qm 35 34, qv 36 2 35 false,
qv 37 36 35 false, qg 38 (.fieldAddr 2) [.t 8] [] 37 true, qg 39 (.load 2 true) [.t 38] [] 37 true, qg 40 (.fieldAddr 2) [.t 9] [] 37 true, qg 41 (.load 2 true) [.t 40] [] 37 true,
qg 42 (.eqc true true [.i, .i]) [.t 39, .t 41] [] 37 true, qg 43 .pick [.t 37, .t 42, qb false] [] 35 false, qo 44 .pick [.t 35, qb true, .t 43], qm 45 44,
qg 46 (.fieldAddr 1) [.t 8] [] 45 false, qg 47 (.load 1 false) [.t 46] [] 45 false, qg 48 .len [.t 47] [] 45 false, qg 49 (.fieldAddr 1) [.t 9] [] 45 false,
qg 50 (.load 1 false) [.t 49] [] 45 false, qg 51 .len [.t 50] [] 45 false, qg 52 (.bin .neq) [.t 48, .t 51] [] 45 false, qo 53 .pick [.t 45, qb true, .t 52]] [0, 1, 2, 7, 8, 9, 53])
 (.cond (.t 53)
 (.seq (.region [qo 6 .mv [qb false]] [6])
 (.ret))
 (.skip)))
 (.seq (.region [qo 10 .mv [qi 0]] [0, 1, 2, 7, 8, 9, 10])
 (.block 2 (.loop (.seq (.seq (.region [qm 54 10, qo 55 (.fieldAddr 1) [.t 8], qo 56 (.load 1 false) [.t 55], qo 57 .len [.t 56], qo 58 (.bin .lss) [.t 54, .t 57]] [0, 1, 2, 7, 8, 9, 10, 58])
 (.cond (.t 58)
 (.skip)
 (.exit 2)))
 (.seq (.block 3 (.seq (.region [qo 61 (.fieldAddr 1) [.t 8], qo 62 (.load 1 false) [.t 61], qm 63 10, qo 64 (.indexAddr 2) [.t 62, .t 63], qo 65 (.fieldAddr 0) [.t 64], qo 66 (.load 1 false) [.t 65],
qo 67 (.fieldAddr 1) [.t 9], qo 68 (.load 1 false) [.t 67], qm 69 10, qo 70 (.indexAddr 2) [.t 68, .t 69], qo 71 (.fieldAddr 0) [.t 70], qo 72 (.load 1 false) [.t 71], qm 73 2,
qt 74 (.call .wr) [qf 51, .t 66, .t 72, .t 73] [66, 72], qo 75 .not [.t 74], qm 76 75, qg 77 (.fieldAddr 1) [.t 8] [] 76 false, qg 78 (.load 1 false) [.t 77] [] 76 false, qv 79 10 76 false,
qg 80 (.indexAddr 2) [.t 78, .t 79] [] 76 false, qg 81 (.fieldAddr 1) [.t 80] [] 76 false, qg 82 (.load 1 false) [.t 81] [] 76 false, qg 83 (.fieldAddr 1) [.t 9] [] 76 false,
qg 84 (.load 1 false) [.t 83] [] 76 false, qv 85 10 76 false, qg 86 (.indexAddr 2) [.t 84, .t 85] [] 76 false, qg 87 (.fieldAddr 1) [.t 86] [] 76 false,
qg 88 (.load 1 false) [.t 87] [] 76 false, qv 89 2 76 false, qg 90 (.call .wr) [qf 52, .t 82, .t 88, .t 89] [82, 88] 76 false, qg 91 .not [.t 90] [] 76 false,
qo 92 .pick [.t 76, qb true, .t 91]] [0, 1, 2, 7, 8, 9, 10, 92])
 (.cond (.t 92)
 (.seq (.region [qo 6 .mv [qb false]] [6])
 (.ret))
 (.skip))))
 (.region [qm 59 10, qo 60 (.bin .add) [.t 59, qi 1], qm 10 60] [0, 1, 2, 7, 8, 9, 10])))))))))
 (.region [qm 20 7, qo 21 (.bin .add) [.t 20, qi 1], qm 7 21] [0, 1, 2, 7]))))))
 (.seq (.region [qo 6 .mv [qb true]] [6])
 (.ret)))), [.tmp 6]⟩
def v_parse_parser_expr : VFunc := ⟨37, .seq (.region [qo 2 (.alloc [.int .i64 0, .str [], .int .i64 0, .sl true 1 [], .sl true 9 [], .sl true 7 [], .nilh 4, .int .i64 0, .int .i64 0]) []] [0, 2])
 (.seq (.region [qm 6 0, qo 7 (.call .wr) [qf 65, .t 6], qo 3 (.alloc [.int .i64 0, .str [], .int .i64 0, .sl true 1 [], .sl true 9 [], .sl true 7 [], .nilh 4, .int .i64 0, .int .i64 0]) [],
qn (.store 9) [.t 3, .t 7] [7]] [0, 2, 3])
 (.seq (.seq (.region [qm 8 0, qo 9 (.call .wr) [qf 66, .t 8, qi 3], qo 10 .not [.t 9]] [0, 2, 3, 10])
 (.cond (.t 10)
 (.seq (.region [qo 11 (.loadT 9 true) [.t 3], qn (.store 9) [.t 2, .t 11] [11]] [2])
 (.ret))
 (.skip)))
 (.seq (.region [qo 12 (.loadT 9 true) [.t 3], qt 13 (.buildSl 9) [.t 12] [12],
qt 14 (.build [.int .i64 0, .str [], .int .i64 0, .sl true 1 [], .sl true 9 [], .sl true 7 [], .nilh 4, .int .i64 0, .int .i64 0] [(0, 1), (4, 1)]) [qi (-1), .t 13] [13],
qo 4 (.alloc [.int .i64 0, .str [], .int .i64 0, .sl true 1 [], .sl true 9 [], .sl true 7 [], .nilh 4, .int .i64 0, .int .i64 0]) [], qn (.store 9) [.t 4, .t 14] [14]] [0, 2, 4])
 (.seq (.block 0 (.loop (.seq (.seq (.region [qm 15 0, qo 16 (.call .wr) [qf 66, .t 15, qi 3]] [0, 2, 4, 16])
 (.cond (.t 16)
 (.skip)
 (.exit 0)))
 (.block 1 (.seq (.region [qm 17 0, qo 18 (.call .wr) [qf 58, .t 17], qo 5 (.alloc [.int .i64 0, .str [], .int .i64 0, .int .i64 0, .int .i64 0, .bool false]) [], qn (.store 6) [.t 5, .t 18] []] [0, 2, 4, 5])
 (.seq (.region [qo 19 (.fieldAddr 6) [.t 4], qo 20 (.load 1 false) [.t 19], qo 21 (.fieldAddr 1) [.t 5], qo 22 (.load 1 false) [.t 21], qo 23 (.fieldAddr 3) [.t 5], qo 24 (.load 2 true) [.t 23],
qo 25 (.build [.str [], .sl true 2 [], .int .i64 0, .int .i64 0] [(0, 1), (2, 2)]) [.t 22, .t 24], qt 26 (.buildSl 4) [.t 25] [25], qo 27 (.appendH 4 56) [.t 20, .t 26],
qo 28 (.fieldAddr 6) [.t 4], qn (.store 1) [.t 28, .t 27] [27]] [0, 2, 4])
 (.region [qo 29 (.fieldAddr 4) [.t 4], qo 30 (.loadTL 2 1 false) [.t 29], qm 31 0, qo 32 (.call (.fr 2)) [qf 65, .t 31], qt 33 (.buildSl 9) [.t 32] [32], qt 34 (.append 9 144) [.t 30, .t 33] [30],
qo 35 (.fieldAddr 4) [.t 4], qn (.store 1) [.t 35, .t 34] [34]] [0, 2, 4])))))))
 (.seq (.region [qo 36 (.loadT 9 true) [.t 4], qn (.store 9) [.t 2, .t 36] [36]] [2])
 (.ret)))))), [.cell 2 9 true]⟩
def v_parse_grower_expr : VFunc := ⟨71, .seq (.region [qt 3 .box [.t 1] [1], qo 4 (.alloc [.int .i64 0, .str [], .int .i64 0, .sl true 1 [], .sl true 9 [], .sl true 7 [], .nilh 4, .int .i64 0, .int .i64 0]) []] [0, 3, 4])
 (.seq (.seq (.region [qm 11 0, qo 12 .nilCheck [.t 11], qo 13 (.fieldAddr 1) [.t 12], qo 14 (.load 1 false) [.t 13]] [0, 3, 4, 14])
 (.cond (.t 14)
 (.seq (.region [qo 15 (.loadT 9 true) [.t 3], qn (.store 9) [.t 4, .t 15] [15]] [4])
 (.ret))
 (.skip)))
 (.seq (.seq (.region [qo 16 (.fieldAddr 0) [.t 3], qo 17 (.load 1 false) [.t 16], qo 18 (.bin .eql) [.t 17, qi (-1)]] [0, 3, 4, 18])
 (.cond (.t 18)
 (.seq (.region [qm 19 0, qo 20 (.loadT 9 true) [.t 3], qt 21 (.call .wr) [qf 67, .t 19, .t 20] [20], qn (.store 9) [.t 4, .t 21] [21]] [4])
 (.ret))
 (.skip)))
 (.seq (.region [qm 22 0, qo 23 (.fieldAddr 6) [.t 3], qo 24 (.load 1 false) [.t 23], qt 25 (.call .wr) [qf 31, .t 22, .t 24] [24], qo 26 (.fieldAddr 6) [.t 3], qn (.store 1) [.t 26, .t 25] [25]] [0, 3, 4])
 (.seq (.region [qo 5 .mv [.c (.sl true 9 [])]] [0, 3, 4, 5])
 (.seq (.seq (.region [qo 27 (.fieldAddr 4) [.t 3], qo 28 (.load 1 false) [.t 27], qo 29 .len [.t 28], qo 30 .mv [qi 0]] [0, 3, 4, 5, 28, 29, 30])
 (.block 0 (.loop (.seq (.region [qo 31 (.bin .lss) [.t 30, .t 29]] [0, 3, 4, 5, 28, 29, 30, 31])
 (.seq (.cond (.t 31)
 (.skip)
 (.exit 0))
 (.seq (.block 1 (.seq (.region [qo 32 (.indexAddr 9) [.t 28, .t 30], qo 33 (.load 9 true) [.t 32],
qo 7 (.alloc [.int .i64 0, .str [], .int .i64 0, .sl true 1 [], .sl true 9 [], .sl true 7 [], .nilh 4, .int .i64 0, .int .i64 0]) [], qn (.store 9) [.t 7, .t 33] [33]] [0, 3, 4, 5, 7, 28, 29, 30])
 (.region [qt 34 .mv [.t 5] [5], qm 35 0, qo 36 (.loadT 9 true) [.t 7], qt 37 (.call .wr) [qf 35, .t 35, .t 36] [36], qt 38 (.buildSl 9) [.t 37] [37], qt 39 (.append 9 144) [.t 34, .t 38] [34],
qt 5 .mv [.t 39] [39]] [0, 3, 4, 5, 28, 29, 30])))
 (.region [qo 40 (.bin .add) [.t 30, qi 1], qm 30 40] [0, 3, 4, 5, 28, 29, 30])))))))
 (.seq (.region [qm 41 5, qo 42 (.fieldAddr 4) [.t 3], qn (.store 1) [.t 42, .t 41] [41]] [0, 3, 4, 5])
 (.seq (.seq (.region [qo 43 (.fieldAddr 0) [.t 3], qo 44 (.load 1 false) [.t 43], qo 45 (.bin .eql) [.t 44, qi 4]] [0, 3, 4, 5, 45])
 (.cond (.t 45)
 (.region [qt 46 .mv [.t 5] [5], qo 47 (.indexAddr 9) [.t 46, qi 0], qo 48 (.fieldAddr 7) [.t 47], qo 49 (.load 2 true) [.t 48], qo 50 (.fieldAddr 7) [.t 3], qn (.store 2) [.t 50, .t 49] []] [0, 3, 4])
 (.skip)))
 (.seq (.region [qo 8 .mv [.c (.sl true 7 [])]] [0, 3, 4, 8])
 (.seq (.seq (.region [qo 51 (.fieldAddr 5) [.t 3], qo 52 (.load 1 false) [.t 51], qo 53 .len [.t 52], qo 54 .mv [qi 0]] [0, 3, 4, 8, 52, 53, 54])
 (.block 2 (.loop (.seq (.region [qo 55 (.bin .lss) [.t 54, .t 53]] [0, 3, 4, 8, 52, 53, 54, 55])
 (.seq (.cond (.t 55)
 (.skip)
 (.exit 2))
 (.seq (.block 3 (.seq (.region [qo 56 (.indexAddr 7) [.t 52, .t 54], qo 57 (.load 7 true) [.t 56], qo 10 (.alloc [.int .i64 0, .str [], .int .i64 0, .sl true 6 [], .int .i64 0, .int .i64 0, .sl true 10 []]) [],
qn (.store 7) [.t 10, .t 57] [57]] [0, 3, 4, 8, 10, 52, 53, 54])
 (.seq (.region [qm 58 0, qo 59 (.fieldAddr 6) [.t 10], qo 60 (.load 1 false) [.t 59], qt 61 (.call .wr) [qf 63, .t 58, .t 60] [60], qo 62 (.fieldAddr 6) [.t 10], qn (.store 1) [.t 62, .t 61] [61]] [0, 3, 4, 8, 10, 52, 53, 54])
 (.region [qt 63 .mv [.t 8] [8], qo 64 (.loadT 7 true) [.t 10], qt 65 (.buildSl 7) [.t 64] [64], qt 66 (.append 7 96) [.t 63, .t 65] [63], qt 8 .mv [.t 66] [66]] [0, 3, 4, 8, 52, 53, 54]))))
 (.region [qo 67 (.bin .add) [.t 54, qi 1], qm 54 67] [0, 3, 4, 8, 52, 53, 54])))))))
 (.seq (.region [qt 68 .mv [.t 8] [8], qo 69 (.fieldAddr 5) [.t 3], qn (.store 1) [.t 69, .t 68] [68]] [3, 4])
 (.seq (.region [qo 70 (.loadT 9 true) [.t 3], qn (.store 9) [.t 4, .t 70] [70]] [4])
 (.ret)))))))))))), [.cell 4 9 true]⟩
def v_lex_Tokens : VFunc := ⟨49, .seq (.region [qo 2 .mv [.c (.sl true 6 [])], qo 3 (.alloc [.int .i64 0, .int .i64 0, .int .i64 0]) []] [0, 3])
 (.seq (.region [qo 10 (.build [.int .i64 0, .int .i64 0] [(0, 1), (1, 1)]) [qi 1, qi 1], qo 4 (.alloc [.int .i64 0, .int .i64 0]) [], qn (.store 2) [.t 4, .t 10] []] [0, 3, 4])
 (.seq (.seq (.region [qm 11 0, qo 12 .lenStr [.t 11], qo 13 (.bin .gtr) [.t 12, qi 8192]] [0, 3, 4, 13])
 (.cond (.t 13)
 (.seq (.region [qo 14 (.load 2 true) [.t 4], qo 15 (.build [.int .i64 0, .int .i64 0, .int .i64 0] [(0, 1), (1, 2)]) [qi 2, .t 14], qo 2 .mv [.c (.sl true 6 [])], qn (.store 3) [.t 3, .t 15] []] [2, 3])
 (.ret))
 (.skip)))
 (.seq (.region [qm 16 0, qo 17 (.load 2 true) [.t 4], qo 18 (.build [.str [], .int .i64 0, .int .i64 0, .int .i64 0] [(0, 1), (2, 2)]) [.t 16, .t 17], qo 19 .box [.t 18], qm 5 19] [3, 5])
 (.seq (.region [qo 6 .mv [.c (.sl true 6 [])]] [3, 5, 6])
 (.seq (.block 0 (.loop (.seq (.seq (.region [qm 20 5, qo 21 (.call .wr) [qf 77, .t 20]] [3, 5, 6, 21])
 (.cond (.t 21)
 (.skip)
 (.exit 0)))
 (.block 1 (.seq (.region [qm 22 5, qo 23 .nilCheck [.t 22], qo 24 (.fieldAddr 2) [.t 23], qo 25 (.load 2 true) [.t 24], qo 7 (.alloc [.int .i64 0, .int .i64 0]) [], qn (.store 2) [.t 7, .t 25] []] [3, 5, 6, 7])
 (.seq (.region [qm 27 5, qo 28 (.call .wr) [qf 78, .t 27], qm 26 28, qo 29 (.extract 0) [.t 26], qo 30 (.extract 1) [.t 26],
qo 8 (.alloc [.int .i64 0, .str [], .int .i64 0, .int .i64 0, .int .i64 0, .bool false]) [], qn (.store 6) [.t 8, .t 29] [], qm 9 30] [3, 5, 6, 7, 8, 9])
 (.seq (.seq (.region [qm 31 9, qo 32 (.bin .eql) [.t 31, qi 0], qm 33 32, qv 34 6 33 true, qg 35 .len [.t 34] [] 33 true, qg 36 (.bin .geq) [.t 35, qi 2048] [] 33 true, qo 37 .pick [.t 33, .t 36, qb false]] [3, 5, 6, 7, 8, 9, 37])
 (.cond (.t 37)
 (.region [qo 9 .mv [qi 2]] [3, 5, 6, 7, 8, 9])
 (.skip)))
 (.seq (.seq (.region [qm 38 9, qo 39 (.bin .neq) [.t 38, qi 0]] [3, 5, 6, 7, 8, 9, 39])
 (.cond (.t 39)
 (.seq (.region [qm 40 9, qo 41 (.load 2 true) [.t 7], qo 42 (.build [.int .i64 0, .int .i64 0, .int .i64 0] [(0, 1), (1, 2)]) [.t 40, .t 41], qo 2 .mv [.c (.sl true 6 [])], qn (.store 3) [.t 3, .t 42] []] [2, 3])
 (.ret))
 (.skip)))
 (.region [qt 43 .mv [.t 6] [6], qo 44 (.load 6 true) [.t 8], qo 45 (.buildSl 6) [.t 44], qt 46 (.append 6 56) [.t 43, .t 45] [43], qt 6 .mv [.t 46] [46]] [3, 5, 6])))))))))
 (.seq (.region [qt 47 .mv [.t 6] [6], qo 48 (.build [.int .i64 0, .int .i64 0, .int .i64 0] []) [], qt 2 .mv [.t 47] [47], qn (.store 3) [.t 3, .t 48] []] [2, 3])
 (.ret))))))), [.tmp 2, .cell 3 3 true]⟩
def v_parse_bareBinds : VFunc := ⟨43, .seq (.region [qo 2 .mv [.c (.sl true 4 [])]] [0])
 (.seq (.region [qo 3 .mv [.c (.sl true 4 [])]] [0, 3])
 (.seq (.seq (.region [qt 9 .mv [.t 0] [0], qo 10 .len [.t 9], qo 11 .mv [qi 0]] [3, 9, 10, 11])
 (.block 0 (.loop (.seq (.region [qo 12 (.bin .lss) [.t 11, .t 10]] [3, 9, 10, 11, 12])
 (.seq (.cond (.t 12)
 (.skip)
 (.exit 0))
 (.seq (.block 1 (.seq (.region [qo 13 (.indexAddr 4) [.t 9, .t 11], qo 14 (.load 4 true) [.t 13], qo 5 (.alloc [.str [], .sl true 2 [], .int .i64 0, .int .i64 0]) [], qn (.store 4) [.t 5, .t 14] [14]] [3, 5, 9, 10, 11])
 (.seq (.region [qo 15 (.build [.int .i64 0, .int .i64 0] []) [], qo 16 (.fieldAddr 2) [.t 5], qn (.store 2) [.t 16, .t 15] []] [3, 5, 9, 10, 11])
 (.seq (.region [qo 6 .mv [.c (.sl true 2 [])]] [3, 5, 6, 9, 10, 11])
 (.seq (.seq (.region [qo 17 (.fieldAddr 1) [.t 5], qo 18 (.load 1 false) [.t 17], qo 19 .len [.t 18], qo 20 .mv [qi 0]] [3, 5, 6, 9, 10, 11, 18, 19, 20])
 (.block 2 (.loop (.seq (.region [qo 21 (.bin .lss) [.t 20, .t 19]] [3, 5, 6, 9, 10, 11, 18, 19, 20, 21])
 (.seq (.cond (.t 21)
 (.skip)
 (.exit 2))
 (.seq (.block 3 (.seq (.region [qo 22 (.indexAddr 2) [.t 18, .t 20], qo 23 (.load 2 true) [.t 22], qo 8 (.alloc [.sl true 6 [], .sl true 10 []]) [], qn (.store 2) [.t 8, .t 23] [23]] [3, 5, 6, 8, 9, 10, 11, 18, 19, 20])
 (.region [qt 24 .mv [.t 6] [6], qo 25 (.fieldAddr 0) [.t 8], qo 26 (.load 1 false) [.t 25], qt 27 (.call .al) [qf 48, .t 26] [26], qo 28 (.fieldAddr 1) [.t 8], qo 29 (.load 1 false) [.t 28],
qt 30 (.call .al) [qf 49, .t 29] [29], qt 31 (.build [.sl true 6 [], .sl true 10 []] [(0, 1), (1, 1)]) [.t 27, .t 30] [27, 30], qt 32 (.buildSl 2) [.t 31] [31],
qt 33 (.append 2 48) [.t 24, .t 32] [24], qt 6 .mv [.t 33] [33]] [3, 5, 6, 9, 10, 11, 18, 19, 20])))
 (.region [qo 34 (.bin .add) [.t 20, qi 1], qm 20 34] [3, 5, 6, 9, 10, 11, 18, 19, 20])))))))
 (.seq (.region [qt 35 .mv [.t 6] [6], qo 36 (.fieldAddr 1) [.t 5], qn (.store 1) [.t 36, .t 35] [35]] [3, 5, 9, 10, 11])
 (.region [qt 37 .mv [.t 3] [3], qo 38 (.loadT 4 true) [.t 5], qt 39 (.buildSl 4) [.t 38] [38], qt 40 (.append 4 56) [.t 37, .t 39] [37], qt 3 .mv [.t 40] [40]] [3, 9, 10, 11])))))))
 (.region [qo 41 (.bin .add) [.t 11, qi 1], qm 11 41] [3, 9, 10, 11])))))))
 (.seq (.region [qt 42 .mv [.t 3] [3], qt 2 .mv [.t 42] [42]] [2])
 (.ret)))), [.tmp 2]⟩
def v_parse_barePats : VFunc := ⟨24, .seq (.region [qo 2 .mv [.c (.sl true 6 [])]] [0])
 (.seq (.region [qo 3 .mv [.c (.sl true 6 [])]] [0, 3])
 (.seq (.seq (.region [qt 6 .mv [.t 0] [0], qo 7 .len [.t 6], qo 8 .mv [qi 0]] [3, 6, 7, 8])
 (.block 0 (.loop (.seq (.region [qo 9 (.bin .lss) [.t 8, .t 7]] [3, 6, 7, 8, 9])
 (.seq (.cond (.t 9)
 (.skip)
 (.exit 0))
 (.seq (.block 1 (.seq (.region [qo 10 (.indexAddr 6) [.t 6, .t 8], qo 11 (.load 6 true) [.t 10], qo 5 (.alloc [.int .i64 0, .str [], .int .i64 0, .sl true 6 [], .int .i64 0, .int .i64 0]) [],
qn (.store 6) [.t 5, .t 11] [11]] [3, 5, 6, 7, 8])
 (.seq (.region [qo 12 (.build [.int .i64 0, .int .i64 0] []) [], qo 13 (.fieldAddr 4) [.t 5], qn (.store 2) [.t 13, .t 12] []] [3, 5, 6, 7, 8])
 (.seq (.region [qo 14 (.fieldAddr 3) [.t 5], qo 15 (.load 1 false) [.t 14], qt 16 (.call .wr) [qf 48, .t 15] [15], qo 17 (.fieldAddr 3) [.t 5], qn (.store 1) [.t 17, .t 16] [16]] [3, 5, 6, 7, 8])
 (.region [qt 18 .mv [.t 3] [3], qo 19 (.loadT 6 true) [.t 5], qt 20 (.buildSl 6) [.t 19] [19], qt 21 (.append 6 72) [.t 18, .t 20] [18], qt 3 .mv [.t 21] [21]] [3, 6, 7, 8])))))
 (.region [qo 22 (.bin .add) [.t 8, qi 1], qm 8 22] [3, 6, 7, 8])))))))
 (.seq (.region [qt 23 .mv [.t 3] [3], qt 2 .mv [.t 23] [23]] [2])
 (.ret)))), [.tmp 2]⟩
def v_parse_bareRhs : VFunc := ⟨38, .seq (.region [qo 2 .mv [.c (.sl true 10 [])]] [0])
 (.seq (.region [qo 3 .mv [.c (.sl true 10 [])]] [0, 3])
 (.seq (.seq (.region [qt 9 .mv [.t 0] [0], qo 10 .len [.t 9], qo 11 .mv [qi 0]] [3, 9, 10, 11])
 (.block 0 (.loop (.seq (.region [qo 12 (.bin .lss) [.t 11, .t 10]] [3, 9, 10, 11, 12])
 (.seq (.cond (.t 12)
 (.skip)
 (.exit 0))
 (.seq (.block 1 (.seq (.region [qo 13 (.indexAddr 10) [.t 9, .t 11], qo 14 (.load 10 true) [.t 13],
qo 5 (.alloc [.sl true 9 [], .int .i64 0, .str [], .int .i64 0, .sl true 1 [], .sl true 9 [], .sl true 7 [], .nilh 4, .int .i64 0, .int .i64 0]) [], qn (.store 10) [.t 5, .t 14] [14]] [3, 5, 9, 10, 11])
 (.seq (.region [qo 6 .mv [.c (.sl true 9 [])]] [3, 5, 6, 9, 10, 11])
 (.seq (.seq (.region [qo 15 (.fieldAddr 0) [.t 5], qo 16 (.load 1 false) [.t 15], qo 17 .len [.t 16], qo 18 .mv [qi 0]] [3, 5, 6, 9, 10, 11, 16, 17, 18])
 (.block 2 (.loop (.seq (.region [qo 19 (.bin .lss) [.t 18, .t 17]] [3, 5, 6, 9, 10, 11, 16, 17, 18, 19])
 (.seq (.cond (.t 19)
 (.skip)
 (.exit 2))
 (.seq (.block 3 (.seq (.region [qo 20 (.indexAddr 9) [.t 16, .t 18], qo 21 (.load 9 true) [.t 20],
qo 8 (.alloc [.int .i64 0, .str [], .int .i64 0, .sl true 1 [], .sl true 9 [], .sl true 7 [], .nilh 4, .int .i64 0, .int .i64 0]) [], qn (.store 9) [.t 8, .t 21] [21]] [3, 5, 6, 8, 9, 10, 11, 16, 17, 18])
 (.region [qt 22 .mv [.t 6] [6], qo 23 (.loadT 9 true) [.t 8], qt 24 (.call .wr) [qf 20, .t 23] [23], qt 25 (.buildSl 9) [.t 24] [24], qt 26 (.append 9 144) [.t 22, .t 25] [22], qt 6 .mv [.t 26] [26]] [3, 5, 6, 9, 10, 11, 16, 17, 18])))
 (.region [qo 27 (.bin .add) [.t 18, qi 1], qm 18 27] [3, 5, 6, 9, 10, 11, 16, 17, 18])))))))
 (.region [qt 28 .mv [.t 3] [3], qt 29 .mv [.t 6] [6], qo 30 (.fieldAddr 1) [.t 5], qo 31 (.load 9 true) [.t 30], qt 32 (.call .wr) [qf 20, .t 31] [31],
qt 33 (.build [.sl true 9 [], .int .i64 0, .str [], .int .i64 0, .sl true 1 [], .sl true 9 [], .sl true 7 [], .nilh 4, .int .i64 0, .int .i64 0] [(0, 1), (1, 9)]) [.t 29, .t 32] [29, 32],
qt 34 (.buildSl 10) [.t 33] [33], qt 35 (.append 10 168) [.t 28, .t 34] [28], qt 3 .mv [.t 35] [35]] [3, 9, 10, 11])))))
 (.region [qo 36 (.bin .add) [.t 11, qi 1], qm 11 36] [3, 9, 10, 11])))))))
 (.seq (.region [qt 37 .mv [.t 3] [3], qt 2 .mv [.t 37] [37]] [2])
 (.ret)))), [.tmp 2]⟩
def v_r06_bareBinds : VFunc := ⟨52, .seq (.region [qo 2 .mv [qb false]] [0])
 (.seq (.seq (.region [qo 3 .mv [qi 0]] [0, 3])
 (.block 0 (.loop (.seq (.seq (.region [qm 5 3, qm 6 0, qo 7 .len [.t 6], qo 8 (.bin .lss) [.t 5, .t 7]] [0, 3, 8])
 (.cond (.t 8)
 (.skip)
 (.exit 0)))
 (.seq (.block 1 (.seq (.seq (.region [qm 11 0, qm 12 3, qo 13 (.indexAddr 4) [.t 11, .t 12], qo 14 (.fieldAddr 2) [.t 13], qo 15 (.load 2 true) [.t 14], qo 16 (.build [.int .i64 0, .int .i64 0] []) [],
qo 17 (.eqc true true [.i, .i]) [.t 15, .t 16]] [0, 3, 17])
 (.cond (.t 17)
 (.seq (.region [qo 2 .mv [qb false]] [2])
 (.ret))
 (.skip)))
 (.seq (.region [qo 4 .mv [qi 0]] [0, 3, 4])
 (.block 2 (.loop (.seq (.seq (.region [qm 18 4, qm 19 0, qm 20 3, qo 21 (.indexAddr 4) [.t 19, .t 20], qo 22 (.fieldAddr 1) [.t 21], qo 23 (.load 1 false) [.t 22], qo 24 .len [.t 23], qo 25 (.bin .lss) [.t 18, .t 24]] [0, 3, 4, 25])
 (.cond (.t 25)
 (.skip)
 (.exit 2)))
 (.seq (.block 3 (.seq (.region [qm 28 0, qm 29 3, qo 30 (.indexAddr 4) [.t 28, .t 29], qo 31 (.fieldAddr 1) [.t 30], qo 32 (.load 1 false) [.t 31], qm 33 4, qo 34 (.indexAddr 2) [.t 32, .t 33], qo 35 (.fieldAddr 0) [.t 34],
qo 36 (.load 1 false) [.t 35], qt 37 (.call .wr) [qf 54, .t 36] [36], qo 38 .not [.t 37], qm 39 38, qv 40 0 39 false, qv 41 3 39 false, qg 42 (.indexAddr 4) [.t 40, .t 41] [] 39 false,
qg 43 (.fieldAddr 1) [.t 42] [] 39 false, qg 44 (.load 1 false) [.t 43] [] 39 false, qv 45 4 39 false, qg 46 (.indexAddr 2) [.t 44, .t 45] [] 39 false,
qg 47 (.fieldAddr 1) [.t 46] [] 39 false, qg 48 (.load 1 false) [.t 47] [] 39 false, qg 49 (.call .wr) [qf 55, .t 48] [48] 39 false, qg 50 .not [.t 49] [] 39 false,
qo 51 .pick [.t 39, qb true, .t 50]] [0, 3, 4, 51])
 (.cond (.t 51)
 (.seq (.region [qo 2 .mv [qb false]] [2])
 (.ret))
 (.skip))))
 (.region [qm 26 4, qo 27 (.bin .add) [.t 26, qi 1], qm 4 27] [0, 3, 4]))))))))
 (.region [qm 9 3, qo 10 (.bin .add) [.t 9, qi 1], qm 3 10] [0, 3]))))))
 (.seq (.region [qo 2 .mv [qb true]] [2])
 (.ret))), [.tmp 2]⟩
def v_r06_SamePats : VFunc := ⟨67, .seq (.region [qo 6 .mv [qb false]] [0, 1, 2])
 (.seq (.seq (.region [qm 10 0, qo 11 .len [.t 10], qm 12 1, qo 13 .len [.t 12], qo 14 (.bin .neq) [.t 11, .t 13]] [0, 1, 2, 14])
 (.cond (.t 14)
 (.seq (.region [qo 6 .mv [qb false]] [6])
 (.ret))
 (.skip)))
 (.seq (.seq (.region [qo 7 .mv [qi 0]] [0, 1, 2, 7])
 (.block 0 (.loop (.seq (.seq (.region [qm 15 7, qm 16 0, qo 17 .len [.t 16], qo 18 (.bin .lss) [.t 15, .t 17]] [0, 1, 2, 7, 18])
 (.cond (.t 18)
 (.skip)
 (.exit 0)))
 (.seq (.block 1 (.seq (.regionD [8, 9] [qm 21 0, qm 22 7, qo 23 (.indexAddr 6) [.t 21, .t 22], qo 24 (.load 6 true) [.t 23], qm 25 1, qm 26 7, qo 27 (.indexAddr 6) [.t 25, .t 26], qo 28 (.loadC 6 true) [.t 27],
qo 8 (.allocR 8 [.int .i64 0, .str [], .int .i64 0, .sl true 6 [], .int .i64 0, .int .i64 0]) [],
qo 9 (.allocR 9 [.int .i64 0, .str [], .int .i64 0, .sl true 6 [], .int .i64 0, .int .i64 0]) [], qn (.storeP 6) [.t 8, .t 24] [24], qn (.storeP 6) [.t 9, .t 28] [28]] [(23, 8), (23, 9), (8, 9)] [0, 1, 2, 7, 8, 9])
 (.seq (.region [qo 29 (.fieldAddr 0) [.t 8], qo 30 (.load 1 false) [.t 29], qo 31 (.fieldAddr 0) [.t 9], qo 32 (.load 1 false) [.t 31], qo 33 (.bin .neq) [.t 30, .t 32], qm 34 33,
qg 35 (.fieldAddr 1) [.t 8] [] 34 false, qg 36 (.load 1 false) [.t 35] [] 34 false, qg 37 (.fieldAddr 1) [.t 9] [] 34 false, qg 38 (.load 1 false) [.t 37] [] 34 false,
qg 39 (.bin .neq) [.t 36, .t 38] [] 34 false, qo 40 .pick [.t 34, qb true, .t 39], qm 41 40, qg 42 (.fieldAddr 2) [.t 8] [] 41 false, qg 43 (.load 1 false) [.t 42] [] 41 false,
qg 44 (.fieldAddr 2) [.t 9] [] 41 false, qg 45 (.load 1 false) [.t 44] [] 41 false, qg 46 (.bin .neq) [.t 43, .t 45] [] 41 false, qo 47 .pick [.t 41, qb true, .t 46], qm 48 47,
qv 49 2 48 false, qv 50 49 48 false, qg 51 (.fieldAddr 4) [.t 8] [] 50 true, qg 52 (.load 2 true) [.t 51] [] 50 true, qg 53 (.fieldAddr 4) [.t 9] [] 50 true,
qg 54 (.load 2 true) [.t 53] [] 50 true, qg 55 (.eqc true true [.i, .i]) [.t 52, .t 54] [] 50 true, qg 56 .pick [.t 50, .t 55, qb false] [] 48 false, qo 57 .pick [.t 48, qb true, .t 56],
qm 58 57, qg 59 (.fieldAddr 3) [.t 8] [] 58 false, qg 60 (.load 1 false) [.t 59] [] 58 false, qg 61 (.fieldAddr 3) [.t 9] [] 58 false, qg 62 (.load 1 false) [.t 61] [] 58 false,
qv 63 2 58 false, qg 64 (.call .wr) [qf 51, .t 60, .t 62, .t 63] [60, 62] 58 false, qg 65 .not [.t 64] [] 58 false, qo 66 .pick [.t 58, qb true, .t 65]] [0, 1, 2, 7, 66])
 (.cond (.t 66)
 (.seq (.region [qo 6 .mv [qb false]] [6])
 (.ret))
 (.skip)))))
 (.region [qm 19 7, qo 20 (.bin .add) [.t 19, qi 1], qm 7 20] [0, 1, 2, 7]))))))
 (.seq (.region [qo 6 .mv [qb true]] [6])
 (.ret)))), [.tmp 6]⟩
def v_r06_SameRhs : VFunc := ⟨47, .seq (.region [qo 6 .mv [qb false]] [0, 1, 2])
 (.seq (.seq (.region [qm 8 0, qo 9 .len [.t 8], qm 10 1, qo 11 .len [.t 10], qo 12 (.bin .neq) [.t 9, .t 11]] [0, 1, 2, 12])
 (.cond (.t 12)
 (.seq (.region [qo 6 .mv [qb false]] [6])
 (.ret))
 (.skip)))
 (.seq (.seq (.region [qo 7 .mv [qi 0]] [0, 1, 2, 7])
 (.block 0 (.loop (.seq (.seq (.region [qm 13 7, qm 14 0, qo 15 .len [.t 14], qo 16 (.bin .lss) [.t 13, .t 15]] [0, 1, 2, 7, 16])
 (.cond (.t 16)
 (.skip)
 (.exit 0)))
 (.seq (.block 1 (.seq (.region [qm 19 0, qm 20 7, qo 21 (.indexAddr 10) [.t 19, .t 20], qo 22 (.fieldAddr 0) [.t 21], qo 23 (.load 1 false) [.t 22], qm 24 1, qm 25 7, qo 26 (.indexAddr 10) [.t 24, .t 25],
qo 27 (.fieldAddr 0) [.t 26], qo 28 (.load 1 false) [.t 27], qm 29 2, qt 30 (.call .wr) [qf 53, .t 23, .t 28, .t 29] [23, 28], qo 31 .not [.t 30], qm 32 31, qv 33 0 32 false,
qv 34 7 32 false, qg 35 (.indexAddr 10) [.t 33, .t 34] [] 32 false, qg 36 (.fieldAddr 1) [.t 35] [] 32 false, qg 37 (.load 9 true) [.t 36] [] 32 false, qv 38 1 32 false, qv 39 7 32 false,
qg 40 (.indexAddr 10) [.t 38, .t 39] [] 32 false, qg 41 (.fieldAddr 1) [.t 40] [] 32 false, qg 42 (.load 9 true) [.t 41] [] 32 false, qv 43 2 32 false,
qg 44 (.call .wr) [qf 22, .t 37, .t 42, .t 43] [37, 42] 32 false, qg 45 .not [.t 44] [] 32 false, qo 46 .pick [.t 32, qb true, .t 45]] [0, 1, 2, 7, 46])
 (.cond (.t 46)
 (.seq (.region [qo 6 .mv [qb false]] [6])
 (.ret))
 (.skip))))
 (.region [qm 17 7, qo 18 (.bin .add) [.t 17, qi 1], qm 7 18] [0, 1, 2, 7]))))))
 (.seq (.region [qo 6 .mv [qb true]] [6])
 (.ret)))), [.tmp 6]⟩
def v_r06_SameExprs : VFunc := ⟨30, .seq (.region [qo 6 .mv [qb false]] [0, 1, 2])
 (.seq (.seq (.region [qm 8 0, qo 9 .len [.t 8], qm 10 1, qo 11 .len [.t 10], qo 12 (.bin .neq) [.t 9, .t 11]] [0, 1, 2, 12])
 (.cond (.t 12)
 (.seq (.region [qo 6 .mv [qb false]] [6])
 (.ret))
 (.skip)))
 (.seq (.seq (.region [qo 7 .mv [qi 0]] [0, 1, 2, 7])
 (.block 0 (.loop (.seq (.seq (.region [qm 13 7, qm 14 0, qo 15 .len [.t 14], qo 16 (.bin .lss) [.t 13, .t 15]] [0, 1, 2, 7, 16])
 (.cond (.t 16)
 (.skip)
 (.exit 0)))
 (.seq (.block 1 (.seq (.region [qm 19 0, qm 20 7, qo 21 (.indexAddr 9) [.t 19, .t 20], qo 22 (.load 9 true) [.t 21], qm 23 1, qm 24 7, qo 25 (.indexAddr 9) [.t 23, .t 24], qo 26 (.load 9 true) [.t 25], qm 27 2,
qt 28 (.call .wr) [qf 22, .t 22, .t 26, .t 27] [22, 26], qo 29 .not [.t 28]] [0, 1, 2, 7, 29])
 (.cond (.t 29)
 (.seq (.region [qo 6 .mv [qb false]] [6])
 (.ret))
 (.skip))))
 (.region [qm 17 7, qo 18 (.bin .add) [.t 17, qi 1], qm 7 18] [0, 1, 2, 7]))))))
 (.seq (.region [qo 6 .mv [qb true]] [6])
 (.ret)))), [.tmp 6]⟩
def v_r06_barePats : VFunc := ⟨26, .seq (.region [qo 2 .mv [qb false]] [0])
 (.seq (.seq (.region [qo 3 .mv [qi 0]] [0, 3])
 (.block 0 (.loop (.seq (.seq (.region [qm 4 3, qm 5 0, qo 6 .len [.t 5], qo 7 (.bin .lss) [.t 4, .t 6]] [0, 3, 7])
 (.cond (.t 7)
 (.skip)
 (.exit 0)))
 (.seq (.block 1 (.seq (.region [qm 10 0, qm 11 3, qo 12 (.indexAddr 6) [.t 10, .t 11], qo 13 (.fieldAddr 4) [.t 12], qo 14 (.load 2 true) [.t 13], qo 15 (.build [.int .i64 0, .int .i64 0] []) [],
qo 16 (.eqc true true [.i, .i]) [.t 14, .t 15], qm 17 16, qv 18 0 17 false, qv 19 3 17 false, qg 20 (.indexAddr 6) [.t 18, .t 19] [] 17 false, qg 21 (.fieldAddr 3) [.t 20] [] 17 false,
qg 22 (.load 1 false) [.t 21] [] 17 false, qg 23 (.call .wr) [qf 54, .t 22] [22] 17 false, qg 24 .not [.t 23] [] 17 false, qo 25 .pick [.t 17, qb true, .t 24]] [0, 3, 25])
 (.cond (.t 25)
 (.seq (.region [qo 2 .mv [qb false]] [2])
 (.ret))
 (.skip))))
 (.region [qm 8 3, qo 9 (.bin .add) [.t 8, qi 1], qm 3 9] [0, 3]))))))
 (.seq (.region [qo 2 .mv [qb true]] [2])
 (.ret))), [.tmp 2]⟩
def v_r06_bareRhs : VFunc := ⟨27, .seq (.region [qo 2 .mv [qb false]] [0])
 (.seq (.seq (.region [qo 3 .mv [qi 0]] [0, 3])
 (.block 0 (.loop (.seq (.seq (.region [qm 4 3, qm 5 0, qo 6 .len [.t 5], qo 7 (.bin .lss) [.t 4, .t 6]] [0, 3, 7])
 (.cond (.t 7)
 (.skip)
 (.exit 0)))
 (.seq (.block 1 (.seq (.region [qm 10 0, qm 11 3, qo 12 (.indexAddr 10) [.t 10, .t 11], qo 13 (.fieldAddr 0) [.t 12], qo 14 (.load 1 false) [.t 13], qt 15 (.call .wr) [qf 23, .t 14] [14], qo 16 .not [.t 15], qm 17 16,
qv 18 0 17 false, qv 19 3 17 false, qg 20 (.indexAddr 10) [.t 18, .t 19] [] 17 false, qg 21 (.fieldAddr 1) [.t 20] [] 17 false, qg 22 (.load 9 true) [.t 21] [] 17 false,
qg 23 (.buildSl 9) [.t 22] [22] 17 false, qg 24 (.call .wr) [qf 23, .t 23] [23] 17 false, qg 25 .not [.t 24] [] 17 false, qo 26 .pick [.t 17, qb true, .t 25]] [0, 3, 26])
 (.cond (.t 26)
 (.seq (.region [qo 2 .mv [qb false]] [2])
 (.ret))
 (.skip))))
 (.region [qm 8 3, qo 9 (.bin .add) [.t 8, qi 1], qm 3 9] [0, 3]))))))
 (.seq (.region [qo 2 .mv [qb true]] [2])
 (.ret))), [.tmp 2]⟩
def v_layout_Lay : VFunc := ⟨99, .seq (.region [qo 2 .mv [.c (.sl true 6 [])]] [0])
 (.seq (.region [qo 9 (.build [.int .i64 0, .int .i64 0] [(0, 1), (1, 1)]) [qi 1, qi 1], qo 10 (.build [.sl true 6 [], .nilh 2, .bool false, .int .i64 0, .int .i64 0] [(2, 1), (3, 2)]) [qb true, .t 9],
qt 11 .box [.t 10] [10], qm 3 11] [0, 3])
 (.seq (.region [qo 4 .mv [qi 0]] [0, 3, 4])
 (.seq (.seq (.region [qt 12 .mv [.t 0] [0], qo 13 .len [.t 12], qo 14 .mv [qi 0]] [3, 4, 12, 13, 14])
 (.block 0 (.loop (.seq (.region [qo 15 (.bin .lss) [.t 14, .t 13]] [3, 4, 12, 13, 14, 15])
 (.seq (.cond (.t 15)
 (.skip)
 (.exit 0))
 (.seq (.block 1 (.seq (.region [qm 16 14, qo 17 (.indexAddr 6) [.t 12, .t 14], qo 18 (.load 6 true) [.t 17], qo 6 (.alloc [.int .i64 0, .str [], .int .i64 0, .int .i64 0, .int .i64 0, .bool false]) [], qm 5 16,
qn (.store 6) [.t 6, .t 18] []] [3, 4, 5, 6, 12, 13, 14])
 (.seq (.region [qm 19 3, qo 20 (.fieldAddr 3) [.t 6], qo 21 (.load 2 true) [.t 20], qo 22 .nilCheck [.t 19], qo 23 (.fieldAddr 3) [.t 22], qn (.store 2) [.t 23, .t 21] []] [3, 4, 5, 6, 12, 13, 14])
 (.seq (.region [qm 24 5, qo 25 (.bin .eql) [.t 24, qi 0], qm 26 25, qg 27 (.fieldAddr 3) [.t 6] [] 26 false, qg 28 (.fieldAddr 0) [.t 27] [] 26 false, qg 29 (.load 1 false) [.t 28] [] 26 false,
qv 30 4 26 false, qg 31 (.bin .neq) [.t 29, .t 30] [] 26 false, qo 32 .pick [.t 26, qb true, .t 31], qm 7 32] [3, 6, 7, 12, 13, 14])
 (.seq (.region [qo 33 (.fieldAddr 3) [.t 6], qo 34 (.fieldAddr 0) [.t 33], qo 35 (.load 1 false) [.t 34], qm 4 35] [3, 4, 6, 7, 12, 13, 14])
 (.seq (.seq (.region [qm 36 3, qo 37 .nilCheck [.t 36], qo 38 (.fieldAddr 2) [.t 37], qo 39 (.load 1 false) [.t 38], qm 40 39, qv 41 3 40 true, qg 42 (.load 6 true) [.t 6] [] 40 true,
qg 43 (.call .wr) [qf 82, .t 41, .t 42] [] 40 true, qo 44 .pick [.t 40, .t 43, qb false]] [3, 4, 6, 7, 12, 13, 14, 44])
 (.cond (.t 44)
 (.region [qo 7 .mv [qb false]] [3, 4, 6, 7, 12, 13, 14])
 (.skip)))
 (.seq (.seq (.region [qm 45 7] [3, 4, 6, 12, 13, 14, 45])
 (.cond (.t 45)
 (.region [qm 46 3, qo 47 (.load 6 true) [.t 6], qo 48 (.call .wr) [qf 83, .t 46, .t 47]] [3, 4, 6, 12, 13, 14])
 (.skip)))
 (.seq (.region [qm 49 3, qo 50 (.load 6 true) [.t 6], qo 51 (.call .wr) [qf 84, .t 49, .t 50]] [3, 4, 6, 12, 13, 14])
 (.seq (.region [qm 52 3, qm 53 3, qo 54 .nilCheck [.t 53], qo 55 (.fieldAddr 0) [.t 54], qo 56 (.loadT 1 false) [.t 55], qo 57 (.load 6 true) [.t 6], qo 58 (.buildSl 6) [.t 57],
qt 59 (.append 6 56) [.t 56, .t 58] [56], qo 60 .nilCheck [.t 52], qo 61 (.fieldAddr 0) [.t 60], qn (.store 1) [.t 61, .t 59] [59]] [3, 4, 6, 12, 13, 14])
 (.region [qm 62 3, qo 63 (.load 6 true) [.t 6], qo 64 (.call .wr) [qf 85, .t 62, .t 63]] [3, 4, 12, 13, 14]))))))))))
 (.region [qo 65 (.bin .add) [.t 14, qi 1], qm 14 65] [3, 4, 12, 13, 14])))))))
 (.seq (.seq (.region [qm 66 3, qo 67 .nilCheck [.t 66], qo 68 (.fieldAddr 2) [.t 67], qo 69 (.load 1 false) [.t 68]] [3, 69])
 (.cond (.t 69)
 (.seq (.region [qm 70 3, qo 71 (.call .wr) [qf 86, .t 70, .c (.str [123])]] [3])
 (.region [qm 72 3, qo 73 (.call .wr) [qf 86, .t 72, .c (.str [125])]] [3]))
 (.skip)))
 (.seq (.seq (.region [qm 74 3, qo 75 .nilCheck [.t 74], qo 76 (.fieldAddr 1) [.t 75], qo 77 (.load 1 false) [.t 76], qo 78 .len [.t 77], qo 79 (.bin .sub) [.t 78, qi 1], qm 8 79] [3, 8])
 (.block 2 (.loop (.seq (.seq (.region [qm 80 8, qo 81 (.bin .geq) [.t 80, qi 0]] [3, 8, 81])
 (.cond (.t 81)
 (.skip)
 (.exit 2)))
 (.seq (.block 3 (.seq (.region [qm 84 3, qo 85 .nilCheck [.t 84], qo 86 (.fieldAddr 1) [.t 85], qo 87 (.load 1 false) [.t 86], qm 88 8, qo 89 (.indexAddr 2) [.t 87, .t 88], qo 90 (.fieldAddr 0) [.t 89],
qo 91 (.load 1 false) [.t 90], qo 92 (.bin .eql) [.t 91, qi 0]] [3, 8, 92])
 (.cond (.t 92)
 (.region [qm 93 3, qo 94 (.call .wr) [qf 86, .t 93, .c (.str [125])]] [3, 8])
 (.skip))))
 (.region [qm 82 8, qo 83 (.bin .sub) [.t 82, qi 1], qm 8 83] [3, 8]))))))
 (.seq (.region [qm 95 3, qo 96 .nilCheck [.t 95], qo 97 (.fieldAddr 0) [.t 96], qo 98 (.load 1 false) [.t 97], qt 2 .mv [.t 98] [98]] [2])
 (.ret))))))), [.tmp 2]⟩
def v_parse_parser_is : VFunc := ⟨22, .seq (.region [qo 4 .mv [qb false]] [0, 1])
 (.seq (.region [qm 6 0, qo 7 (.call .wr) [qf 87, .t 6], qo 5 (.alloc [.int .i64 0, .str [], .int .i64 0, .int .i64 0, .int .i64 0, .bool false]) [], qn (.store 6) [.t 5, .t 7] []] [1, 5])
 (.seq (.region [qo 8 (.fieldAddr 0) [.t 5], qo 9 (.load 1 false) [.t 8], qo 10 (.bin .eql) [.t 9, qi 5], qm 11 10, qg 12 (.fieldAddr 0) [.t 5] [] 11 false, qg 13 (.load 1 false) [.t 12] [] 11 false,
qg 14 (.bin .eql) [.t 13, qi 6] [] 11 false, qo 15 .pick [.t 11, qb true, .t 14], qm 16 15, qg 17 (.fieldAddr 1) [.t 5] [] 16 true, qg 18 (.load 1 false) [.t 17] [] 16 true, qv 19 1 16 true,
qg 20 (.bin .eql) [.t 18, .t 19] [] 16 true, qo 21 .pick [.t 16, .t 20, qb false], qm 4 21] [4])
 (.ret))), [.tmp 4]⟩
def v_parse_parser_next : VFunc := ⟨31, .seq (.region [qo 2 (.alloc [.int .i64 0, .str [], .int .i64 0, .int .i64 0, .int .i64 0, .bool false]) []] [0, 2])
 (.seq (.region [qm 4 0, qo 5 (.call .wr) [qf 87, .t 4], qo 3 (.alloc [.int .i64 0, .str [], .int .i64 0, .int .i64 0, .int .i64 0, .bool false]) [], qn (.store 6) [.t 3, .t 5] []] [0, 2, 3])
 (.seq (.seq (.region [qm 6 0, qo 7 .nilCheck [.t 6], qo 8 (.fieldAddr 2) [.t 7], qo 9 (.load 1 false) [.t 8], qo 10 .not [.t 9], qm 11 10, qv 12 0 11 true, qg 13 .nilCheck [.t 12] [] 11 true,
qg 14 (.fieldAddr 1) [.t 13] [] 11 true, qg 15 (.load 1 false) [.t 14] [] 11 true, qv 16 0 11 true, qg 17 .nilCheck [.t 16] [] 11 true, qg 18 (.fieldAddr 0) [.t 17] [] 11 true,
qg 19 (.load 1 false) [.t 18] [] 11 true, qg 20 .len [.t 19] [] 11 true, qg 21 (.bin .lss) [.t 15, .t 20] [] 11 true, qo 22 .pick [.t 11, .t 21, qb false]] [0, 2, 3, 22])
 (.cond (.t 22)
 (.region [qm 23 0, qo 24 .nilCheck [.t 23], qo 25 (.fieldAddr 1) [.t 24], qo 26 (.load 1 false) [.t 25], qo 27 (.bin .add) [.t 26, qi 1], qo 28 .nilCheck [.t 23], qo 29 (.fieldAddr 1) [.t 28],
qn (.store 1) [.t 29, .t 27] []] [2, 3])
 (.skip)))
 (.seq (.region [qo 30 (.load 6 true) [.t 3], qn (.store 6) [.t 2, .t 30] []] [2])
 (.ret)))), [.cell 2 6 true]⟩
def v_parse_parser_fails : VFunc := ⟨41, .seq (.seq (.region [qm 6 0, qo 7 .nilCheck [.t 6], qo 8 (.fieldAddr 2) [.t 7], qo 9 (.load 1 false) [.t 8]] [0, 1, 9])
 (.cond (.t 9)
 (.ret)
 (.skip)))
 (.seq (.region [qo 10 (.build [.int .i64 0, .int .i64 0] [(0, 1), (1, 1)]) [qi 1, qi 1], qo 4 (.alloc [.int .i64 0, .int .i64 0]) [], qn (.store 2) [.t 4, .t 10] []] [0, 1, 4])
 (.seq (.seq (.region [qm 11 0, qo 12 .nilCheck [.t 11], qo 13 (.fieldAddr 0) [.t 12], qo 14 (.load 1 false) [.t 13], qo 15 .len [.t 14], qm 5 15] [0, 1, 4, 5])
 (.seq (.region [qm 16 5, qo 17 (.bin .gtr) [.t 16, qi 0]] [0, 1, 4, 5, 17])
 (.cond (.t 17)
 (.region [qm 18 0, qo 19 .nilCheck [.t 18], qo 20 (.fieldAddr 0) [.t 19], qo 21 (.load 1 false) [.t 20], qm 22 0, qo 23 .nilCheck [.t 22], qo 24 (.fieldAddr 1) [.t 23], qo 25 (.load 1 false) [.t 24],
qm 26 5, qo 27 (.bin .sub) [.t 26, qi 1], qo 28 .min [.t 25, .t 27], qo 29 (.indexAddr 6) [.t 21, .t 28], qo 30 (.fieldAddr 3) [.t 29], qo 31 (.load 2 true) [.t 30],
qn (.store 2) [.t 4, .t 31] []] [0, 1, 4])
 (.skip))))
 (.seq (.region [qm 32 0, qo 33 .nilCheck [.t 32], qo 34 (.fieldAddr 2) [.t 33], qn (.store 1) [.t 34, qb true] []] [0, 1, 4])
 (.region [qm 35 0, qm 36 1, qo 37 (.load 2 true) [.t 4], qo 38 (.build [.int .i64 0, .int .i64 0, .int .i64 0] [(0, 1), (1, 2)]) [.t 36, .t 37], qo 39 .nilCheck [.t 35], qo 40 (.fieldAddr 3) [.t 39],
qn (.store 3) [.t 40, .t 38] []] [])))), []⟩
def v_parse_parser_data : VFunc := ⟨45, .seq (.region [qo 2 (.alloc [.str [], .sl true 1 [], .sl true 4 [], .int .i64 0, .int .i64 0]) []] [0, 2])
 (.seq (.region [qm 5 0, qo 6 (.call .wr) [qf 58, .t 5]] [0, 2])
 (.seq (.region [qm 7 0, qo 8 (.call .wr) [qf 88, .t 7, qi 2], qo 3 (.alloc [.int .i64 0, .str [], .int .i64 0, .int .i64 0, .int .i64 0, .bool false]) [], qn (.store 6) [.t 3, .t 8] []] [0, 2, 3])
 (.seq (.region [qo 9 (.fieldAddr 1) [.t 3], qo 10 (.load 1 false) [.t 9], qo 11 (.fieldAddr 3) [.t 3], qo 12 (.load 2 true) [.t 11],
qo 13 (.build [.str [], .sl true 1 [], .sl true 4 [], .int .i64 0, .int .i64 0] [(0, 1), (3, 2)]) [.t 10, .t 12],
qo 4 (.alloc [.str [], .sl true 1 [], .sl true 4 [], .int .i64 0, .int .i64 0]) [], qn (.store 5) [.t 4, .t 13] [13]] [0, 2, 4])
 (.seq (.block 0 (.loop (.seq (.seq (.region [qm 14 0, qo 15 (.call .wr) [qf 66, .t 14, qi 1]] [0, 2, 4, 15])
 (.cond (.t 15)
 (.skip)
 (.exit 0)))
 (.block 1 (.region [qo 16 (.fieldAddr 1) [.t 4], qo 17 (.loadTL 2 1 false) [.t 16], qm 18 0, qo 19 (.call (.fr 2)) [qf 58, .t 18], qo 20 (.field 1 1 false) [.t 19], qo 21 (.buildSl 1) [.t 20],
qt 22 (.append 1 16) [.t 17, .t 21] [17], qo 23 (.fieldAddr 1) [.t 4], qn (.store 1) [.t 23, .t 22] [22]] [0, 2, 4])))))
 (.seq (.region [qm 24 0, qo 25 (.call .wr) [qf 29, .t 24, .c (.str [61])]] [0, 2, 4])
 (.seq (.region [qo 26 (.fieldAddr 2) [.t 4], qo 27 (.loadTL 2 1 false) [.t 26], qm 28 0, qo 29 (.call (.fr 2)) [qf 89, .t 28], qt 30 (.buildSl 4) [.t 29] [29], qt 31 (.append 4 56) [.t 27, .t 30] [27],
qo 32 (.fieldAddr 2) [.t 4], qn (.store 1) [.t 32, .t 31] [31]] [0, 2, 4])
 (.seq (.block 2 (.loop (.seq (.seq (.region [qm 33 0, qo 34 (.call .wr) [qf 57, .t 33, .c (.str [124])]] [0, 2, 4, 34])
 (.cond (.t 34)
 (.skip)
 (.exit 2)))
 (.block 3 (.seq (.region [qm 35 0, qo 36 (.call .wr) [qf 58, .t 35]] [0, 2, 4])
 (.region [qo 37 (.fieldAddr 2) [.t 4], qo 38 (.loadTL 2 1 false) [.t 37], qm 39 0, qo 40 (.call (.fr 2)) [qf 89, .t 39], qt 41 (.buildSl 4) [.t 40] [40], qt 42 (.append 4 56) [.t 38, .t 41] [38],
qo 43 (.fieldAddr 2) [.t 4], qn (.store 1) [.t 43, .t 42] [42]] [0, 2, 4]))))))
 (.seq (.region [qo 44 (.loadT 5 true) [.t 4], qn (.store 5) [.t 2, .t 44] [44]] [2])
 (.ret))))))))), [.cell 2 5 true]⟩
def v_parse_parser_fixity : VFunc := ⟨46, .seq (.region [qo 2 (.alloc [.str [], .int .i64 0, .int .i64 0, .int .i64 0, .int .i64 0]) []] [0, 2])
 (.seq (.region [qo 6 (.build [.str [], .int .i64 0, .int .i64 0, .int .i64 0, .int .i64 0] [(1, 1)]) [qi 0], qo 3 (.alloc [.str [], .int .i64 0, .int .i64 0, .int .i64 0, .int .i64 0]) [],
qn (.store 5) [.t 3, .t 6] []] [0, 2, 3])
 (.seq (.seq (.region [qm 7 0, qo 8 (.call .wr) [qf 58, .t 7], qo 9 (.field 1 1 false) [.t 8]] [0, 2, 3, 9])
 (.block 0 (.seq (.region [qo 11 (.bin .eql) [.t 9, .c (.str [105, 110, 102, 105, 120, 108])], qm 10 11] [0, 2, 3, 9, 10])
 (.cond (.t 10)
 (.region [qo 12 (.fieldAddr 1) [.t 3], qn (.store 1) [.t 12, qi 1] []] [0, 2, 3])
 (.seq (.region [qo 14 (.bin .eql) [.t 9, .c (.str [105, 110, 102, 105, 120, 114])], qm 13 14] [0, 2, 3, 13])
 (.cond (.t 13)
 (.region [qo 15 (.fieldAddr 1) [.t 3], qn (.store 1) [.t 15, qi 2] []] [0, 2, 3])
 (.skip)))))))
 (.seq (.seq (.region [qm 16 0, qo 17 (.call .wr) [qf 87, .t 16], qo 4 (.alloc [.int .i64 0, .str [], .int .i64 0, .int .i64 0, .int .i64 0, .bool false]) [], qn (.store 6) [.t 4, .t 17] []] [0, 2, 3, 4])
 (.seq (.region [qo 18 (.fieldAddr 0) [.t 4], qo 19 (.load 1 false) [.t 18], qo 20 (.bin .eql) [.t 19, qi 4], qm 21 20, qg 22 (.fieldAddr 2) [.t 4] [] 21 true, qg 23 (.load 1 false) [.t 22] [] 21 true,
qg 24 (.bin .lss) [.t 23, qi 0] [] 21 true, qv 25 24 21 true, qg 26 (.fieldAddr 2) [.t 4] [] 25 false, qg 27 (.load 1 false) [.t 26] [] 25 false, qg 28 (.bin .gtr) [.t 27, qi 9] [] 25 false,
qg 29 .pick [.t 25, qb true, .t 28] [] 21 true, qo 30 .pick [.t 21, .t 29, qb false]] [0, 2, 3, 30])
 (.cond (.t 30)
 (.region [qm 31 0, qo 32 (.call .wr) [qf 59, .t 31, qi 60]] [0, 2, 3])
 (.skip))))
 (.seq (.region [qm 33 0, qo 34 (.call .wr) [qf 88, .t 33, qi 4], qo 35 (.field 2 1 false) [.t 34], qo 36 (.fieldAddr 2) [.t 3], qn (.store 1) [.t 36, .t 35] []] [0, 2, 3])
 (.seq (.region [qm 37 0, qo 38 (.call .wr) [qf 88, .t 37, qi 3], qo 5 (.alloc [.int .i64 0, .str [], .int .i64 0, .int .i64 0, .int .i64 0, .bool false]) [], qn (.store 6) [.t 5, .t 38] []] [2, 3, 5])
 (.seq (.regionD [] [qo 39 (.fieldAddr 1) [.t 5], qo 40 (.load 1 false) [.t 39], qo 41 (.fieldAddr 3) [.t 5], qo 42 (.load 2 true) [.t 41], qo 43 (.fieldAddr 0) [.t 3], qn (.storeP 1) [.t 43, .t 40] [],
qo 44 (.fieldAddr 3) [.t 3], qn (.store 2) [.t 44, .t 42] []] [(41, 43)] [2, 3])
 (.seq (.region [qo 45 (.load 5 true) [.t 3], qn (.store 5) [.t 2, .t 45] []] [2])
 (.ret)))))))), [.cell 2 5 true]⟩
def v_parse_parser_clause : VFunc := ⟨72, .seq (.region [qo 4 .mv [.c (.nilh 4)]] [0, 1, 5])
 (.seq (.region [qo 8 (.build [.int .i64 0, .str [], .int .i64 0, .int .i64 0, .int .i64 0, .bool false] []) [], qo 5 (.alloc [.int .i64 0, .str [], .int .i64 0, .int .i64 0, .int .i64 0, .bool false]) [],
qn (.store 6) [.t 5, .t 8] []] [0, 1, 5])
 (.seq (.seq (.region [qm 9 0, qo 10 (.call .wr) [qf 57, .t 9, .c (.str [40])]] [0, 1, 5, 10])
 (.cond (.t 10)
 (.seq (.region [qm 11 0, qo 12 (.call .wr) [qf 58, .t 11]] [0, 1, 5])
 (.seq (.region [qm 13 0, qo 14 (.call .wr) [qf 88, .t 13, qi 3], qn (.store 6) [.t 5, .t 14] []] [0, 1, 5])
 (.region [qm 15 0, qo 16 (.call .wr) [qf 29, .t 15, .c (.str [41])]] [0, 1, 5])))
 (.region [qm 17 0, qo 18 (.call .wr) [qf 88, .t 17, qi 1], qn (.store 6) [.t 5, .t 18] []] [0, 1, 5])))
 (.seq (.region [qo 19 (.build [.sl true 6 [], .sl true 10 []] []) [], qo 6 (.alloc [.sl true 6 [], .sl true 10 []]) [], qn (.store 2) [.t 6, .t 19] [19]] [0, 1, 5, 6])
 (.seq (.block 0 (.loop (.seq (.seq (.region [qm 20 0, qo 21 (.call .wr) [qf 90, .t 20]] [0, 1, 5, 6, 21])
 (.cond (.t 21)
 (.skip)
 (.exit 0)))
 (.block 1 (.region [qo 22 (.fieldAddr 0) [.t 6], qo 23 (.loadTL 5 1 false) [.t 22], qm 24 0, qo 25 (.call (.fr 5)) [qf 91, .t 24], qt 26 (.buildSl 6) [.t 25] [25], qt 27 (.append 6 72) [.t 23, .t 26] [23],
qo 28 (.fieldAddr 0) [.t 6], qn (.store 1) [.t 28, .t 27] [27]] [0, 1, 5, 6])))))
 (.seq (.region [qm 29 0, qo 30 (.call .wr) [qf 92, .t 29, .c (.str [61])], qo 31 (.fieldAddr 1) [.t 6], qn (.store 1) [.t 31, .t 30] [30]] [1, 5, 6])
 (.seq (.seq (.region [qm 32 1, qo 33 .len [.t 32], qm 7 33] [1, 5, 6, 7])
 (.seq (.region [qm 34 7, qo 35 (.bin .gtr) [.t 34, qi 0], qm 36 35, qv 37 1 36 true, qv 38 7 36 true, qg 39 (.bin .sub) [.t 38, qi 1] [] 36 true, qg 40 (.indexAddr 4) [.t 37, .t 39] [] 36 true,
qg 41 (.fieldAddr 0) [.t 40] [] 36 true, qg 42 (.load 1 false) [.t 41] [] 36 true, qg 43 (.fieldAddr 1) [.t 5] [] 36 true, qg 44 (.load 1 false) [.t 43] [] 36 true,
qg 45 (.bin .eql) [.t 42, .t 44] [] 36 true, qo 46 .pick [.t 36, .t 45, qb false]] [1, 5, 6, 7, 46])
 (.cond (.t 46)
 (.seq (.region [qm 47 1, qm 48 7, qo 49 (.bin .sub) [.t 48, qi 1], qm 50 1, qm 51 7, qo 52 (.bin .sub) [.t 51, qi 1], qo 53 (.indexAddr 4) [.t 50, .t 52], qo 54 (.fieldAddr 1) [.t 53],
qo 55 (.loadT 1 false) [.t 54], qo 56 (.load 2 true) [.t 6], qt 57 (.buildSl 2) [.t 56] [56], qt 58 (.append 2 48) [.t 55, .t 57] [55], qo 59 (.indexAddr 4) [.t 47, .t 49],
qo 60 (.fieldAddr 1) [.t 59], qn (.store 1) [.t 60, .t 58] [58]] [1, 5])
 (.seq (.region [qt 61 .mv [.t 1] [1], qt 4 .mv [.t 61] [61]] [4, 5])
 (.ret)))
 (.skip))))
 (.seq (.region [qt 62 .mv [.t 1] [1], qo 63 (.fieldAddr 1) [.t 5], qo 64 (.load 1 false) [.t 63], qo 65 (.loadT 2 true) [.t 6], qt 66 (.buildSl 2) [.t 65] [65], qo 67 (.fieldAddr 3) [.t 5],
qo 68 (.load 2 true) [.t 67], qt 69 (.build [.str [], .sl true 2 [], .int .i64 0, .int .i64 0] [(0, 1), (1, 1), (2, 2)]) [.t 64, .t 66, .t 68] [66], qt 70 (.buildSl 4) [.t 69] [69],
qo 71 (.appendH 4 56) [.t 62, .t 70], qt 4 .thaw [.t 71] [71]] [4, 5])
 (.ret)))))))), [.tmp 4]⟩
def v_parse_grower_rhs : VFunc := ⟨44, .seq (.region [qo 4 .mv [.c (.sl true 10 [])]] [0, 1])
 (.seq (.region [qo 5 .mv [.c (.sl true 10 [])]] [0, 1, 5])
 (.seq (.seq (.region [qt 11 .mv [.t 1] [1], qo 12 .len [.t 11], qo 13 .mv [qi 0]] [0, 5, 11, 12, 13])
 (.block 0 (.loop (.seq (.region [qo 14 (.bin .lss) [.t 13, .t 12]] [0, 5, 11, 12, 13, 14])
 (.seq (.cond (.t 14)
 (.skip)
 (.exit 0))
 (.seq (.block 1 (.seq (.region [qo 15 (.indexAddr 10) [.t 11, .t 13], qo 16 (.load 10 true) [.t 15],
qo 7 (.alloc [.sl true 9 [], .int .i64 0, .str [], .int .i64 0, .sl true 1 [], .sl true 9 [], .sl true 7 [], .nilh 4, .int .i64 0, .int .i64 0]) [], qn (.store 10) [.t 7, .t 16] [16]] [0, 5, 7, 11, 12, 13])
 (.seq (.region [qo 8 .mv [.c (.sl true 9 [])]] [0, 5, 7, 8, 11, 12, 13])
 (.seq (.seq (.region [qo 17 (.fieldAddr 0) [.t 7], qo 18 (.load 1 false) [.t 17], qo 19 .len [.t 18], qo 20 .mv [qi 0]] [0, 5, 7, 8, 11, 12, 13, 18, 19, 20])
 (.block 2 (.loop (.seq (.region [qo 21 (.bin .lss) [.t 20, .t 19]] [0, 5, 7, 8, 11, 12, 13, 18, 19, 20, 21])
 (.seq (.cond (.t 21)
 (.skip)
 (.exit 2))
 (.seq (.block 3 (.seq (.region [qo 22 (.indexAddr 9) [.t 18, .t 20], qo 23 (.load 9 true) [.t 22],
qo 10 (.alloc [.int .i64 0, .str [], .int .i64 0, .sl true 1 [], .sl true 9 [], .sl true 7 [], .nilh 4, .int .i64 0, .int .i64 0]) [], qn (.store 9) [.t 10, .t 23] [23]] [0, 5, 7, 8, 10, 11, 12, 13, 18, 19, 20])
 (.region [qt 24 .mv [.t 8] [8], qm 25 0, qo 26 (.loadT 9 true) [.t 10], qt 27 (.call .wr) [qf 35, .t 25, .t 26] [26], qt 28 (.buildSl 9) [.t 27] [27], qt 29 (.append 9 144) [.t 24, .t 28] [24],
qt 8 .mv [.t 29] [29]] [0, 5, 7, 8, 11, 12, 13, 18, 19, 20])))
 (.region [qo 30 (.bin .add) [.t 20, qi 1], qm 20 30] [0, 5, 7, 8, 11, 12, 13, 18, 19, 20])))))))
 (.seq (.region [qt 31 .mv [.t 8] [8], qo 32 (.fieldAddr 0) [.t 7], qn (.store 1) [.t 32, .t 31] [31]] [0, 5, 7, 11, 12, 13])
 (.seq (.region [qm 33 0, qo 34 (.fieldAddr 1) [.t 7], qo 35 (.load 9 true) [.t 34], qt 36 (.call .wr) [qf 35, .t 33, .t 35] [35], qo 37 (.fieldAddr 1) [.t 7], qn (.store 9) [.t 37, .t 36] [36]] [0, 5, 7, 11, 12, 13])
 (.region [qt 38 .mv [.t 5] [5], qo 39 (.loadT 10 true) [.t 7], qt 40 (.buildSl 10) [.t 39] [39], qt 41 (.append 10 168) [.t 38, .t 40] [38], qt 5 .mv [.t 41] [41]] [0, 5, 11, 12, 13])))))))
 (.region [qo 42 (.bin .add) [.t 13, qi 1], qm 13 42] [0, 5, 11, 12, 13])))))))
 (.seq (.region [qt 43 .mv [.t 5] [5], qt 4 .mv [.t 43] [43]] [4])
 (.ret)))), [.tmp 4]⟩
def v_r06_SameTypes : VFunc := ⟨68, .seq (.region [qo 4 .mv [qb false]] [0, 1])
 (.seq (.seq (.region [qm 6 0, qo 7 .len [.t 6], qm 8 1, qo 9 .len [.t 8], qo 10 (.bin .neq) [.t 7, .t 9]] [0, 1, 10])
 (.cond (.t 10)
 (.seq (.region [qo 4 .mv [qb false]] [4])
 (.ret))
 (.skip)))
 (.seq (.seq (.region [qo 5 .mv [qi 0]] [0, 1, 5])
 (.block 0 (.loop (.seq (.seq (.region [qm 11 5, qm 12 0, qo 13 .len [.t 12], qo 14 (.bin .lss) [.t 11, .t 13]] [0, 1, 5, 14])
 (.cond (.t 14)
 (.skip)
 (.exit 0)))
 (.seq (.block 1 (.seq (.region [qm 17 0, qm 18 5, qo 19 (.indexAddr 4) [.t 17, .t 18], qo 20 (.fieldAddr 0) [.t 19], qo 21 (.load 1 false) [.t 20], qm 22 1, qm 23 5, qo 24 (.indexAddr 4) [.t 22, .t 23],
qo 25 (.fieldAddr 0) [.t 24], qo 26 (.load 1 false) [.t 25], qo 27 (.bin .neq) [.t 21, .t 26], qm 28 27, qv 29 0 28 false, qv 30 5 28 false, qg 31 (.indexAddr 4) [.t 29, .t 30] [] 28 false,
qg 32 (.fieldAddr 1) [.t 31] [] 28 false, qg 33 (.load 1 false) [.t 32] [] 28 false, qv 34 1 28 false, qv 35 5 28 false, qg 36 (.indexAddr 4) [.t 34, .t 35] [] 28 false,
qg 37 (.fieldAddr 1) [.t 36] [] 28 false, qg 38 (.load 1 false) [.t 37] [] 28 false, qg 39 (.bin .neq) [.t 33, .t 38] [] 28 false, qo 40 .pick [.t 28, qb true, .t 39], qm 41 40,
qv 42 0 41 false, qv 43 5 41 false, qg 44 (.indexAddr 4) [.t 42, .t 43] [] 41 false, qg 45 (.fieldAddr 2) [.t 44] [] 41 false, qg 46 (.load 1 false) [.t 45] [] 41 false, qv 47 1 41 false,
qv 48 5 41 false, qg 49 (.indexAddr 4) [.t 47, .t 48] [] 41 false, qg 50 (.fieldAddr 2) [.t 49] [] 41 false, qg 51 (.load 1 false) [.t 50] [] 41 false,
qg 52 (.bin .neq) [.t 46, .t 51] [] 41 false, qo 53 .pick [.t 41, qb true, .t 52], qm 54 53, qv 55 0 54 false, qv 56 5 54 false, qg 57 (.indexAddr 4) [.t 55, .t 56] [] 54 false,
qg 58 (.fieldAddr 3) [.t 57] [] 54 false, qg 59 (.load 1 false) [.t 58] [] 54 false, qv 60 1 54 false, qv 61 5 54 false, qg 62 (.indexAddr 4) [.t 60, .t 61] [] 54 false,
qg 63 (.fieldAddr 3) [.t 62] [] 54 false, qg 64 (.load 1 false) [.t 63] [] 54 false, qg 65 (.call .wr) [qf 64, .t 59, .t 64] [59, 64] 54 false, qg 66 .not [.t 65] [] 54 false,
qo 67 .pick [.t 54, qb true, .t 66]] [0, 1, 5, 67])
 (.cond (.t 67)
 (.seq (.region [qo 4 .mv [qb false]] [4])
 (.ret))
 (.skip))))
 (.region [qm 15 5, qo 16 (.bin .add) [.t 15, qi 1], qm 5 16] [0, 1, 5]))))))
 (.seq (.region [qo 4 .mv [qb true]] [4])
 (.ret)))), [.tmp 4]⟩
def v_parse_parser_operand : VFunc := ⟨96, .seq (.region [qo 1 .box [.t 0], qo 2 (.alloc [.int .i64 0, .str [], .int .i64 0, .sl true 1 [], .sl true 9 [], .sl true 7 [], .nilh 4, .int .i64 0, .int .i64 0]) []] [1, 2])
 (.seq (.region [qo 11 (.load 1 false) [.t 1], qo 12 (.call .wr) [qf 87, .t 11], qo 13 (.field 3 2 true) [.t 12], qo 3 (.alloc [.int .i64 0, .int .i64 0]) [], qn (.store 2) [.t 3, .t 13] []] [1, 2, 3])
 (.seq (.block 0 (.seq (.region [qo 15 (.load 1 false) [.t 1], qo 16 (.call .wr) [qf 57, .t 15, .c (.str [92])], qm 14 16] [1, 2, 3, 14])
 (.cond (.t 14)
 (.seq (.region [qo 17 (.load 1 false) [.t 1], qo 18 (.call .wr) [qf 93, .t 17], qn (.store 9) [.t 2, .t 18] [18]] [1, 2])
 (.ret))
 (.seq (.region [qo 20 (.load 1 false) [.t 1], qo 21 (.call .wr) [qf 57, .t 20, .c (.str [108, 101, 116])], qm 19 21] [1, 2, 3, 19])
 (.cond (.t 19)
 (.seq (.region [qo 22 (.load 1 false) [.t 1], qo 23 (.call .wr) [qf 58, .t 22]] [1, 2, 3])
 (.seq (.region [qo 24 (.load 2 true) [.t 3], qo 25 (.build [.int .i64 0, .str [], .int .i64 0, .sl true 1 [], .sl true 9 [], .sl true 7 [], .nilh 4, .int .i64 0, .int .i64 0] [(0, 1), (7, 2)]) [qi 6, .t 24],
qo 4 (.alloc [.int .i64 0, .str [], .int .i64 0, .sl true 1 [], .sl true 9 [], .sl true 7 [], .nilh 4, .int .i64 0, .int .i64 0]) [], qn (.store 9) [.t 4, .t 25] [25]] [1, 2, 4])
 (.seq (.seq (.region [qo 26 (.load 1 false) [.t 1], qo 27 (.mkfn 94) [.t 1, .t 4], qo 28 (.call .wr) [qf 26, .t 26, .t 27], qm 5 28] [1, 2, 4, 5])
 (.seq (.region [qm 29 5, qo 30 (.bin .eql) [.t 29, qi 0]] [1, 2, 4, 30])
 (.cond (.t 30)
 (.region [qo 31 (.load 1 false) [.t 1], qo 32 (.call .wr) [qf 59, .t 31, qi 60]] [1, 2, 4])
 (.skip))))
 (.seq (.region [qo 33 (.load 1 false) [.t 1], qo 34 (.call .wr) [qf 29, .t 33, .c (.str [125])]] [1, 2, 4])
 (.seq (.region [qo 35 (.load 1 false) [.t 1], qo 36 (.call .wr) [qf 29, .t 35, .c (.str [105, 110])]] [1, 2, 4])
 (.seq (.region [qo 37 (.load 1 false) [.t 1], qo 38 (.call .wr) [qf 34, .t 37], qt 39 (.buildSl 9) [.t 38] [38], qo 40 (.fieldAddr 4) [.t 4], qn (.store 1) [.t 40, .t 39] [39]] [1, 2, 4])
 (.seq (.region [qo 41 (.loadT 9 true) [.t 4], qn (.store 9) [.t 2, .t 41] [41]] [1, 2])
 (.ret))))))))
 (.seq (.region [qo 43 (.load 1 false) [.t 1], qo 44 (.call .wr) [qf 57, .t 43, .c (.str [105, 102])], qm 42 44] [1, 2, 3, 42])
 (.cond (.t 42)
 (.seq (.region [qo 45 (.load 1 false) [.t 1], qo 46 (.call .wr) [qf 58, .t 45]] [1, 2, 3])
 (.seq (.region [qo 47 (.load 1 false) [.t 1], qo 48 (.call .wr) [qf 34, .t 47],
qo 6 (.alloc [.int .i64 0, .str [], .int .i64 0, .sl true 1 [], .sl true 9 [], .sl true 7 [], .nilh 4, .int .i64 0, .int .i64 0]) [], qn (.store 9) [.t 6, .t 48] [48]] [1, 2, 3, 6])
 (.seq (.region [qo 49 (.load 1 false) [.t 1], qo 50 (.call .wr) [qf 29, .t 49, .c (.str [116, 104, 101, 110])]] [1, 2, 3, 6])
 (.seq (.region [qo 51 (.load 1 false) [.t 1], qo 52 (.call .wr) [qf 34, .t 51],
qo 7 (.alloc [.int .i64 0, .str [], .int .i64 0, .sl true 1 [], .sl true 9 [], .sl true 7 [], .nilh 4, .int .i64 0, .int .i64 0]) [], qn (.store 9) [.t 7, .t 52] [52]] [1, 2, 3, 6, 7])
 (.seq (.region [qo 53 (.load 1 false) [.t 1], qo 54 (.call .wr) [qf 29, .t 53, .c (.str [101, 108, 115, 101])]] [1, 2, 3, 6, 7])
 (.seq (.region [qo 55 (.loadL 1 9 true) [.t 6], qo 56 (.loadL 1 9 true) [.t 7], qo 57 (.loadL 1 1 false) [.t 1], qo 58 (.call (.fr 1)) [qf 34, .t 57], qt 59 (.buildSl 9) [.t 55, .t 56, .t 58] [55, 56, 58],
qo 60 (.loadL 1 2 true) [.t 3],
qt 61 (.build [.int .i64 0, .str [], .int .i64 0, .sl true 1 [], .sl true 9 [], .sl true 7 [], .nilh 4, .int .i64 0, .int .i64 0] [(0, 1), (4, 1), (7, 2)]) [qi 8, .t 59, .t 60] [59],
qn (.store 9) [.t 2, .t 61] [61]] [1, 2])
 (.ret)))))))
 (.seq (.region [qo 63 (.load 1 false) [.t 1], qo 64 (.call .wr) [qf 57, .t 63, .c (.str [99, 97, 115, 101])], qm 62 64] [1, 2, 3, 62])
 (.cond (.t 62)
 (.seq (.region [qo 65 (.load 1 false) [.t 1], qo 66 (.call .wr) [qf 58, .t 65]] [1, 2, 3])
 (.seq (.region [qo 67 (.loadL 1 1 false) [.t 1], qo 68 (.call (.fr 1)) [qf 34, .t 67], qt 69 (.buildSl 9) [.t 68] [68], qo 70 (.loadL 1 2 true) [.t 3],
qt 71 (.build [.int .i64 0, .str [], .int .i64 0, .sl true 1 [], .sl true 9 [], .sl true 7 [], .nilh 4, .int .i64 0, .int .i64 0] [(0, 1), (4, 1), (7, 2)]) [qi 7, .t 69, .t 70] [69],
qo 8 (.allocL 1 [.int .i64 0, .str [], .int .i64 0, .sl true 1 [], .sl true 9 [], .sl true 7 [], .nilh 4, .int .i64 0, .int .i64 0]) [], qn (.store 9) [.t 8, .t 71] [71]] [1, 2, 8])
 (.seq (.region [qo 72 (.load 1 false) [.t 1], qo 73 (.call .wr) [qf 29, .t 72, .c (.str [111, 102])]] [1, 2, 8])
 (.seq (.seq (.region [qo 74 (.load 1 false) [.t 1], qo 75 (.mkfn 95) [.t 8, .t 1], qo 76 (.call .wr) [qf 26, .t 74, .t 75], qm 9 76] [1, 2, 8, 9])
 (.seq (.region [qm 77 9, qo 78 (.bin .eql) [.t 77, qi 0]] [1, 2, 8, 78])
 (.cond (.t 78)
 (.region [qo 79 (.load 1 false) [.t 1], qo 80 (.call .wr) [qf 59, .t 79, qi 60]] [1, 2, 8])
 (.skip))))
 (.seq (.region [qo 81 (.load 1 false) [.t 1], qo 82 (.call .wr) [qf 29, .t 81, .c (.str [125])]] [1, 2, 8])
 (.seq (.region [qo 83 (.loadT 9 true) [.t 8], qn (.store 9) [.t 2, .t 83] [83]] [1, 2])
 (.ret)))))))
 (.skip))))))))))
 (.seq (.region [qo 84 (.load 1 false) [.t 1], qo 85 (.call .wr) [qf 97, .t 84],
qo 10 (.alloc [.int .i64 0, .str [], .int .i64 0, .sl true 1 [], .sl true 9 [], .sl true 7 [], .nilh 4, .int .i64 0, .int .i64 0]) [], qn (.store 9) [.t 10, .t 85] [85]] [1, 2, 10])
 (.seq (.block 1 (.loop (.seq (.seq (.region [qo 86 (.load 1 false) [.t 1], qo 87 (.call .wr) [qf 98, .t 86]] [1, 2, 10, 87])
 (.cond (.t 87)
 (.skip)
 (.exit 1)))
 (.block 2 (.region [qo 88 (.loadTL 1 9 true) [.t 10], qo 89 (.loadL 1 1 false) [.t 1], qo 90 (.call (.fr 1)) [qf 97, .t 89], qt 91 (.buildSl 9) [.t 88, .t 90] [88, 90], qo 92 (.fieldAddr 7) [.t 10],
qo 93 (.loadL 1 2 true) [.t 92],
qt 94 (.build [.int .i64 0, .str [], .int .i64 0, .sl true 1 [], .sl true 9 [], .sl true 7 [], .nilh 4, .int .i64 0, .int .i64 0] [(0, 1), (4, 1), (7, 2)]) [qi 4, .t 91, .t 93] [91],
qn (.store 9) [.t 10, .t 94] [94]] [1, 2, 10])))))
 (.seq (.region [qo 95 (.loadT 9 true) [.t 10], qn (.store 9) [.t 2, .t 95] [95]] [1, 2])
 (.ret)))))), [.cell 2 9 true]⟩
def v_parse_parser_kind : VFunc := ⟨10, .seq (.region [qo 4 .mv [qb false]] [0, 1])
 (.seq (.region [qm 5 0, qo 6 (.call .wr) [qf 87, .t 5], qo 7 (.field 0 1 false) [.t 6], qm 8 1, qo 9 (.bin .eql) [.t 7, .t 8], qm 4 9] [4])
 (.ret)), [.tmp 4]⟩
def v_parse_grower_grown : VFunc := ⟨40, .seq (.region [qt 3 .box [.t 1] [1], qo 4 (.alloc [.int .i64 0, .str [], .int .i64 0, .sl true 1 [], .sl true 9 [], .sl true 7 [], .nilh 4, .int .i64 0, .int .i64 0]) []] [0, 3, 4])
 (.seq (.region [qm 10 0, qo 11 (.load 9 true) [.t 3], qt 12 (.call .wr) [qf 99, .t 10, .t 11] [11], qo 5 (.alloc [.sl true 2 []]) [], qn (.store 1) [.t 5, .t 12] [12]] [0, 3, 4, 5])
 (.seq (.seq (.region [qm 13 0, qo 14 .nilCheck [.t 13], qo 15 (.fieldAddr 1) [.t 14], qo 16 (.load 1 false) [.t 15]] [0, 3, 4, 5, 16])
 (.cond (.t 16)
 (.seq (.region [qo 17 (.load 9 true) [.t 3], qn (.store 9) [.t 4, .t 17] [17]] [3, 4])
 (.ret))
 (.skip)))
 (.seq (.region [qo 6 (.alloc [.nilh 9]) []] [0, 3, 4, 5, 6])
 (.seq (.seq (.region [qo 18 (.fieldAddr 4) [.t 3], qo 19 (.load 1 false) [.t 18], qo 20 .len [.t 19], qo 21 .mv [qi 0]] [0, 3, 4, 5, 6, 19, 20, 21])
 (.block 0 (.loop (.seq (.region [qo 22 (.bin .lss) [.t 21, .t 20]] [0, 3, 4, 5, 6, 19, 20, 21, 22])
 (.seq (.cond (.t 22)
 (.skip)
 (.exit 0))
 (.seq (.block 1 (.seq (.region [qo 23 (.indexAddr 9) [.t 19, .t 21], qo 24 (.load 9 true) [.t 23],
qo 8 (.alloc [.int .i64 0, .str [], .int .i64 0, .sl true 1 [], .sl true 9 [], .sl true 7 [], .nilh 4, .int .i64 0, .int .i64 0]) [], qn (.store 9) [.t 8, .t 24] [24]] [0, 3, 4, 5, 6, 8, 19, 20, 21])
 (.regionD [] [qo 25 (.loadL 3 1 false) [.t 6], qm 26 0, qo 27 (.loadTL 3 9 true) [.t 8], qo 28 (.call (.fr 3)) [qf 35, .t 26, .t 27], qo 29 .len [.t 25],
qo 30 (.buildSl 9) [.c (.agg [.int .i64 0, .str [], .int .i64 0, .sl true 1 [], .sl true 9 [], .sl true 7 [], .sl true 4 [], .int .i64 0, .int .i64 0])],
qo 31 (.appendA 9 144) [.t 25, .t 30], qo 32 (.indexAddr 9) [.t 31, .t 29], qn (.storeP 9) [.t 32, .t 28] [], qn (.storeP 1) [.t 6, .t 31] []] [(32, 6)] [0, 3, 4, 5, 6, 19, 20, 21])))
 (.region [qo 33 (.bin .add) [.t 21, qi 1], qm 21 33] [0, 3, 4, 5, 6, 19, 20, 21])))))))
 (.seq (.region [qo 9 (.alloc [.nilfn]) []] [3, 4, 5, 6, 9])
 (.seq (.region [qo 34 (.mkfn 100) [.t 5, .t 3, .t 9, .t 6], qn (.store 1) [.t 9, .t 34] []] [3, 4, 6, 9])
 (.seq (.region [qo 35 (.load 1 false) [.t 9], qo 36 (.load 1 false) [.t 6], qo 37 .len [.t 36], qo 38 (.bin .sub) [.t 37, qi 1], qo 39 (.call .wr) [.t 35, qi 0, .t 38], qn (.store 9) [.t 4, .t 39] [39]] [3, 4])
 (.ret)))))))), [.cell 4 9 true]⟩
def v_lex_reader_skip : VFunc := ⟨103, .seq (.region [qo 2 .mv [qb false]] [0])
 (.scope (.seq (.label)
 (.seq (.block 0 (.loop (.seq (.seq (.region [qm 4 0, qo 5 .nilCheck [.t 4], qo 6 (.fieldAddr 1) [.t 5], qo 7 (.load 1 false) [.t 6], qm 8 0, qo 9 .nilCheck [.t 8], qo 10 (.fieldAddr 0) [.t 9], qo 11 (.load 1 false) [.t 10],
qo 12 .lenStr [.t 11], qo 13 (.bin .lss) [.t 7, .t 12]] [0, 13])
 (.cond (.t 13)
 (.skip)
 (.exit 0)))
 (.block 1 (.seq (.region [qm 14 0, qo 15 .nilCheck [.t 14], qo 16 (.fieldAddr 0) [.t 15], qo 17 (.load 1 false) [.t 16], qm 18 0, qo 19 .nilCheck [.t 18], qo 20 (.fieldAddr 1) [.t 19], qo 21 (.load 1 false) [.t 20],
qo 22 .indexStr [.t 17, .t 21], qm 3 22] [0, 3])
 (.block 2 (.seq (.region [qm 24 3, qo 25 (.bin .eql) [.t 24, .c (.int .u8 32)], qm 23 25] [0, 3, 23])
 (.cond (.t 23)
 (.seq (.region [qm 26 0, qo 27 .nilCheck [.t 26], qo 28 (.fieldAddr 1) [.t 27], qo 29 (.load 1 false) [.t 28], qo 30 (.bin .add) [.t 29, qi 1], qo 31 .nilCheck [.t 26], qo 32 (.fieldAddr 1) [.t 31],
qn (.store 1) [.t 32, .t 30] []] [0])
 (.region [qm 33 0, qo 34 .nilCheck [.t 33], qo 35 (.fieldAddr 2) [.t 34], qo 36 (.fieldAddr 1) [.t 35], qo 37 (.load 1 false) [.t 36], qo 38 (.bin .add) [.t 37, qi 1], qo 39 .nilCheck [.t 33],
qo 40 (.fieldAddr 2) [.t 39], qo 41 (.fieldAddr 1) [.t 40], qn (.store 1) [.t 41, .t 38] []] [0]))
 (.seq (.region [qm 43 3, qo 44 (.bin .eql) [.t 43, .c (.int .u8 10)], qm 42 44] [0, 3, 42])
 (.cond (.t 42)
 (.seq (.region [qm 45 0, qo 46 .nilCheck [.t 45], qo 47 (.fieldAddr 1) [.t 46], qo 48 (.load 1 false) [.t 47], qo 49 (.bin .add) [.t 48, qi 1], qo 50 .nilCheck [.t 45], qo 51 (.fieldAddr 1) [.t 50],
qn (.store 1) [.t 51, .t 49] []] [0])
 (.region [qm 52 0, qm 53 0, qo 54 .nilCheck [.t 53], qo 55 (.fieldAddr 2) [.t 54], qo 56 (.fieldAddr 0) [.t 55], qo 57 (.load 1 false) [.t 56], qo 58 (.bin .add) [.t 57, qi 1],
qo 59 (.build [.int .i64 0, .int .i64 0] [(0, 1), (1, 1)]) [.t 58, qi 1], qo 60 .nilCheck [.t 52], qo 61 (.fieldAddr 2) [.t 60], qn (.store 2) [.t 61, .t 59] []] [0]))
 (.seq (.region [qm 63 3, qo 64 (.bin .eql) [.t 63, .c (.int .u8 45)], qm 65 64, qv 66 0 65 true, qg 67 .nilCheck [.t 66] [] 65 true, qg 68 (.fieldAddr 1) [.t 67] [] 65 true,
qg 69 (.load 1 false) [.t 68] [] 65 true, qg 70 (.bin .add) [.t 69, qi 1] [] 65 true, qv 71 0 65 true, qg 72 .nilCheck [.t 71] [] 65 true, qg 73 (.fieldAddr 0) [.t 72] [] 65 true,
qg 74 (.load 1 false) [.t 73] [] 65 true, qg 75 .lenStr [.t 74] [] 65 true, qg 76 (.bin .lss) [.t 70, .t 75] [] 65 true, qo 77 .pick [.t 65, .t 76, qb false], qm 78 77, qv 79 0 78 true,
qg 80 .nilCheck [.t 79] [] 78 true, qg 81 (.fieldAddr 0) [.t 80] [] 78 true, qg 82 (.load 1 false) [.t 81] [] 78 true, qv 83 0 78 true, qg 84 .nilCheck [.t 83] [] 78 true,
qg 85 (.fieldAddr 1) [.t 84] [] 78 true, qg 86 (.load 1 false) [.t 85] [] 78 true, qg 87 (.bin .add) [.t 86, qi 1] [] 78 true, qg 88 .indexStr [.t 82, .t 87] [] 78 true,
qg 89 (.bin .eql) [.t 88, .c (.int .u8 45)] [] 78 true, qo 90 .pick [.t 78, .t 89, qb false], qm 62 90] [0, 62])
 (.cond (.t 62)
 (.seq (.region [qm 91 0, qo 92 (.call .wr) [qf 104, .t 91]] [0])
 (.exit 1))
 (.exit 0)))))))))))))
 (.seq (.region [qm 93 0, qo 94 .nilCheck [.t 93], qo 95 (.fieldAddr 1) [.t 94], qo 96 (.load 1 false) [.t 95], qm 97 0, qo 98 .nilCheck [.t 97], qo 99 (.fieldAddr 0) [.t 98], qo 100 (.load 1 false) [.t 99],
qo 101 .lenStr [.t 100], qo 102 (.bin .lss) [.t 96, .t 101], qm 2 102] [2])
 (.ret))))), [.tmp 2]⟩
def v_lex_reader_next : VFunc := ⟨123, .seq (.region [qo 2 (.alloc [.int .i64 0, .str [], .int .i64 0, .int .i64 0, .int .i64 0, .bool false]) [], qo 3 .mv [qi 0]] [0, 2])
 (.seq (.region [qm 8 0, qo 9 .nilCheck [.t 8], qo 10 (.fieldAddr 0) [.t 9], qo 11 (.load 1 false) [.t 10], qm 12 0, qo 13 .nilCheck [.t 12], qo 14 (.fieldAddr 1) [.t 13], qo 15 (.load 1 false) [.t 14],
qo 16 .indexStr [.t 11, .t 15], qo 17 (.call .wr) [qf 105, .t 16], qm 4 17] [0, 2, 4])
 (.seq (.seq (.region [qm 18 4, qo 19 (.bin .eql) [.t 18, qi 0]] [0, 2, 4, 19])
 (.cond (.t 19)
 (.seq (.region [qo 20 (.build [.int .i64 0, .str [], .int .i64 0, .int .i64 0, .int .i64 0, .bool false] []) [], qn (.store 6) [.t 2, .t 20] [], qo 3 .mv [qi 20]] [2, 3])
 (.ret))
 (.skip)))
 (.seq (.region [qm 21 0, qo 22 .nilCheck [.t 21], qo 23 (.fieldAddr 1) [.t 22], qo 24 (.load 1 false) [.t 23], qm 5 24] [0, 2, 4, 5])
 (.seq (.region [qm 25 0, qo 26 .nilCheck [.t 25], qo 27 (.fieldAddr 2) [.t 26], qo 28 (.load 2 true) [.t 27],
qo 29 (.build [.int .i64 0, .str [], .int .i64 0, .int .i64 0, .int .i64 0, .bool false] [(3, 2)]) [.t 28],
qo 6 (.alloc [.int .i64 0, .str [], .int .i64 0, .int .i64 0, .int .i64 0, .bool false]) [], qn (.store 6) [.t 6, .t 29] []] [0, 2, 4, 5, 6])
 (.seq (.region [qm 30 0, qo 31 .nilCheck [.t 30], qo 32 (.fieldAddr 1) [.t 31], qo 33 (.load 1 false) [.t 32], qo 34 (.bin .add) [.t 33, qi 1], qo 35 .nilCheck [.t 30], qo 36 (.fieldAddr 1) [.t 35],
qn (.store 1) [.t 36, .t 34] []] [0, 2, 4, 5, 6])
 (.seq (.block 0 (.loop (.seq (.seq (.region [qm 37 0, qo 38 .nilCheck [.t 37], qo 39 (.fieldAddr 1) [.t 38], qo 40 (.load 1 false) [.t 39], qm 41 0, qo 42 .nilCheck [.t 41], qo 43 (.fieldAddr 0) [.t 42], qo 44 (.load 1 false) [.t 43],
qo 45 .lenStr [.t 44], qo 46 (.bin .lss) [.t 40, .t 45], qm 47 46, qv 48 4 47 true, qv 49 0 47 true, qg 50 .nilCheck [.t 49] [] 47 true, qg 51 (.fieldAddr 0) [.t 50] [] 47 true,
qg 52 (.load 1 false) [.t 51] [] 47 true, qv 53 0 47 true, qg 54 .nilCheck [.t 53] [] 47 true, qg 55 (.fieldAddr 1) [.t 54] [] 47 true, qg 56 (.load 1 false) [.t 55] [] 47 true,
qg 57 .indexStr [.t 52, .t 56] [] 47 true, qg 58 (.call .wr) [qf 106, .t 48, .t 57] [] 47 true, qo 59 .pick [.t 47, .t 58, qb false]] [0, 2, 4, 5, 6, 59])
 (.cond (.t 59)
 (.skip)
 (.exit 0)))
 (.block 1 (.region [qm 60 0, qo 61 .nilCheck [.t 60], qo 62 (.fieldAddr 1) [.t 61], qo 63 (.load 1 false) [.t 62], qo 64 (.bin .add) [.t 63, qi 1], qo 65 .nilCheck [.t 60], qo 66 (.fieldAddr 1) [.t 65],
qn (.store 1) [.t 66, .t 64] []] [0, 2, 4, 5, 6])))))
 (.seq (.region [qm 67 0, qo 68 .nilCheck [.t 67], qo 69 (.fieldAddr 0) [.t 68], qo 70 (.load 1 false) [.t 69], qm 71 5, qm 72 0, qo 73 .nilCheck [.t 72], qo 74 (.fieldAddr 1) [.t 73],
qo 75 (.load 1 false) [.t 74], qo 76 (.sliceStr true true) [.t 70, .t 71, .t 75], qo 77 (.fieldAddr 1) [.t 6], qn (.store 1) [.t 77, .t 76] []] [0, 2, 4, 5, 6])
 (.seq (.region [qm 78 0, qo 79 .nilCheck [.t 78], qo 80 (.fieldAddr 2) [.t 79], qo 81 (.fieldAddr 1) [.t 80], qo 82 (.load 1 false) [.t 81], qm 83 0, qo 84 .nilCheck [.t 83], qo 85 (.fieldAddr 1) [.t 84],
qo 86 (.load 1 false) [.t 85], qm 87 5, qo 88 (.bin .sub) [.t 86, .t 87], qo 89 (.bin .add) [.t 82, .t 88], qo 90 .nilCheck [.t 78], qo 91 (.fieldAddr 2) [.t 90],
qo 92 (.fieldAddr 1) [.t 91], qn (.store 1) [.t 92, .t 89] []] [2, 4, 6])
 (.seq (.region [qm 93 4, qo 94 (.fieldAddr 1) [.t 6], qo 95 (.load 1 false) [.t 94], qo 96 (.call .wr) [qf 107, .t 93, .t 95], qo 97 (.fieldAddr 0) [.t 6], qn (.store 1) [.t 97, .t 96] []] [2, 6])
 (.seq (.seq (.region [qo 98 (.fieldAddr 0) [.t 6], qo 99 (.load 1 false) [.t 98], qo 100 (.bin .neq) [.t 99, qi 4], qm 101 100, qg 102 (.fieldAddr 1) [.t 6] [] 101 true,
qg 103 (.load 1 false) [.t 102] [] 101 true, qg 104 .lenStr [.t 103] [] 101 true, qg 105 (.bin .gtr) [.t 104, qi 32] [] 101 true, qo 106 .pick [.t 101, .t 105, qb false]] [2, 6, 106])
 (.cond (.t 106)
 (.seq (.region [qo 107 (.build [.int .i64 0, .str [], .int .i64 0, .int .i64 0, .int .i64 0, .bool false] []) [], qn (.store 6) [.t 2, .t 107] [], qo 3 .mv [qi 2]] [2, 3])
 (.ret))
 (.skip)))
 (.seq (.region [qo 7 .mv [qi 0]] [2, 6, 7])
 (.seq (.seq (.region [qo 108 (.fieldAddr 0) [.t 6], qo 109 (.load 1 false) [.t 108], qo 110 (.bin .eql) [.t 109, qi 4]] [2, 6, 7, 110])
 (.cond (.t 110)
 (.region [qo 112 (.fieldAddr 1) [.t 6], qo 113 (.load 1 false) [.t 112], qo 114 (.call .wr) [qf 108, .t 113], qm 111 114, qo 115 (.extract 0) [.t 111], qo 116 (.extract 1) [.t 111],
qo 117 (.fieldAddr 2) [.t 6], qn (.store 1) [.t 117, .t 115] [], qm 7 116] [2, 6, 7])
 (.skip)))
 (.seq (.seq (.region [qm 118 7, qo 119 (.bin .neq) [.t 118, qi 0]] [2, 6, 7, 119])
 (.cond (.t 119)
 (.seq (.region [qo 120 (.build [.int .i64 0, .str [], .int .i64 0, .int .i64 0, .int .i64 0, .bool false] []) [], qm 121 7, qn (.store 6) [.t 2, .t 120] [], qm 3 121] [2, 3])
 (.ret))
 (.skip)))
 (.seq (.region [qo 122 (.load 6 true) [.t 6], qn (.store 6) [.t 2, .t 122] [], qo 3 .mv [qi 0]] [2, 3])
 (.ret))))))))))))))), [.cell 2 6 true, .tmp 3]⟩
def v_layout_layer_starts : VFunc := ⟨33, .seq (.region [qo 3 .box [.t 1], qo 4 .mv [qb false]] [0, 3])
 (.seq (.region [qm 5 0, qo 6 .nilCheck [.t 5], qo 7 (.fieldAddr 2) [.t 6], qn (.store 1) [.t 7, qb false] []] [0, 3])
 (.seq (.seq (.region [qo 8 (.fieldAddr 0) [.t 3], qo 9 (.load 1 false) [.t 8], qo 10 (.bin .eql) [.t 9, qi 5], qm 11 10, qg 12 (.fieldAddr 1) [.t 3] [] 11 true, qg 13 (.load 1 false) [.t 12] [] 11 true,
qg 14 (.bin .eql) [.t 13, .c (.str [123])] [] 11 true, qo 15 .pick [.t 11, .t 14, qb false]] [0, 3, 15])
 (.cond (.t 15)
 (.seq (.region [qo 4 .mv [qb true]] [3, 4])
 (.ret))
 (.skip)))
 (.seq (.seq (.region [qo 16 (.fieldAddr 3) [.t 3], qo 17 (.fieldAddr 1) [.t 16], qo 18 (.loadL 3 1 false) [.t 17], qm 19 0, qo 20 (.call (.fr 3)) [qf 110, .t 19], qo 21 (.bin .gtr) [.t 18, .t 20]] [0, 3, 21])
 (.cond (.t 21)
 (.seq (.region [qm 22 0, qo 23 (.call .wr) [qf 86, .t 22, .c (.str [123])]] [0, 3])
 (.seq (.region [qm 24 0, qo 25 (.fieldAddr 3) [.t 3], qo 26 (.fieldAddr 1) [.t 25], qo 27 (.load 1 false) [.t 26], qo 28 (.call .wr) [qf 111, .t 24, qi 0, .t 27]] [3])
 (.seq (.region [qo 4 .mv [qb true]] [3, 4])
 (.ret))))
 (.skip)))
 (.seq (.region [qm 29 0, qo 30 (.call .wr) [qf 86, .t 29, .c (.str [123])]] [0, 3])
 (.seq (.region [qm 31 0, qo 32 (.call .wr) [qf 86, .t 31, .c (.str [125])]] [3])
 (.seq (.region [qo 4 .mv [qb false]] [3, 4])
 (.ret))))))), [.tmp 4]⟩
def v_layout_layer_begins : VFunc := ⟨38, .seq (.region [qo 3 .box [.t 1]] [0, 3])
 (.seq (.block 0 (.loop (.seq (.seq (.region [qm 4 0, qo 5 (.call (.fr 3)) [qf 112, .t 4], qm 6 5, qv 7 0 6 true, qg 8 (.call (.fr 3)) [qf 110, .t 7] [] 6 true, qg 9 (.fieldAddr 3) [.t 3] [] 6 true, qg 10 (.fieldAddr 1) [.t 9] [] 6 true,
qg 11 (.loadL 3 1 false) [.t 10] [] 6 true, qg 12 (.bin .gtr) [.t 8, .t 11] [] 6 true, qo 13 .pick [.t 6, .t 12, qb false]] [0, 3, 13])
 (.cond (.t 13)
 (.skip)
 (.exit 0)))
 (.block 1 (.seq (.region [qm 14 0, qm 15 0, qo 16 .nilCheck [.t 15], qo 17 (.fieldAddr 1) [.t 16], qo 18 (.load 1 false) [.t 17], qm 19 0, qo 20 (.call .rd) [qf 113, .t 19], qo 21 (.slice false true 2) [.t 18, .t 20],
qo 22 .nilCheck [.t 14], qo 23 (.fieldAddr 1) [.t 22], qn (.store 1) [.t 23, .t 21] [21]] [0, 3])
 (.region [qm 24 0, qo 25 (.call .wr) [qf 86, .t 24, .c (.str [125])]] [0, 3]))))))
 (.seq (.region [qm 26 0, qo 27 (.call (.fr 3)) [qf 112, .t 26], qm 28 27, qv 29 0 28 true, qg 30 (.call (.fr 3)) [qf 110, .t 29] [] 28 true, qg 31 (.fieldAddr 3) [.t 3] [] 28 true,
qg 32 (.fieldAddr 1) [.t 31] [] 28 true, qg 33 (.loadL 3 1 false) [.t 32] [] 28 true, qg 34 (.bin .eql) [.t 30, .t 33] [] 28 true, qo 35 .pick [.t 28, .t 34, qb false]] [0, 3, 35])
 (.cond (.t 35)
 (.region [qm 36 0, qo 37 (.call .wr) [qf 86, .t 36, .c (.str [59])]] [3])
 (.skip)))), []⟩
def v_layout_layer_closes : VFunc := ⟨65, .seq (.region [qo 3 .box [.t 1]] [0, 3])
 (.seq (.region [qo 4 .mv [qi (-1)]] [0, 3, 4])
 (.seq (.block 0 (.seq (.region [qo 6 (.fieldAddr 0) [.t 3], qo 7 (.load 1 false) [.t 6], qo 8 (.bin .eql) [.t 7, qi 5], qm 9 8, qg 10 (.fieldAddr 1) [.t 3] [] 9 true, qg 11 (.load 1 false) [.t 10] [] 9 true,
qg 12 (.bin .eql) [.t 11, .c (.str [41])] [] 9 true, qo 13 .pick [.t 9, .t 12, qb false], qm 5 13] [0, 3, 4, 5])
 (.cond (.t 5)
 (.region [qm 14 0, qo 15 (.buildSl 1) [qi 1], qt 16 (.call .wr) [qf 114, .t 14, qi 2, .t 15] [15], qm 4 16] [0, 4])
 (.seq (.region [qo 18 (.fieldAddr 0) [.t 3], qo 19 (.load 1 false) [.t 18], qo 20 (.bin .eql) [.t 19, qi 5], qm 21 20, qg 22 (.fieldAddr 1) [.t 3] [] 21 true, qg 23 (.load 1 false) [.t 22] [] 21 true,
qg 24 (.bin .eql) [.t 23, .c (.str [125])] [] 21 true, qo 25 .pick [.t 21, .t 24, qb false], qm 17 25] [0, 3, 4, 17])
 (.cond (.t 17)
 (.region [qm 26 0, qo 27 (.call .wr) [qf 114, .t 26, qi 1, .c (.sl true 1 [])], qm 4 27] [0, 4])
 (.seq (.region [qo 29 (.fieldAddr 0) [.t 3], qo 30 (.load 1 false) [.t 29], qo 31 (.bin .neq) [.t 30, qi 6], qm 28 31] [0, 3, 4, 28])
 (.cond (.t 28)
 (.skip)
 (.seq (.region [qo 33 (.fieldAddr 1) [.t 3], qo 34 (.load 1 false) [.t 33], qo 35 (.bin .eql) [.t 34, .c (.str [105, 110])], qm 32 35] [0, 3, 4, 32])
 (.cond (.t 32)
 (.region [qm 36 0, qo 37 (.buildSl 1) [qi 1, qi 2], qt 38 (.call .wr) [qf 114, .t 36, qi 3, .t 37] [37], qm 4 38] [0, 4])
 (.seq (.region [qo 40 (.fieldAddr 1) [.t 3], qo 41 (.load 1 false) [.t 40], qo 42 (.bin .eql) [.t 41, .c (.str [111, 102])], qm 39 42] [0, 3, 4, 39])
 (.cond (.t 39)
 (.region [qm 43 0, qo 44 (.buildSl 1) [qi 1, qi 2], qt 45 (.call .wr) [qf 114, .t 43, qi 4, .t 44] [44], qm 4 45] [0, 4])
 (.seq (.region [qo 47 (.fieldAddr 1) [.t 3], qo 48 (.load 1 false) [.t 47], qo 49 (.bin .eql) [.t 48, .c (.str [116, 104, 101, 110])], qm 46 49] [0, 3, 4, 46])
 (.cond (.t 46)
 (.region [qm 50 0, qo 51 (.buildSl 1) [qi 1, qi 2], qt 52 (.call .wr) [qf 114, .t 50, qi 5, .t 51] [51], qm 4 52] [0, 4])
 (.seq (.region [qo 54 (.fieldAddr 1) [.t 3], qo 55 (.load 1 false) [.t 54], qo 56 (.bin .eql) [.t 55, .c (.str [101, 108, 115, 101])], qm 53 56] [0, 4, 53])
 (.cond (.t 53)
 (.region [qm 57 0, qo 58 (.buildSl 1) [qi 1, qi 2], qt 59 (.call .wr) [qf 114, .t 57, qi 6, .t 58] [58], qm 4 59] [0, 4])
 (.skip))))))))))))))))
 (.seq (.region [qm 60 4, qo 61 (.bin .geq) [.t 60, qi 0]] [0, 4, 61])
 (.cond (.t 61)
 (.region [qm 62 0, qm 63 4, qo 64 (.call .wr) [qf 115, .t 62, .t 63]] [])
 (.skip))))), []⟩
def v_layout_layer_opens : VFunc := ⟨64, .seq (.region [qo 3 .box [.t 1]] [0, 3])
 (.block 0 (.seq (.region [qo 5 (.fieldAddr 0) [.t 3], qo 6 (.load 1 false) [.t 5], qo 7 (.bin .eql) [.t 6, qi 5], qm 8 7, qg 9 (.fieldAddr 1) [.t 3] [] 8 true, qg 10 (.load 1 false) [.t 9] [] 8 true,
qg 11 (.bin .eql) [.t 10, .c (.str [40])] [] 8 true, qo 12 .pick [.t 8, .t 11, qb false], qm 4 12] [0, 3, 4])
 (.cond (.t 4)
 (.region [qm 13 0, qo 14 (.call .wr) [qf 111, .t 13, qi 2, qi 0]] [])
 (.seq (.region [qo 16 (.fieldAddr 0) [.t 3], qo 17 (.load 1 false) [.t 16], qo 18 (.bin .eql) [.t 17, qi 5], qm 19 18, qg 20 (.fieldAddr 1) [.t 3] [] 19 true, qg 21 (.load 1 false) [.t 20] [] 19 true,
qg 22 (.bin .eql) [.t 21, .c (.str [123])] [] 19 true, qo 23 .pick [.t 19, .t 22, qb false], qm 15 23] [0, 3, 15])
 (.cond (.t 15)
 (.region [qm 24 0, qo 25 (.call .wr) [qf 111, .t 24, qi 1, qi 0]] [])
 (.seq (.region [qo 27 (.fieldAddr 0) [.t 3], qo 28 (.load 1 false) [.t 27], qo 29 (.bin .neq) [.t 28, qi 6], qm 26 29] [0, 3, 26])
 (.cond (.t 26)
 (.skip)
 (.seq (.region [qo 31 (.fieldAddr 1) [.t 3], qo 32 (.load 1 false) [.t 31], qo 33 (.bin .eql) [.t 32, .c (.str [108, 101, 116])], qm 30 33] [0, 3, 30])
 (.cond (.t 30)
 (.seq (.region [qm 34 0, qo 35 (.call .wr) [qf 111, .t 34, qi 3, qi 0]] [0])
 (.region [qm 36 0, qo 37 .nilCheck [.t 36], qo 38 (.fieldAddr 2) [.t 37], qn (.store 1) [.t 38, qb true] []] []))
 (.seq (.region [qo 40 (.fieldAddr 1) [.t 3], qo 41 (.load 1 false) [.t 40], qo 42 (.bin .eql) [.t 41, .c (.str [99, 97, 115, 101])], qm 39 42] [0, 3, 39])
 (.cond (.t 39)
 (.region [qm 43 0, qo 44 (.call .wr) [qf 111, .t 43, qi 4, qi 0]] [])
 (.seq (.region [qo 46 (.fieldAddr 1) [.t 3], qo 47 (.load 1 false) [.t 46], qo 48 (.bin .eql) [.t 47, .c (.str [111, 102])], qm 45 48] [0, 3, 45])
 (.cond (.t 45)
 (.region [qm 49 0, qo 50 .nilCheck [.t 49], qo 51 (.fieldAddr 2) [.t 50], qn (.store 1) [.t 51, qb true] []] [])
 (.seq (.region [qo 53 (.fieldAddr 1) [.t 3], qo 54 (.load 1 false) [.t 53], qo 55 (.bin .eql) [.t 54, .c (.str [105, 102])], qm 52 55] [0, 3, 52])
 (.cond (.t 52)
 (.region [qm 56 0, qo 57 (.call .wr) [qf 111, .t 56, qi 5, qi 0]] [])
 (.seq (.region [qo 59 (.fieldAddr 1) [.t 3], qo 60 (.load 1 false) [.t 59], qo 61 (.bin .eql) [.t 60, .c (.str [116, 104, 101, 110])], qm 58 61] [0, 58])
 (.cond (.t 58)
 (.region [qm 62 0, qo 63 (.call .wr) [qf 111, .t 62, qi 6, qi 0]] [])
 (.skip)))))))))))))))))), []⟩
def v_layout_layer_make : VFunc := ⟨19, .region [qm 4 0, qm 5 0, qo 6 .nilCheck [.t 5], qo 7 (.fieldAddr 0) [.t 6], qo 8 (.loadT 1 false) [.t 7], qm 9 1, qm 10 0, qo 11 .nilCheck [.t 10], qo 12 (.fieldAddr 3) [.t 11],
qo 13 (.load 2 true) [.t 12], qo 14 (.build [.int .i64 0, .str [], .int .i64 0, .int .i64 0, .int .i64 0, .bool false] [(0, 1), (1, 1), (3, 2), (5, 1)]) [qi 5, .t 9, .t 13, qb true],
qo 15 (.buildSl 6) [.t 14], qt 16 (.append 6 56) [.t 8, .t 15] [8], qo 17 .nilCheck [.t 4], qo 18 (.fieldAddr 0) [.t 17], qn (.store 1) [.t 18, .t 16] [16]] [], []⟩
def v_parse_parser_peek : VFunc := ⟨30, .seq (.region [qo 2 (.alloc [.int .i64 0, .str [], .int .i64 0, .int .i64 0, .int .i64 0, .bool false]) []] [0, 2])
 (.seq (.seq (.region [qm 3 0, qo 4 .nilCheck [.t 3], qo 5 (.fieldAddr 2) [.t 4], qo 6 (.load 1 false) [.t 5], qm 7 6, qv 8 0 7 false, qg 9 .nilCheck [.t 8] [] 7 false, qg 10 (.fieldAddr 1) [.t 9] [] 7 false,
qg 11 (.load 1 false) [.t 10] [] 7 false, qv 12 0 7 false, qg 13 .nilCheck [.t 12] [] 7 false, qg 14 (.fieldAddr 0) [.t 13] [] 7 false, qg 15 (.load 1 false) [.t 14] [] 7 false,
qg 16 .len [.t 15] [] 7 false, qg 17 (.bin .geq) [.t 11, .t 16] [] 7 false, qo 18 .pick [.t 7, qb true, .t 17]] [0, 2, 18])
 (.cond (.t 18)
 (.seq (.region [qo 19 (.build [.int .i64 0, .str [], .int .i64 0, .int .i64 0, .int .i64 0, .bool false] []) [], qn (.store 6) [.t 2, .t 19] []] [2])
 (.ret))
 (.skip)))
 (.seq (.region [qm 20 0, qo 21 .nilCheck [.t 20], qo 22 (.fieldAddr 0) [.t 21], qo 23 (.load 1 false) [.t 22], qm 24 0, qo 25 .nilCheck [.t 24], qo 26 (.fieldAddr 1) [.t 25], qo 27 (.load 1 false) [.t 26],
qo 28 (.indexAddr 6) [.t 23, .t 27], qo 29 (.load 6 true) [.t 28], qn (.store 6) [.t 2, .t 29] []] [2])
 (.ret))), [.cell 2 6 true]⟩
def v_parse_parser_want : VFunc := ⟨13, .seq (.region [qo 4 (.alloc [.int .i64 0, .str [], .int .i64 0, .int .i64 0, .int .i64 0, .bool false]) []] [0, 1, 4])
 (.seq (.seq (.region [qm 5 0, qm 6 1, qo 7 (.call .wr) [qf 66, .t 5, .t 6], qo 8 .not [.t 7]] [0, 4, 8])
 (.cond (.t 8)
 (.region [qm 9 0, qo 10 (.call .wr) [qf 59, .t 9, qi 60]] [0, 4])
 (.skip)))
 (.seq (.region [qm 11 0, qo 12 (.call .wr) [qf 58, .t 11], qn (.store 6) [.t 4, .t 12] []] [4])
 (.ret))), [.cell 4 6 true]⟩
def v_parse_parser_constr : VFunc := ⟨22, .seq (.region [qo 2 (.alloc [.str [], .sl true 4 [], .int .i64 0, .int .i64 0]) []] [0, 2])
 (.seq (.region [qm 5 0, qo 6 (.call .wr) [qf 88, .t 5, qi 2], qo 3 (.alloc [.int .i64 0, .str [], .int .i64 0, .int .i64 0, .int .i64 0, .bool false]) [], qn (.store 6) [.t 3, .t 6] []] [0, 2, 3])
 (.seq (.region [qo 7 (.fieldAddr 1) [.t 3], qo 8 (.load 1 false) [.t 7], qo 9 (.fieldAddr 3) [.t 3], qo 10 (.load 2 true) [.t 9],
qo 11 (.build [.str [], .sl true 4 [], .int .i64 0, .int .i64 0] [(0, 1), (2, 2)]) [.t 8, .t 10], qo 4 (.alloc [.str [], .sl true 4 [], .int .i64 0, .int .i64 0]) [],
qn (.store 4) [.t 4, .t 11] [11]] [0, 2, 4])
 (.seq (.block 0 (.loop (.seq (.seq (.region [qm 12 0, qo 13 (.call .wr) [qf 116, .t 12]] [0, 2, 4, 13])
 (.cond (.t 13)
 (.skip)
 (.exit 0)))
 (.block 1 (.region [qo 14 (.fieldAddr 1) [.t 4], qo 15 (.loadTL 2 1 false) [.t 14], qm 16 0, qo 17 (.call (.fr 2)) [qf 117, .t 16], qt 18 (.buildSl 4) [.t 17] [17], qt 19 (.append 4 56) [.t 15, .t 18] [15],
qo 20 (.fieldAddr 1) [.t 4], qn (.store 1) [.t 20, .t 19] [19]] [0, 2, 4])))))
 (.seq (.region [qo 21 (.loadT 4 true) [.t 4], qn (.store 4) [.t 2, .t 21] [21]] [2])
 (.ret))))), [.cell 2 4 true]⟩
def v_parse_parser_pattern : VFunc := ⟨21, .seq (.region [qo 2 .mv [qb false]] [0])
 (.seq (.region [qm 3 0, qo 4 (.call .wr) [qf 66, .t 3, qi 1], qm 5 4, qv 6 0 5 false, qg 7 (.call .wr) [qf 66, .t 6, qi 2] [] 5 false, qo 8 .pick [.t 5, qb true, .t 7], qm 9 8, qv 10 0 9 false,
qg 11 (.call .wr) [qf 66, .t 10, qi 4] [] 9 false, qo 12 .pick [.t 9, qb true, .t 11], qm 13 12, qv 14 0 13 false, qg 15 (.call .wr) [qf 57, .t 14, .c (.str [95])] [] 13 false,
qo 16 .pick [.t 13, qb true, .t 15], qm 17 16, qv 18 0 17 false, qg 19 (.call .wr) [qf 57, .t 18, .c (.str [40])] [] 17 false, qo 20 .pick [.t 17, qb true, .t 19], qm 2 20] [2])
 (.ret)), [.tmp 2]⟩
def v_parse_parser_apat : VFunc := ⟨80, .seq (.region [qo 2 (.alloc [.int .i64 0, .str [], .int .i64 0, .sl true 6 [], .int .i64 0, .int .i64 0]) []] [0, 2])
 (.seq (.region [qm 9 0, qo 10 (.call .wr) [qf 87, .t 9], qo 3 (.alloc [.int .i64 0, .str [], .int .i64 0, .int .i64 0, .int .i64 0, .bool false]) [], qn (.store 6) [.t 3, .t 10] []] [0, 2, 3])
 (.seq (.block 0 (.seq (.region [qo 12 (.fieldAddr 0) [.t 3], qo 13 (.load 1 false) [.t 12], qo 14 (.bin .eql) [.t 13, qi 1], qm 11 14] [0, 2, 3, 11])
 (.cond (.t 11)
 (.seq (.region [qm 15 0, qo 16 (.call .wr) [qf 58, .t 15]] [2, 3])
 (.seq (.region [qo 17 (.fieldAddr 1) [.t 3], qo 18 (.load 1 false) [.t 17], qo 19 (.fieldAddr 3) [.t 3], qo 20 (.load 2 true) [.t 19],
qo 21 (.build [.int .i64 0, .str [], .int .i64 0, .sl true 6 [], .int .i64 0, .int .i64 0] [(0, 1), (1, 1), (4, 2)]) [qi 2, .t 18, .t 20], qn (.store 6) [.t 2, .t 21] [21]] [2])
 (.ret)))
 (.seq (.region [qo 23 (.fieldAddr 0) [.t 3], qo 24 (.load 1 false) [.t 23], qo 25 (.bin .eql) [.t 24, qi 2], qm 22 25] [0, 2, 3, 22])
 (.cond (.t 22)
 (.seq (.region [qm 26 0, qo 27 (.call .wr) [qf 58, .t 26]] [2, 3])
 (.seq (.region [qo 28 (.fieldAddr 1) [.t 3], qo 29 (.load 1 false) [.t 28], qo 30 (.fieldAddr 3) [.t 3], qo 31 (.load 2 true) [.t 30],
qo 32 (.build [.int .i64 0, .str [], .int .i64 0, .sl true 6 [], .int .i64 0, .int .i64 0] [(0, 1), (1, 1), (4, 2)]) [qi 4, .t 29, .t 31], qn (.store 6) [.t 2, .t 32] [32]] [2])
 (.ret)))
 (.seq (.region [qo 34 (.fieldAddr 0) [.t 3], qo 35 (.load 1 false) [.t 34], qo 36 (.bin .eql) [.t 35, qi 4], qm 33 36] [0, 2, 3, 33])
 (.cond (.t 33)
 (.seq (.region [qm 38 0, qo 39 (.call .wr) [qf 118, .t 38], qm 37 39, qo 40 (.extract 0) [.t 37], qo 41 (.extract 1) [.t 37], qo 5 (.alloc [.int .i64 0, .int .i64 0]) [], qm 4 40,
qn (.store 2) [.t 5, .t 41] []] [2, 4, 5])
 (.seq (.region [qm 42 4, qo 43 (.load 2 true) [.t 5], qo 44 (.build [.int .i64 0, .str [], .int .i64 0, .sl true 6 [], .int .i64 0, .int .i64 0] [(0, 1), (2, 1), (4, 2)]) [qi 3, .t 42, .t 43],
qn (.store 6) [.t 2, .t 44] [44]] [2])
 (.ret)))
 (.seq (.region [qm 46 0, qo 47 (.call .wr) [qf 57, .t 46, .c (.str [95])], qm 45 47] [0, 2, 3, 45])
 (.cond (.t 45)
 (.seq (.region [qm 48 0, qo 49 (.call .wr) [qf 58, .t 48]] [2, 3])
 (.seq (.region [qo 50 (.fieldAddr 3) [.t 3], qo 51 (.load 2 true) [.t 50], qo 52 (.build [.int .i64 0, .str [], .int .i64 0, .sl true 6 [], .int .i64 0, .int .i64 0] [(0, 1), (4, 2)]) [qi 1, .t 51],
qn (.store 6) [.t 2, .t 52] [52]] [2])
 (.ret)))
 (.seq (.region [qm 54 0, qo 55 (.call .wr) [qf 119, .t 54, .c (.str [45]), qi 4], qm 53 55] [0, 2, 53])
 (.cond (.t 53)
 (.seq (.region [qm 57 0, qo 58 (.call .wr) [qf 120, .t 57], qm 56 58, qo 59 (.extract 0) [.t 56], qo 60 (.extract 1) [.t 56], qo 7 (.alloc [.int .i64 0, .int .i64 0]) [], qm 6 59,
qn (.store 2) [.t 7, .t 60] []] [2, 6, 7])
 (.seq (.region [qm 61 6, qo 62 (.load 2 true) [.t 7], qo 63 (.build [.int .i64 0, .str [], .int .i64 0, .sl true 6 [], .int .i64 0, .int .i64 0] [(0, 1), (2, 1), (4, 2)]) [qi 3, .t 61, .t 62],
qn (.store 6) [.t 2, .t 63] [63]] [2])
 (.ret)))
 (.skip))))))))))))
 (.seq (.region [qm 64 0, qo 65 (.call .wr) [qf 29, .t 64, .c (.str [40])]] [0, 2])
 (.seq (.seq (.region [qm 66 0, qo 67 (.call .wr) [qf 66, .t 66, qi 3]] [0, 2, 67])
 (.cond (.t 67)
 (.region [qm 68 0, qo 69 (.call .wr) [qf 121, .t 68]] [0, 2])
 (.skip)))
 (.seq (.seq (.region [qm 70 0, qo 71 .nilCheck [.t 70], qo 72 (.fieldAddr 2) [.t 71], qo 73 (.load 1 false) [.t 72]] [0, 2, 73])
 (.cond (.t 73)
 (.seq (.region [qo 74 (.build [.int .i64 0, .str [], .int .i64 0, .sl true 6 [], .int .i64 0, .int .i64 0] []) [], qn (.store 6) [.t 2, .t 74] [74]] [2])
 (.ret))
 (.skip)))
 (.seq (.region [qm 75 0, qo 76 (.call .wr) [qf 122, .t 75], qo 8 (.alloc [.int .i64 0, .str [], .int .i64 0, .sl true 6 [], .int .i64 0, .int .i64 0]) [], qn (.store 6) [.t 8, .t 76] [76]] [0, 2, 8])
 (.seq (.region [qm 77 0, qo 78 (.call .wr) [qf 29, .t 77, .c (.str [41])]] [2, 8])
 (.seq (.region [qo 79 (.loadT 6 true) [.t 8], qn (.store 6) [.t 2, .t 79] [79]] [2])
 (.ret))))))))), [.cell 2 6 true]⟩
def v_parse_parser_body : VFunc := ⟨37, .seq (.region [qo 4 .mv [.c (.sl true 10 [])]] [0, 1, 6])
 (.seq (.region [qo 5 .mv [.c (.sl true 10 [])]] [0, 1, 5, 6])
 (.seq (.seq (.region [qm 7 0, qo 8 (.call .wr) [qf 57, .t 7, .c (.str [124])], qo 9 .not [.t 8]] [0, 1, 5, 6, 9])
 (.cond (.t 9)
 (.seq (.region [qm 10 0, qm 11 1, qo 12 (.call .wr) [qf 29, .t 10, .t 11]] [0, 5, 6])
 (.seq (.region [qt 13 .mv [.t 5] [5], qm 14 0, qo 15 (.call .wr) [qf 34, .t 14],
qt 16 (.build [.sl true 9 [], .int .i64 0, .str [], .int .i64 0, .sl true 1 [], .sl true 9 [], .sl true 7 [], .nilh 4, .int .i64 0, .int .i64 0] [(1, 9)]) [.t 15] [15],
qt 17 (.buildSl 10) [.t 16] [16], qt 18 (.append 10 168) [.t 13, .t 17] [13], qt 4 .mv [.t 18] [18]] [4, 6])
 (.ret)))
 (.skip)))
 (.seq (.block 0 (.loop (.seq (.seq (.region [qm 19 0, qo 20 (.call .wr) [qf 57, .t 19, .c (.str [124])]] [0, 1, 5, 6, 20])
 (.cond (.t 20)
 (.skip)
 (.exit 0)))
 (.block 1 (.seq (.region [qm 21 0, qo 22 (.call .wr) [qf 58, .t 21]] [0, 1, 5, 6])
 (.seq (.region [qm 23 0, qo 24 (.call .wr) [qf 34, .t 23], qo 6 (.alloc [.int .i64 0, .str [], .int .i64 0, .sl true 1 [], .sl true 9 [], .sl true 7 [], .nilh 4, .int .i64 0, .int .i64 0]) [],
qn (.store 9) [.t 6, .t 24] [24]] [0, 1, 5, 6])
 (.seq (.region [qm 25 0, qm 26 1, qo 27 (.call .wr) [qf 29, .t 25, .t 26]] [0, 1, 5, 6])
 (.region [qt 28 .mv [.t 5] [5], qo 29 (.loadL 6 9 true) [.t 6], qt 30 (.buildSl 9) [.t 29] [29], qm 31 0, qo 32 (.call (.fr 6)) [qf 34, .t 31],
qt 33 (.build [.sl true 9 [], .int .i64 0, .str [], .int .i64 0, .sl true 1 [], .sl true 9 [], .sl true 7 [], .nilh 4, .int .i64 0, .int .i64 0] [(0, 1), (1, 9)]) [.t 30, .t 32] [30, 32],
qt 34 (.buildSl 10) [.t 33] [33], qt 35 (.append 10 168) [.t 28, .t 34] [28], qt 5 .mv [.t 35] [35]] [0, 1, 5, 6]))))))))
 (.seq (.region [qt 36 .mv [.t 5] [5], qt 4 .mv [.t 36] [36]] [4, 6])
 (.ret))))), [.tmp 4]⟩
def v_parse_parser_lambda : VFunc := ⟨35, .seq (.region [qo 2 (.alloc [.int .i64 0, .str [], .int .i64 0, .sl true 1 [], .sl true 9 [], .sl true 7 [], .nilh 4, .int .i64 0, .int .i64 0]) []] [0, 2])
 (.seq (.region [qm 4 0, qo 5 (.call .wr) [qf 58, .t 4], qo 6 (.field 3 2 true) [.t 5],
qo 7 (.build [.int .i64 0, .str [], .int .i64 0, .sl true 1 [], .sl true 9 [], .sl true 7 [], .nilh 4, .int .i64 0, .int .i64 0] [(0, 1), (7, 2)]) [qi 5, .t 6],
qo 3 (.alloc [.int .i64 0, .str [], .int .i64 0, .sl true 1 [], .sl true 9 [], .sl true 7 [], .nilh 4, .int .i64 0, .int .i64 0]) [], qn (.store 9) [.t 3, .t 7] [7]] [0, 2, 3])
 (.seq (.block 0 (.loop (.seq (.seq (.region [qm 8 0, qo 9 (.call .wr) [qf 66, .t 8, qi 1], qm 10 9, qv 11 0 10 false, qg 12 (.call .wr) [qf 57, .t 11, .c (.str [95])] [] 10 false, qo 13 .pick [.t 10, qb true, .t 12]] [0, 2, 3, 13])
 (.cond (.t 13)
 (.skip)
 (.exit 0)))
 (.block 1 (.region [qo 14 (.fieldAddr 3) [.t 3], qo 15 (.loadTL 2 1 false) [.t 14], qm 16 0, qo 17 (.call (.fr 2)) [qf 58, .t 16], qo 18 (.field 1 1 false) [.t 17], qo 19 (.buildSl 1) [.t 18],
qt 20 (.append 1 16) [.t 15, .t 19] [15], qo 21 (.fieldAddr 3) [.t 3], qn (.store 1) [.t 21, .t 20] [20]] [0, 2, 3])))))
 (.seq (.seq (.region [qo 22 (.fieldAddr 3) [.t 3], qo 23 (.load 1 false) [.t 22], qo 24 .len [.t 23], qo 25 (.bin .eql) [.t 24, qi 0]] [0, 2, 3, 25])
 (.cond (.t 25)
 (.region [qm 26 0, qo 27 (.call .wr) [qf 59, .t 26, qi 60]] [0, 2, 3])
 (.skip)))
 (.seq (.region [qm 28 0, qo 29 (.call .wr) [qf 29, .t 28, .c (.str [45, 62])]] [0, 2, 3])
 (.seq (.region [qm 30 0, qo 31 (.call .wr) [qf 34, .t 30], qt 32 (.buildSl 9) [.t 31] [31], qo 33 (.fieldAddr 4) [.t 3], qn (.store 1) [.t 33, .t 32] [32]] [2, 3])
 (.seq (.region [qo 34 (.loadT 9 true) [.t 3], qn (.store 9) [.t 2, .t 34] [34]] [2])
 (.ret))))))), [.cell 2 9 true]⟩
def v_parse_parser_operand_1 : VFunc := ⟨7, .region [qo 2 (.load 1 false) [.t 0], qo 3 (.fieldAddr 6) [.t 1], qo 4 (.load 1 false) [.t 3], qt 5 (.call .wr) [qf 62, .t 2, .t 4] [4], qo 6 (.fieldAddr 6) [.t 1], qn (.store 1) [.t 6, .t 5] [5]] [], []⟩
def v_parse_parser_operand_2 : VFunc := ⟨9, .region [qo 2 (.fieldAddr 5) [.t 0], qo 3 (.loadTL 0 1 false) [.t 2], qo 4 (.load 1 false) [.t 1], qo 5 (.call (.fr 0)) [qf 96, .t 4], qt 6 (.buildSl 7) [.t 5] [5],
qt 7 (.append 7 96) [.t 3, .t 6] [3], qo 8 (.fieldAddr 5) [.t 0], qn (.store 1) [.t 8, .t 7] [7]] [0], []⟩
def v_parse_parser_alt : VFunc := ⟨11, .seq (.region [qo 2 (.alloc [.int .i64 0, .str [], .int .i64 0, .sl true 6 [], .int .i64 0, .int .i64 0, .sl true 10 []]) []] [0, 2])
 (.seq (.region [qm 4 0, qo 5 (.call .wr) [qf 122, .t 4], qt 6 (.build [.int .i64 0, .str [], .int .i64 0, .sl true 6 [], .int .i64 0, .int .i64 0, .sl true 10 []] [(0, 6)]) [.t 5] [5],
qo 3 (.alloc [.int .i64 0, .str [], .int .i64 0, .sl true 6 [], .int .i64 0, .int .i64 0, .sl true 10 []]) [], qn (.store 7) [.t 3, .t 6] [6]] [0, 2, 3])
 (.seq (.region [qm 7 0, qo 8 (.call .wr) [qf 92, .t 7, .c (.str [45, 62])], qo 9 (.fieldAddr 6) [.t 3], qn (.store 1) [.t 9, .t 8] [8]] [2, 3])
 (.seq (.region [qo 10 (.loadT 7 true) [.t 3], qn (.store 7) [.t 2, .t 10] [10]] [2])
 (.ret)))), [.cell 2 7 true]⟩
def v_parse_parser_aexp : VFunc := ⟨83, .seq (.region [qo 2 (.alloc [.int .i64 0, .str [], .int .i64 0, .sl true 1 [], .sl true 9 [], .sl true 7 [], .nilh 4, .int .i64 0, .int .i64 0]) []] [0, 2])
 (.seq (.region [qm 10 0, qo 11 (.call .wr) [qf 87, .t 10], qo 3 (.alloc [.int .i64 0, .str [], .int .i64 0, .int .i64 0, .int .i64 0, .bool false]) [], qn (.store 6) [.t 3, .t 11] []] [0, 2, 3])
 (.seq (.block 0 (.seq (.region [qo 13 (.fieldAddr 0) [.t 3], qo 14 (.load 1 false) [.t 13], qo 15 (.bin .eql) [.t 14, qi 1], qm 12 15] [0, 2, 3, 12])
 (.cond (.t 12)
 (.seq (.region [qm 16 0, qo 17 (.call .wr) [qf 58, .t 16]] [2, 3])
 (.seq (.region [qo 18 (.fieldAddr 1) [.t 3], qo 19 (.load 1 false) [.t 18], qo 20 (.fieldAddr 3) [.t 3], qo 21 (.load 2 true) [.t 20],
qo 22 (.build [.int .i64 0, .str [], .int .i64 0, .sl true 1 [], .sl true 9 [], .sl true 7 [], .nilh 4, .int .i64 0, .int .i64 0] [(0, 1), (1, 1), (7, 2)]) [qi 1, .t 19, .t 21],
qn (.store 9) [.t 2, .t 22] [22]] [2])
 (.ret)))
 (.seq (.region [qo 24 (.fieldAddr 0) [.t 3], qo 25 (.load 1 false) [.t 24], qo 26 (.bin .eql) [.t 25, qi 2], qm 23 26] [0, 2, 3, 23])
 (.cond (.t 23)
 (.seq (.region [qm 27 0, qo 28 (.call .wr) [qf 58, .t 27]] [2, 3])
 (.seq (.region [qo 29 (.fieldAddr 1) [.t 3], qo 30 (.load 1 false) [.t 29], qo 31 (.fieldAddr 3) [.t 3], qo 32 (.load 2 true) [.t 31],
qo 33 (.build [.int .i64 0, .str [], .int .i64 0, .sl true 1 [], .sl true 9 [], .sl true 7 [], .nilh 4, .int .i64 0, .int .i64 0] [(0, 1), (1, 1), (7, 2)]) [qi 2, .t 30, .t 32],
qn (.store 9) [.t 2, .t 33] [33]] [2])
 (.ret)))
 (.seq (.region [qo 35 (.fieldAddr 0) [.t 3], qo 36 (.load 1 false) [.t 35], qo 37 (.bin .eql) [.t 36, qi 4], qm 34 37] [0, 2, 34])
 (.cond (.t 34)
 (.seq (.region [qm 39 0, qo 40 (.call .wr) [qf 118, .t 39], qm 38 40, qo 41 (.extract 0) [.t 38], qo 42 (.extract 1) [.t 38], qo 5 (.alloc [.int .i64 0, .int .i64 0]) [], qm 4 41,
qn (.store 2) [.t 5, .t 42] []] [2, 4, 5])
 (.seq (.region [qm 43 4, qo 44 (.load 2 true) [.t 5],
qo 45 (.build [.int .i64 0, .str [], .int .i64 0, .sl true 1 [], .sl true 9 [], .sl true 7 [], .nilh 4, .int .i64 0, .int .i64 0] [(0, 1), (2, 1), (7, 2)]) [qi 3, .t 43, .t 44],
qn (.store 9) [.t 2, .t 45] [45]] [2])
 (.ret)))
 (.seq (.region [qm 47 0, qo 48 (.call .wr) [qf 119, .t 47, .c (.str [45]), qi 4], qm 46 48] [0, 2, 46])
 (.cond (.t 46)
 (.seq (.region [qm 50 0, qo 51 (.call .wr) [qf 120, .t 50], qm 49 51, qo 52 (.extract 0) [.t 49], qo 53 (.extract 1) [.t 49], qo 7 (.alloc [.int .i64 0, .int .i64 0]) [], qm 6 52,
qn (.store 2) [.t 7, .t 53] []] [2, 6, 7])
 (.seq (.region [qm 54 6, qo 55 (.load 2 true) [.t 7],
qo 56 (.build [.int .i64 0, .str [], .int .i64 0, .sl true 1 [], .sl true 9 [], .sl true 7 [], .nilh 4, .int .i64 0, .int .i64 0] [(0, 1), (2, 1), (7, 2)]) [qi 3, .t 54, .t 55],
qn (.store 9) [.t 2, .t 56] [56]] [2])
 (.ret)))
 (.seq (.region [qm 58 0, qo 59 (.call .wr) [qf 123, .t 58], qm 57 59] [0, 2, 57])
 (.cond (.t 57)
 (.seq (.region [qm 60 0, qo 61 (.call .wr) [qf 58, .t 60]] [0, 2])
 (.seq (.region [qm 62 0, qo 63 (.call .wr) [qf 58, .t 62], qo 8 (.alloc [.int .i64 0, .str [], .int .i64 0, .int .i64 0, .int .i64 0, .bool false]) [], qn (.store 6) [.t 8, .t 63] []] [0, 2, 8])
 (.seq (.region [qm 64 0, qo 65 (.call .wr) [qf 29, .t 64, .c (.str [41])]] [2, 8])
 (.seq (.region [qo 66 (.fieldAddr 1) [.t 8], qo 67 (.load 1 false) [.t 66], qo 68 (.fieldAddr 3) [.t 8], qo 69 (.load 2 true) [.t 68],
qo 70 (.build [.int .i64 0, .str [], .int .i64 0, .sl true 1 [], .sl true 9 [], .sl true 7 [], .nilh 4, .int .i64 0, .int .i64 0] [(0, 1), (1, 1), (7, 2)]) [qi 1, .t 67, .t 69],
qn (.store 9) [.t 2, .t 70] [70]] [2])
 (.ret)))))
 (.skip))))))))))))
 (.seq (.region [qm 71 0, qo 72 (.call .wr) [qf 29, .t 71, .c (.str [40])]] [0, 2])
 (.seq (.seq (.region [qm 73 0, qo 74 .nilCheck [.t 73], qo 75 (.fieldAddr 2) [.t 74], qo 76 (.load 1 false) [.t 75]] [0, 2, 76])
 (.cond (.t 76)
 (.seq (.region [qo 77 (.build [.int .i64 0, .str [], .int .i64 0, .sl true 1 [], .sl true 9 [], .sl true 7 [], .nilh 4, .int .i64 0, .int .i64 0] []) [], qn (.store 9) [.t 2, .t 77] [77]] [2])
 (.ret))
 (.skip)))
 (.seq (.region [qm 78 0, qo 79 (.call .wr) [qf 34, .t 78], qo 9 (.alloc [.int .i64 0, .str [], .int .i64 0, .sl true 1 [], .sl true 9 [], .sl true 7 [], .nilh 4, .int .i64 0, .int .i64 0]) [],
qn (.store 9) [.t 9, .t 79] [79]] [0, 2, 9])
 (.seq (.region [qm 80 0, qo 81 (.call .wr) [qf 29, .t 80, .c (.str [41])]] [2, 9])
 (.seq (.region [qo 82 (.loadT 9 true) [.t 9], qn (.store 9) [.t 2, .t 82] [82]] [2])
 (.ret)))))))), [.cell 2 9 true]⟩
def v_parse_parser_argument : VFunc := ⟨17, .seq (.region [qo 2 .mv [qb false]] [0])
 (.seq (.region [qm 3 0, qo 4 (.call .wr) [qf 66, .t 3, qi 1], qm 5 4, qv 6 0 5 false, qg 7 (.call .wr) [qf 66, .t 6, qi 2] [] 5 false, qo 8 .pick [.t 5, qb true, .t 7], qm 9 8, qv 10 0 9 false,
qg 11 (.call .wr) [qf 66, .t 10, qi 4] [] 9 false, qo 12 .pick [.t 9, qb true, .t 11], qm 13 12, qv 14 0 13 false, qg 15 (.call .wr) [qf 57, .t 14, .c (.str [40])] [] 13 false,
qo 16 .pick [.t 13, qb true, .t 15], qm 2 16] [2])
 (.ret)), [.tmp 2]⟩
def v_parse_grower_spans : VFunc := ⟨59, .seq (.region [qt 3 .box [.t 1] [1], qo 4 .mv [.c (.sl true 2 [])]] [0, 3])
 (.seq (.region [qo 5 .mv [.c (.sl true 5 [])]] [0, 3, 5])
 (.seq (.seq (.region [qo 11 (.fieldAddr 6) [.t 3], qo 12 (.load 1 false) [.t 11], qo 13 .len [.t 12], qo 14 .mv [qi 0]] [0, 3, 5, 12, 13, 14])
 (.block 0 (.loop (.seq (.region [qo 15 (.bin .lss) [.t 14, .t 13]] [0, 3, 5, 12, 13, 14, 15])
 (.seq (.cond (.t 15)
 (.skip)
 (.exit 0))
 (.seq (.block 1 (.seq (.region [qo 16 (.indexAddr 4) [.t 12, .t 14], qo 17 (.load 4 true) [.t 16], qo 7 (.alloc [.str [], .sl true 2 [], .int .i64 0, .int .i64 0]) [], qn (.store 4) [.t 7, .t 17] [17]] [0, 3, 5, 7, 12, 13, 14])
 (.region [qt 18 .mv [.t 5] [5], qm 19 0, qo 20 .nilCheck [.t 19], qo 21 (.fieldAddr 0) [.t 20], qo 22 (.load 1 false) [.t 21], qo 23 (.fieldAddr 0) [.t 7], qo 24 (.load 1 false) [.t 23],
qt 25 (.call .wr) [qf 124, .t 22, .t 24] [22], qo 26 (.buildSl 5) [.t 25], qt 27 (.append 5 48) [.t 18, .t 26] [18], qt 5 .mv [.t 27] [27]] [0, 3, 5, 12, 13, 14])))
 (.region [qo 28 (.bin .add) [.t 14, qi 1], qm 14 28] [0, 3, 5, 12, 13, 14])))))))
 (.seq (.region [qt 30 .mv [.t 5] [5], qt 31 (.call .wr) [qf 125, .t 30] [30], qt 29 .mv [.t 31] [31], qo 32 (.extract 0) [.t 29], qo 33 (.extract 1) [.t 29], qt 34 (.extract 2) [.t 29] [29],
qt 8 .mv [.t 32] [32], qm 9 33, qm 10 34] [0, 3, 8, 9, 10])
 (.seq (.seq (.region [qm 35 10, qo 36 (.bin .neq) [.t 35, qi 0], qm 37 36, qv 38 0 37 true, qg 39 .nilCheck [.t 38] [] 37 true, qg 40 (.fieldAddr 1) [.t 39] [] 37 true, qg 41 (.load 1 false) [.t 40] [] 37 true,
qg 42 .not [.t 41] [] 37 true, qo 43 .pick [.t 37, .t 42, qb false]] [0, 3, 8, 9, 10, 43])
 (.cond (.t 43)
 (.seq (.region [qm 44 0, qo 45 .nilCheck [.t 44], qo 46 (.fieldAddr 1) [.t 45], qn (.store 1) [.t 46, qb true] []] [0, 3, 8, 9, 10])
 (.region [qm 47 0, qm 48 10, qo 49 (.fieldAddr 6) [.t 3], qo 50 (.load 1 false) [.t 49], qm 51 9, qo 52 (.indexAddr 4) [.t 50, .t 51], qo 53 (.fieldAddr 2) [.t 52], qo 54 (.load 2 true) [.t 53],
qo 55 (.build [.int .i64 0, .int .i64 0, .int .i64 0] [(0, 1), (1, 2)]) [.t 48, .t 54], qo 56 .nilCheck [.t 47], qo 57 (.fieldAddr 2) [.t 56], qn (.store 3) [.t 57, .t 55] []] [8]))
 (.skip)))
 (.seq (.region [qt 58 .mv [.t 8] [8], qt 4 .mv [.t 58] [58]] [4])
 (.ret)))))), [.tmp 4]⟩
def v_parse_grower_grown_1 : VFunc := ⟨60, .seq (.region [qo 8 (.alloc [.int .i64 0, .str [], .int .i64 0, .sl true 1 [], .sl true 9 [], .sl true 7 [], .nilh 4, .int .i64 0, .int .i64 0]) []] [0, 1, 2, 3, 4, 5, 8])
 (.seq (.seq (.region [qm 13 0, qm 9 13] [0, 1, 2, 3, 4, 5, 8, 9])
 (.block 0 (.loop (.seq (.seq (.region [qm 14 9, qm 15 1, qo 16 (.bin .lss) [.t 14, .t 15]] [0, 1, 2, 3, 4, 5, 8, 9, 16])
 (.cond (.t 16)
 (.skip)
 (.exit 0)))
 (.seq (.block 1 (.seq (.region [qo 19 (.load 1 false) [.t 2], qm 20 9, qo 21 (.indexAddr 2) [.t 19, .t 20], qo 22 (.load 2 true) [.t 21], qm 23 0, qm 24 1,
qo 25 (.build [.int .i64 0, .int .i64 0] [(0, 1), (1, 1)]) [.t 23, .t 24], qo 26 (.eqc false true [.i, .i]) [.t 22, .t 25]] [0, 1, 2, 3, 4, 5, 8, 9, 26])
 (.cond (.t 26)
 (.seq (.region [qo 27 (.fieldAddr 6) [.t 3], qo 28 (.load 1 false) [.t 27], qm 29 9, qo 30 (.indexAddr 4) [.t 28, .t 29], qo 31 (.load 4 true) [.t 30],
qo 10 (.alloc [.str [], .sl true 2 [], .int .i64 0, .int .i64 0]) [], qn (.store 4) [.t 10, .t 31] [31]] [0, 1, 4, 8, 9, 10])
 (.seq (.region [qo 32 (.fieldAddr 0) [.t 10], qo 33 (.load 1 false) [.t 32], qo 34 (.fieldAddr 2) [.t 10], qo 35 (.load 2 true) [.t 34],
qo 36 (.build [.int .i64 0, .str [], .int .i64 0, .sl true 1 [], .sl true 9 [], .sl true 7 [], .nilh 4, .int .i64 0, .int .i64 0] [(0, 1), (1, 1), (7, 2)]) [qi 1, .t 33, .t 35],
qo 11 (.alloc [.int .i64 0, .str [], .int .i64 0, .sl true 1 [], .sl true 9 [], .sl true 7 [], .nilh 4, .int .i64 0, .int .i64 0]) [], qn (.store 9) [.t 11, .t 36] [36]] [0, 1, 4, 8, 9, 10, 11])
 (.seq (.region [qo 37 (.loadL 8 9 true) [.t 11], qo 38 (.load 1 false) [.t 4], qm 39 0, qm 40 9, qo 41 (.call (.fr 8)) [.t 38, .t 39, .t 40], qt 42 (.buildSl 9) [.t 37, .t 41] [37, 41],
qo 43 (.fieldAddr 2) [.t 10], qo 44 (.loadL 8 2 true) [.t 43],
qt 45 (.build [.int .i64 0, .str [], .int .i64 0, .sl true 1 [], .sl true 9 [], .sl true 7 [], .nilh 4, .int .i64 0, .int .i64 0] [(0, 1), (4, 1), (7, 2)]) [qi 4, .t 42, .t 44] [42],
qo 12 (.allocL 8 [.int .i64 0, .str [], .int .i64 0, .sl true 1 [], .sl true 9 [], .sl true 7 [], .nilh 4, .int .i64 0, .int .i64 0]) [], qn (.store 9) [.t 12, .t 45] [45]] [1, 4, 8, 9, 10, 12])
 (.seq (.region [qo 46 (.loadTL 8 9 true) [.t 12], qo 47 (.load 1 false) [.t 4], qm 48 9, qo 49 (.bin .add) [.t 48, qi 1], qm 50 1, qo 51 (.call (.fr 8)) [.t 47, .t 49, .t 50],
qt 52 (.buildSl 9) [.t 46, .t 51] [46, 51], qo 53 (.fieldAddr 2) [.t 10], qo 54 (.loadL 8 2 true) [.t 53],
qt 55 (.build [.int .i64 0, .str [], .int .i64 0, .sl true 1 [], .sl true 9 [], .sl true 7 [], .nilh 4, .int .i64 0, .int .i64 0] [(0, 1), (4, 1), (7, 2)]) [qi 4, .t 52, .t 54] [52],
qn (.store 9) [.t 8, .t 55] [55]] [8])
 (.ret)))))
 (.skip))))
 (.region [qm 17 9, qo 18 (.bin .add) [.t 17, qi 1], qm 9 18] [0, 1, 2, 3, 4, 5, 8, 9]))))))
 (.seq (.region [qo 56 (.load 1 false) [.t 5], qm 57 0, qo 58 (.indexAddr 9) [.t 56, .t 57], qo 59 (.load 9 true) [.t 58], qn (.store 9) [.t 8, .t 59] [59]] [8])
 (.ret))), [.cell 8 9 true]⟩
def v_lex_reader_remark : VFunc := ⟨40, .block 0 (.loop (.seq (.seq (.region [qm 2 0, qo 3 .nilCheck [.t 2], qo 4 (.fieldAddr 1) [.t 3], qo 5 (.load 1 false) [.t 4], qm 6 0, qo 7 .nilCheck [.t 6], qo 8 (.fieldAddr 0) [.t 7], qo 9 (.load 1 false) [.t 8],
qo 10 .lenStr [.t 9], qo 11 (.bin .lss) [.t 5, .t 10], qm 12 11, qv 13 0 12 true, qg 14 .nilCheck [.t 13] [] 12 true, qg 15 (.fieldAddr 0) [.t 14] [] 12 true,
qg 16 (.load 1 false) [.t 15] [] 12 true, qv 17 0 12 true, qg 18 .nilCheck [.t 17] [] 12 true, qg 19 (.fieldAddr 1) [.t 18] [] 12 true, qg 20 (.load 1 false) [.t 19] [] 12 true,
qg 21 .indexStr [.t 16, .t 20] [] 12 true, qg 22 (.bin .neq) [.t 21, .c (.int .u8 10)] [] 12 true, qo 23 .pick [.t 12, .t 22, qb false]] [0, 23])
 (.cond (.t 23)
 (.skip)
 (.exit 0)))
 (.block 1 (.seq (.region [qm 24 0, qo 25 .nilCheck [.t 24], qo 26 (.fieldAddr 1) [.t 25], qo 27 (.load 1 false) [.t 26], qo 28 (.bin .add) [.t 27, qi 1], qo 29 .nilCheck [.t 24], qo 30 (.fieldAddr 1) [.t 29],
qn (.store 1) [.t 30, .t 28] []] [0])
 (.region [qm 31 0, qo 32 .nilCheck [.t 31], qo 33 (.fieldAddr 2) [.t 32], qo 34 (.fieldAddr 1) [.t 33], qo 35 (.load 1 false) [.t 34], qo 36 (.bin .add) [.t 35, qi 1], qo 37 .nilCheck [.t 31],
qo 38 (.fieldAddr 2) [.t 37], qo 39 (.fieldAddr 1) [.t 38], qn (.store 1) [.t 39, .t 36] []] [0]))))), []⟩
def v_lex_classOf : VFunc := ⟨56, .seq (.region [qo 2 .mv [qi 0]] [0])
 (.seq (.block 0 (.seq (.region [qm 4 0, qo 5 (.bin .geq) [.t 4, .c (.int .u8 97)], qm 6 5, qv 7 0 6 true, qg 8 (.bin .leq) [.t 7, .c (.int .u8 122)] [] 6 true, qo 9 .pick [.t 6, .t 8, qb false], qm 10 9, qv 11 0 10 false,
qg 12 (.bin .eql) [.t 11, .c (.int .u8 95)] [] 10 false, qo 13 .pick [.t 10, qb true, .t 12], qm 3 13] [0, 3])
 (.cond (.t 3)
 (.seq (.region [qo 2 .mv [qi 1]] [2])
 (.ret))
 (.seq (.region [qm 15 0, qo 16 (.bin .geq) [.t 15, .c (.int .u8 65)], qm 17 16, qv 18 0 17 true, qg 19 (.bin .leq) [.t 18, .c (.int .u8 90)] [] 17 true, qo 20 .pick [.t 17, .t 19, qb false], qm 14 20] [0, 14])
 (.cond (.t 14)
 (.seq (.region [qo 2 .mv [qi 2]] [2])
 (.ret))
 (.seq (.region [qm 22 0, qo 23 (.bin .geq) [.t 22, .c (.int .u8 48)], qm 24 23, qv 25 0 24 true, qg 26 (.bin .leq) [.t 25, .c (.int .u8 57)] [] 24 true, qo 27 .pick [.t 24, .t 26, qb false], qm 21 27] [0, 21])
 (.cond (.t 21)
 (.seq (.region [qo 2 .mv [qi 3]] [2])
 (.ret))
 (.skip))))))))
 (.seq (.seq (.region [qm 28 0] [28])
 (.block 1 (.seq (.seq (.region [qo 30 (.bin .eql) [.t 28, .c (.int .u8 40)], qm 29 30] [28, 29])
 (.cond (.t 29)
 (.skip)
 (.seq (.region [qo 31 (.bin .eql) [.t 28, .c (.int .u8 41)], qm 29 31] [28, 29])
 (.cond (.t 29)
 (.skip)
 (.seq (.region [qo 32 (.bin .eql) [.t 28, .c (.int .u8 123)], qm 29 32] [28, 29])
 (.cond (.t 29)
 (.skip)
 (.seq (.region [qo 33 (.bin .eql) [.t 28, .c (.int .u8 125)], qm 29 33] [28, 29])
 (.cond (.t 29)
 (.skip)
 (.seq (.region [qo 34 (.bin .eql) [.t 28, .c (.int .u8 59)], qm 29 34] [28, 29])
 (.cond (.t 29)
 (.skip)
 (.region [qo 35 (.bin .eql) [.t 28, .c (.int .u8 92)], qm 29 35] [28, 29])))))))))))
 (.cond (.t 29)
 (.seq (.region [qo 2 .mv [qi 4]] [2])
 (.ret))
 (.seq (.seq (.region [qo 37 (.bin .eql) [.t 28, .c (.int .u8 33)], qm 36 37] [28, 36])
 (.cond (.t 36)
 (.skip)
 (.seq (.region [qo 38 (.bin .eql) [.t 28, .c (.int .u8 35)], qm 36 38] [28, 36])
 (.cond (.t 36)
 (.skip)
 (.seq (.region [qo 39 (.bin .eql) [.t 28, .c (.int .u8 36)], qm 36 39] [28, 36])
 (.cond (.t 36)
 (.skip)
 (.seq (.region [qo 40 (.bin .eql) [.t 28, .c (.int .u8 37)], qm 36 40] [28, 36])
 (.cond (.t 36)
 (.skip)
 (.seq (.region [qo 41 (.bin .eql) [.t 28, .c (.int .u8 38)], qm 36 41] [28, 36])
 (.cond (.t 36)
 (.skip)
 (.seq (.region [qo 42 (.bin .eql) [.t 28, .c (.int .u8 42)], qm 36 42] [28, 36])
 (.cond (.t 36)
 (.skip)
 (.seq (.region [qo 43 (.bin .eql) [.t 28, .c (.int .u8 43)], qm 36 43] [28, 36])
 (.cond (.t 36)
 (.skip)
 (.seq (.region [qo 44 (.bin .eql) [.t 28, .c (.int .u8 46)], qm 36 44] [28, 36])
 (.cond (.t 36)
 (.skip)
 (.seq (.region [qo 45 (.bin .eql) [.t 28, .c (.int .u8 47)], qm 36 45] [28, 36])
 (.cond (.t 36)
 (.skip)
 (.seq (.region [qo 46 (.bin .eql) [.t 28, .c (.int .u8 58)], qm 36 46] [28, 36])
 (.cond (.t 36)
 (.skip)
 (.seq (.region [qo 47 (.bin .eql) [.t 28, .c (.int .u8 60)], qm 36 47] [28, 36])
 (.cond (.t 36)
 (.skip)
 (.seq (.region [qo 48 (.bin .eql) [.t 28, .c (.int .u8 61)], qm 36 48] [28, 36])
 (.cond (.t 36)
 (.skip)
 (.seq (.region [qo 49 (.bin .eql) [.t 28, .c (.int .u8 62)], qm 36 49] [28, 36])
 (.cond (.t 36)
 (.skip)
 (.seq (.region [qo 50 (.bin .eql) [.t 28, .c (.int .u8 63)], qm 36 50] [28, 36])
 (.cond (.t 36)
 (.skip)
 (.seq (.region [qo 51 (.bin .eql) [.t 28, .c (.int .u8 64)], qm 36 51] [28, 36])
 (.cond (.t 36)
 (.skip)
 (.seq (.region [qo 52 (.bin .eql) [.t 28, .c (.int .u8 94)], qm 36 52] [28, 36])
 (.cond (.t 36)
 (.skip)
 (.seq (.region [qo 53 (.bin .eql) [.t 28, .c (.int .u8 124)], qm 36 53] [28, 36])
 (.cond (.t 36)
 (.skip)
 (.seq (.region [qo 54 (.bin .eql) [.t 28, .c (.int .u8 126)], qm 36 54] [28, 36])
 (.cond (.t 36)
 (.skip)
 (.region [qo 55 (.bin .eql) [.t 28, .c (.int .u8 45)], qm 36 55] [36])))))))))))))))))))))))))))))))))))))
 (.cond (.t 36)
 (.seq (.region [qo 2 .mv [qi 5]] [2])
 (.ret))
 (.skip)))))))
 (.seq (.region [qo 2 .mv [qi 0]] [2])
 (.ret)))), [.tmp 2]⟩
def v_lex_goesOn : VFunc := ⟨32, .seq (.region [qo 4 .mv [qb false]] [0, 1])
 (.seq (.region [qm 6 1, qo 7 (.call .wr) [qf 105, .t 6], qm 5 7] [0, 1, 5])
 (.seq (.seq (.region [qm 8 0] [0, 1, 5, 8])
 (.block 0 (.seq (.seq (.region [qo 10 (.bin .eql) [.t 8, qi 1], qm 9 10] [0, 1, 5, 8, 9])
 (.cond (.t 9)
 (.skip)
 (.region [qo 11 (.bin .eql) [.t 8, qi 2], qm 9 11] [0, 1, 5, 8, 9])))
 (.cond (.t 9)
 (.seq (.region [qm 12 5, qo 13 (.bin .eql) [.t 12, qi 1], qm 14 13, qv 15 5 14 false, qg 16 (.bin .eql) [.t 15, qi 2] [] 14 false, qo 17 .pick [.t 14, qb true, .t 16], qm 18 17, qv 19 5 18 false,
qg 20 (.bin .eql) [.t 19, qi 3] [] 18 false, qo 21 .pick [.t 18, qb true, .t 20], qm 22 21, qv 23 1 22 false, qg 24 (.bin .eql) [.t 23, .c (.int .u8 39)] [] 22 false,
qo 25 .pick [.t 22, qb true, .t 24], qm 4 25] [4])
 (.ret))
 (.seq (.seq (.region [qo 27 (.bin .eql) [.t 8, qi 3], qm 26 27] [0, 5, 8, 26])
 (.cond (.t 26)
 (.skip)
 (.region [qo 28 (.bin .eql) [.t 8, qi 5], qm 26 28] [0, 5, 26])))
 (.cond (.t 26)
 (.seq (.region [qm 29 5, qm 30 0, qo 31 (.bin .eql) [.t 29, .t 30], qm 4 31] [4])
 (.ret))
 (.skip)))))))
 (.seq (.region [qo 4 .mv [qb false]] [4])
 (.ret)))), [.tmp 4]⟩
def v_lex_kind : VFunc := ⟨28, .seq (.region [qo 4 .mv [qi 0]] [0, 1])
 (.seq (.seq (.region [qm 5 0] [1, 5])
 (.block 0 (.seq (.region [qo 7 (.bin .eql) [.t 5, qi 2], qm 6 7] [1, 5, 6])
 (.cond (.t 6)
 (.seq (.region [qo 4 .mv [qi 2]] [4])
 (.ret))
 (.seq (.region [qo 9 (.bin .eql) [.t 5, qi 3], qm 8 9] [1, 5, 8])
 (.cond (.t 8)
 (.seq (.region [qo 4 .mv [qi 4]] [4])
 (.ret))
 (.seq (.region [qo 11 (.bin .eql) [.t 5, qi 5], qm 10 11] [1, 5, 10])
 (.cond (.t 10)
 (.seq (.seq (.region [qm 12 1, qo 13 (.bin .eql) [.t 12, .c (.str [61])], qm 14 13, qv 15 1 14 false, qg 16 (.bin .eql) [.t 15, .c (.str [124])] [] 14 false, qo 17 .pick [.t 14, qb true, .t 16], qm 18 17,
qv 19 1 18 false, qg 20 (.bin .eql) [.t 19, .c (.str [45, 62])] [] 18 false, qo 21 .pick [.t 18, qb true, .t 20]] [21])
 (.cond (.t 21)
 (.seq (.region [qo 4 .mv [qi 5]] [4])
 (.ret))
 (.skip)))
 (.seq (.region [qo 4 .mv [qi 3]] [4])
 (.ret)))
 (.seq (.region [qo 23 (.bin .eql) [.t 5, qi 1], qm 22 23] [1, 22])
 (.cond (.t 22)
 (.seq (.seq (.region [qm 24 1, qo 25 (.bin .eql) [.t 24, .c (.str [95])]] [1, 25])
 (.cond (.t 25)
 (.seq (.region [qo 4 .mv [qi 5]] [4])
 (.ret))
 (.skip)))
 (.seq (.seq (.region [qm 26 1, qo 27 (.call .wr) [qf 128, .t 26]] [27])
 (.cond (.t 27)
 (.seq (.region [qo 4 .mv [qi 6]] [4])
 (.ret))
 (.skip)))
 (.seq (.region [qo 4 .mv [qi 1]] [4])
 (.ret))))
 (.skip)))))))))))
 (.seq (.region [qo 4 .mv [qi 5]] [4])
 (.ret))), [.tmp 4]⟩
def v_lex_value : VFunc := ⟨15, .seq (.region [qo 2 .mv [qi 0], qo 3 .mv [qi 0]] [0])
 (.seq (.seq (.region [qm 4 0, qo 5 (.bin .eql) [.t 4, .c (.str [57, 50, 50, 51, 51, 55, 50, 48, 51, 54, 56, 53, 52, 55, 55, 53, 56, 48, 56])]] [0, 5])
 (.cond (.t 5)
 (.seq (.region [qm 6 0, qo 7 (.bin .add) [.c (.str [45]), .t 6], qo 8 (.call .wr) [qf 129, .t 7], qo 9 (.extract 0) [.t 8], qo 10 (.extract 1) [.t 8], qm 2 9, qm 3 10] [2, 3])
 (.ret))
 (.skip)))
 (.seq (.region [qm 11 0, qo 12 (.call .wr) [qf 129, .t 11], qo 13 (.extract 0) [.t 12], qo 14 (.extract 1) [.t 12], qm 2 13, qm 3 14] [2, 3])
 (.ret))), [.tmp 2, .tmp 3]⟩
def v_layout_layer_column : VFunc := ⟨27, .seq (.region [qo 2 .mv [qi 0]] [0])
 (.seq (.region [qm 4 0, qo 5 (.call .wr) [qf 113, .t 4], qm 3 5] [0, 3])
 (.seq (.seq (.region [qm 6 3, qo 7 (.bin .lss) [.t 6, qi 0], qm 8 7, qv 9 0 8 false, qg 10 .nilCheck [.t 9] [] 8 false, qg 11 (.fieldAddr 1) [.t 10] [] 8 false, qg 12 (.load 1 false) [.t 11] [] 8 false,
qv 13 3 8 false, qg 14 (.indexAddr 2) [.t 12, .t 13] [] 8 false, qg 15 (.fieldAddr 0) [.t 14] [] 8 false, qg 16 (.load 1 false) [.t 15] [] 8 false, qg 17 (.bin .eql) [.t 16, qi 1] [] 8 false,
qo 18 .pick [.t 8, qb true, .t 17]] [0, 3, 18])
 (.cond (.t 18)
 (.seq (.region [qo 2 .mv [qi 0]] [2])
 (.ret))
 (.skip)))
 (.seq (.region [qm 19 0, qo 20 .nilCheck [.t 19], qo 21 (.fieldAddr 1) [.t 20], qo 22 (.load 1 false) [.t 21], qm 23 3, qo 24 (.indexAddr 2) [.t 22, .t 23], qo 25 (.fieldAddr 1) [.t 24],
qo 26 (.load 1 false) [.t 25], qm 2 26] [2])
 (.ret)))), [.tmp 2]⟩
def v_layout_layer_push : VFunc := ⟨18, .region [qm 6 0, qm 7 0, qo 8 .nilCheck [.t 7], qo 9 (.fieldAddr 1) [.t 8], qo 10 (.load 1 false) [.t 9], qm 11 1, qm 12 2, qo 13 (.build [.int .i64 0, .int .i64 0] [(0, 1), (1, 1)]) [.t 11, .t 12],
qo 14 (.buildSl 2) [.t 13], qo 15 (.appendH 2 16) [.t 10, .t 14], qo 16 .nilCheck [.t 6], qo 17 (.fieldAddr 1) [.t 16], qn (.store 1) [.t 17, .t 15] [15]] [], []⟩
def v_layout_layer_inLaid : VFunc := ⟨19, .seq (.region [qo 2 .mv [qb false]] [0])
 (.seq (.region [qm 4 0, qo 5 (.call .wr) [qf 113, .t 4], qm 3 5] [0, 3])
 (.seq (.region [qm 6 3, qo 7 (.bin .geq) [.t 6, qi 0], qm 8 7, qv 9 0 8 true, qg 10 .nilCheck [.t 9] [] 8 true, qg 11 (.fieldAddr 1) [.t 10] [] 8 true, qg 12 (.load 1 false) [.t 11] [] 8 true,
qv 13 3 8 true, qg 14 (.indexAddr 2) [.t 12, .t 13] [] 8 true, qg 15 (.fieldAddr 0) [.t 14] [] 8 true, qg 16 (.load 1 false) [.t 15] [] 8 true, qg 17 (.bin .eql) [.t 16, qi 0] [] 8 true,
qo 18 .pick [.t 8, .t 17, qb false], qm 2 18] [2])
 (.ret))), [.tmp 2]⟩
def v_layout_layer_block : VFunc := ⟨30, .seq (.region [qo 2 .mv [qi 0]] [0])
 (.seq (.seq (.region [qm 5 0, qo 6 .nilCheck [.t 5], qo 7 (.fieldAddr 1) [.t 6], qo 8 (.load 1 false) [.t 7], qo 9 .len [.t 8], qo 10 (.bin .sub) [.t 9, qi 1], qm 3 10] [0, 3])
 (.block 0 (.loop (.seq (.seq (.region [qm 11 3, qo 12 (.bin .geq) [.t 11, qi 0]] [0, 3, 12])
 (.cond (.t 12)
 (.skip)
 (.exit 0)))
 (.seq (.block 1 (.seq (.region [qm 15 0, qo 16 .nilCheck [.t 15], qo 17 (.fieldAddr 1) [.t 16], qo 18 (.load 1 false) [.t 17], qm 19 3, qo 20 (.indexAddr 2) [.t 18, .t 19], qo 21 (.fieldAddr 0) [.t 20],
qo 22 (.load 1 false) [.t 21], qm 4 22] [0, 3, 4])
 (.seq (.region [qm 23 4, qo 24 (.bin .eql) [.t 23, qi 0], qm 25 24, qv 26 4 25 false, qg 27 (.bin .eql) [.t 26, qi 1] [] 25 false, qo 28 .pick [.t 25, qb true, .t 27]] [0, 3, 28])
 (.cond (.t 28)
 (.seq (.region [qm 29 3, qm 2 29] [2])
 (.ret))
 (.skip)))))
 (.region [qm 13 3, qo 14 (.bin .sub) [.t 13, qi 1], qm 3 14] [0, 3]))))))
 (.seq (.region [qo 2 .mv [qi (-1)]] [2])
 (.ret))), [.tmp 2]⟩
def v_layout_layer_find : VFunc := ⟨45, .seq (.region [qo 6 .mv [qi 0]] [0, 1, 2])
 (.scope (.seq (.region [qo 7 .mv [qi (-1)]] [0, 1, 2, 7])
 (.seq (.label)
 (.seq (.seq (.region [qm 12 0, qo 13 .nilCheck [.t 12], qo 14 (.fieldAddr 1) [.t 13], qo 15 (.load 1 false) [.t 14], qo 16 .len [.t 15], qo 17 (.bin .sub) [.t 16, qi 1], qm 8 17] [0, 1, 2, 7, 8])
 (.block 0 (.loop (.seq (.seq (.region [qm 18 8, qo 19 (.bin .geq) [.t 18, qi 0]] [0, 1, 2, 7, 8, 19])
 (.cond (.t 19)
 (.skip)
 (.exit 0)))
 (.seq (.block 1 (.seq (.region [qm 22 0, qo 23 .nilCheck [.t 22], qo 24 (.fieldAddr 1) [.t 23], qo 25 (.load 1 false) [.t 24], qm 26 8, qo 27 (.indexAddr 2) [.t 25, .t 26], qo 28 (.fieldAddr 0) [.t 27],
qo 29 (.load 1 false) [.t 28], qm 9 29] [0, 1, 2, 7, 8, 9])
 (.seq (.seq (.region [qm 30 9, qm 31 1, qo 32 (.bin .eql) [.t 30, .t 31]] [0, 1, 2, 7, 8, 9, 32])
 (.cond (.t 32)
 (.seq (.region [qm 33 8, qm 7 33] [7])
 (.exit 0))
 (.skip)))
 (.seq (.region [qm 34 2, qo 35 .len [.t 34], qo 36 .mv [qi 0]] [0, 1, 2, 7, 8, 9, 34, 35, 36])
 (.block 2 (.loop (.seq (.region [qo 37 (.bin .lss) [.t 36, .t 35]] [0, 1, 2, 7, 8, 9, 34, 35, 36, 37])
 (.seq (.cond (.t 37)
 (.skip)
 (.exit 2))
 (.seq (.block 3 (.seq (.region [qo 38 (.indexAddr 1) [.t 34, .t 36], qo 39 (.load 1 false) [.t 38], qm 11 39] [0, 1, 2, 7, 8, 9, 11, 34, 35, 36])
 (.seq (.region [qm 40 9, qm 41 11, qo 42 (.bin .eql) [.t 40, .t 41]] [0, 1, 2, 7, 8, 9, 34, 35, 36, 42])
 (.cond (.t 42)
 (.exit 0)
 (.skip)))))
 (.region [qo 43 (.bin .add) [.t 36, qi 1], qm 36 43] [0, 1, 2, 7, 8, 9, 34, 35, 36]))))))))))
 (.region [qm 20 8, qo 21 (.bin .sub) [.t 20, qi 1], qm 8 21] [0, 1, 2, 7, 8]))))))
 (.seq (.region [qm 44 7, qm 6 44] [6])
 (.ret)))))), [.tmp 6]⟩
def v_layout_layer_closeTo : VFunc := ⟨43, .block 0 (.loop (.seq (.seq (.region [qm 5 0, qo 6 .nilCheck [.t 5], qo 7 (.fieldAddr 1) [.t 6], qo 8 (.load 1 false) [.t 7], qo 9 .len [.t 8], qm 10 1, qo 11 (.bin .gtr) [.t 9, .t 10]] [0, 1, 11])
 (.cond (.t 11)
 (.skip)
 (.exit 0)))
 (.block 1 (.seq (.region [qm 12 0, qo 13 .nilCheck [.t 12], qo 14 (.fieldAddr 1) [.t 13], qo 15 (.load 1 false) [.t 14], qo 16 .len [.t 15], qo 17 (.bin .sub) [.t 16, qi 1], qm 4 17] [0, 1, 4])
 (.seq (.seq (.region [qm 18 4, qm 19 1, qo 20 (.bin .gtr) [.t 18, .t 19], qm 21 20, qv 22 0 21 true, qg 23 .nilCheck [.t 22] [] 21 true, qg 24 (.fieldAddr 1) [.t 23] [] 21 true,
qg 25 (.load 1 false) [.t 24] [] 21 true, qv 26 4 21 true, qg 27 (.indexAddr 2) [.t 25, .t 26] [] 21 true, qg 28 (.fieldAddr 0) [.t 27] [] 21 true, qg 29 (.load 1 false) [.t 28] [] 21 true,
qg 30 (.bin .eql) [.t 29, qi 0] [] 21 true, qo 31 .pick [.t 21, .t 30, qb false]] [0, 1, 4, 31])
 (.cond (.t 31)
 (.region [qm 32 0, qo 33 (.call .wr) [qf 86, .t 32, .c (.str [125])]] [0, 1, 4])
 (.skip)))
 (.region [qm 34 0, qm 35 0, qo 36 .nilCheck [.t 35], qo 37 (.fieldAddr 1) [.t 36], qo 38 (.load 1 false) [.t 37], qm 39 4, qo 40 (.slice false true 2) [.t 38, .t 39], qo 41 .nilCheck [.t 34],
qo 42 (.fieldAddr 1) [.t 41], qn (.store 1) [.t 42, .t 40] [40]] [0, 1])))))), []⟩
def v_parse_parser_atomic : VFunc := ⟨13, .seq (.region [qo 2 .mv [qb false]] [0])
 (.seq (.region [qm 3 0, qo 4 (.call .wr) [qf 66, .t 3, qi 2], qm 5 4, qv 6 0 5 false, qg 7 (.call .wr) [qf 66, .t 6, qi 1] [] 5 false, qo 8 .pick [.t 5, qb true, .t 7], qm 9 8, qv 10 0 9 false,
qg 11 (.call .wr) [qf 57, .t 10, .c (.str [40])] [] 9 false, qo 12 .pick [.t 9, qb true, .t 11], qm 2 12] [2])
 (.ret)), [.tmp 2]⟩
def v_parse_parser_atype : VFunc := ⟨30, .seq (.region [qo 2 (.alloc [.int .i64 0, .int .i64 0, .str [], .sl true 4 []]) []] [0, 2])
 (.seq (.block 0 (.seq (.region [qm 5 0, qo 6 (.call .wr) [qf 66, .t 5, qi 2], qm 4 6] [0, 2, 4])
 (.cond (.t 4)
 (.seq (.region [qm 7 0, qo 8 (.call .wr) [qf 58, .t 7], qo 9 (.field 1 1 false) [.t 8], qo 10 (.build [.int .i64 0, .int .i64 0, .str [], .sl true 4 []] [(0, 1), (2, 1)]) [qi 2, .t 9],
qn (.store 4) [.t 2, .t 10] [10]] [2])
 (.ret))
 (.seq (.region [qm 12 0, qo 13 (.call .wr) [qf 66, .t 12, qi 1], qm 11 13] [0, 2, 11])
 (.cond (.t 11)
 (.seq (.region [qm 14 0, qo 15 (.call .wr) [qf 58, .t 14], qo 16 (.field 1 1 false) [.t 15], qo 17 (.build [.int .i64 0, .int .i64 0, .str [], .sl true 4 []] [(0, 1), (2, 1)]) [qi 1, .t 16],
qn (.store 4) [.t 2, .t 17] [17]] [2])
 (.ret))
 (.skip))))))
 (.seq (.region [qm 18 0, qo 19 (.call .wr) [qf 29, .t 18, .c (.str [40])]] [0, 2])
 (.seq (.seq (.region [qm 20 0, qo 21 .nilCheck [.t 20], qo 22 (.fieldAddr 2) [.t 21], qo 23 (.load 1 false) [.t 22]] [0, 2, 23])
 (.cond (.t 23)
 (.seq (.region [qo 24 (.build [.int .i64 0, .int .i64 0, .str [], .sl true 4 []] []) [], qn (.store 4) [.t 2, .t 24] [24]] [2])
 (.ret))
 (.skip)))
 (.seq (.region [qm 25 0, qo 26 (.call .wr) [qf 130, .t 25], qo 3 (.alloc [.int .i64 0, .int .i64 0, .str [], .sl true 4 []]) [], qn (.store 4) [.t 3, .t 26] [26]] [0, 2, 3])
 (.seq (.region [qm 27 0, qo 28 (.call .wr) [qf 29, .t 27, .c (.str [41])]] [2, 3])
 (.seq (.region [qo 29 (.loadT 4 true) [.t 3], qn (.store 4) [.t 2, .t 29] [29]] [2])
 (.ret))))))), [.cell 2 4 true]⟩
def v_parse_parser_plain : VFunc := ⟨17, .seq (.region [qo 2 .mv [qi 0], qo 3 (.alloc [.int .i64 0, .int .i64 0]) []] [0, 3])
 (.seq (.seq (.region [qm 5 0, qo 6 (.call .wr) [qf 87, .t 5], qo 7 (.field 2 1 false) [.t 6], qo 8 (.bin .lss) [.t 7, qi 0]] [0, 3, 8])
 (.cond (.t 8)
 (.region [qm 9 0, qo 10 (.call .wr) [qf 59, .t 9, qi 11]] [0, 3])
 (.skip)))
 (.seq (.region [qm 11 0, qo 12 (.call .wr) [qf 58, .t 11], qo 4 (.alloc [.int .i64 0, .str [], .int .i64 0, .int .i64 0, .int .i64 0, .bool false]) [], qn (.store 6) [.t 4, .t 12] []] [3, 4])
 (.seq (.region [qo 13 (.fieldAddr 2) [.t 4], qo 14 (.load 1 false) [.t 13], qo 15 (.fieldAddr 3) [.t 4], qo 16 (.load 2 true) [.t 15], qm 2 14, qn (.store 2) [.t 3, .t 16] []] [2, 3])
 (.ret)))), [.tmp 2, .cell 3 2 true]⟩
def v_parse_parser_ahead : VFunc := ⟨66, .seq (.region [qo 6 .mv [qb false]] [0, 1, 2])
 (.seq (.seq (.region [qm 9 0, qo 10 (.call .wr) [qf 57, .t 9, .c (.str [40])], qo 11 .not [.t 10], qm 12 11, qv 13 0 12 false, qg 14 .nilCheck [.t 13] [] 12 false, qg 15 (.fieldAddr 1) [.t 14] [] 12 false,
qg 16 (.load 1 false) [.t 15] [] 12 false, qg 17 (.bin .add) [.t 16, qi 2] [] 12 false, qv 18 0 12 false, qg 19 .nilCheck [.t 18] [] 12 false, qg 20 (.fieldAddr 0) [.t 19] [] 12 false,
qg 21 (.load 1 false) [.t 20] [] 12 false, qg 22 .len [.t 21] [] 12 false, qg 23 (.bin .geq) [.t 17, .t 22] [] 12 false, qo 24 .pick [.t 12, qb true, .t 23]] [0, 1, 2, 24])
 (.cond (.t 24)
 (.seq (.region [qo 6 .mv [qb false]] [6])
 (.ret))
 (.skip)))
 (.seq (.regionD [7, 8] [qm 25 0, qo 26 .nilCheck [.t 25], qo 27 (.fieldAddr 0) [.t 26], qo 28 (.load 1 false) [.t 27], qm 29 0, qo 30 .nilCheck [.t 29], qo 31 (.fieldAddr 1) [.t 30], qo 32 (.load 1 false) [.t 31],
qo 33 (.bin .add) [.t 32, qi 1], qo 34 (.indexAddr 6) [.t 28, .t 33], qo 35 (.load 6 true) [.t 34], qm 36 0, qo 37 .nilCheck [.t 36], qo 38 (.fieldAddr 0) [.t 37],
qo 39 (.load 1 false) [.t 38], qm 40 0, qo 41 .nilCheck [.t 40], qo 42 (.fieldAddr 1) [.t 41], qo 43 (.load 1 false) [.t 42], qo 44 (.bin .add) [.t 43, qi 2],
qo 45 (.indexAddr 6) [.t 39, .t 44], qo 46 (.loadC 6 true) [.t 45], qo 7 (.allocR 7 [.int .i64 0, .str [], .int .i64 0, .int .i64 0, .int .i64 0, .bool false]) [],
qo 8 (.allocR 8 [.int .i64 0, .str [], .int .i64 0, .int .i64 0, .int .i64 0, .bool false]) [], qn (.storeP 6) [.t 7, .t 35] [], qn (.storeP 6) [.t 8, .t 46] []] [(27, 7), (31, 7), (34, 7), (38, 7), (42, 7), (27, 8), (31, 8), (34, 8), (38, 8), (42, 8), (7, 8)] [1, 2, 7, 8])
 (.seq (.region [qo 47 (.fieldAddr 0) [.t 7], qo 48 (.load 1 false) [.t 47], qo 49 (.bin .eql) [.t 48, qi 3], qm 50 49, qv 51 1 50 true, qg 52 (.bin .eql) [.t 51, .c (.str [])] [] 50 true, qv 53 52 50 true,
qg 54 (.fieldAddr 1) [.t 7] [] 53 false, qg 55 (.load 1 false) [.t 54] [] 53 false, qv 56 1 53 false, qg 57 (.bin .eql) [.t 55, .t 56] [] 53 false,
qg 58 .pick [.t 53, qb true, .t 57] [] 50 true, qo 59 .pick [.t 50, .t 58, qb false], qm 60 59, qg 61 (.fieldAddr 0) [.t 8] [] 60 true, qg 62 (.load 1 false) [.t 61] [] 60 true,
qv 63 2 60 true, qg 64 (.bin .eql) [.t 62, .t 63] [] 60 true, qo 65 .pick [.t 60, .t 64, qb false], qm 6 65] [6])
 (.ret)))), [.tmp 6]⟩
def v_parse_parser_number : VFunc := ⟨18, .seq (.region [qo 2 .mv [qi 0], qo 3 (.alloc [.int .i64 0, .int .i64 0]) []] [0, 3])
 (.seq (.region [qm 5 0, qo 6 (.call .wr) [qf 58, .t 5]] [0, 3])
 (.seq (.region [qm 7 0, qo 8 (.call .wr) [qf 58, .t 7]] [0, 3])
 (.seq (.region [qm 9 0, qo 10 (.call .wr) [qf 58, .t 9], qo 4 (.alloc [.int .i64 0, .str [], .int .i64 0, .int .i64 0, .int .i64 0, .bool false]) [], qn (.store 6) [.t 4, .t 10] []] [0, 3, 4])
 (.seq (.region [qm 11 0, qo 12 (.call .wr) [qf 29, .t 11, .c (.str [41])]] [3, 4])
 (.seq (.region [qo 13 (.fieldAddr 2) [.t 4], qo 14 (.load 1 false) [.t 13], qo 15 .neg [.t 14], qo 16 (.fieldAddr 3) [.t 4], qo 17 (.load 2 true) [.t 16], qm 2 15, qn (.store 2) [.t 3, .t 17] []] [2, 3])
 (.ret)))))), [.tmp 2, .cell 3 2 true]⟩
def v_parse_parser_minus : VFunc := ⟨10, .seq (.seq (.region [qm 2 0, qo 3 (.call .wr) [qf 87, .t 2], qo 4 (.field 1 1 false) [.t 3], qo 5 (.bin .eql) [.t 4, .c (.str [45])]] [0, 5])
 (.cond (.t 5)
 (.region [qm 6 0, qo 7 (.call .wr) [qf 58, .t 6]] [0])
 (.skip)))
 (.region [qm 8 0, qo 9 (.call .wr) [qf 59, .t 8, qi 60]] []), []⟩
def v_parse_parser_pat : VFunc := ⟨32, .seq (.region [qo 2 (.alloc [.int .i64 0, .str [], .int .i64 0, .sl true 6 [], .int .i64 0, .int .i64 0]) []] [0, 2])
 (.seq (.seq (.region [qm 5 0, qo 6 (.call .wr) [qf 66, .t 5, qi 2], qo 7 .not [.t 6]] [0, 2, 7])
 (.cond (.t 7)
 (.seq (.seq (.region [qm 8 0, qo 9 (.call .wr) [qf 90, .t 8], qo 10 .not [.t 9]] [0, 2, 10])
 (.cond (.t 10)
 (.region [qm 11 0, qo 12 (.call .wr) [qf 59, .t 11, qi 60]] [0, 2])
 (.skip)))
 (.seq (.region [qm 13 0, qo 14 (.call .wr) [qf 91, .t 13], qn (.store 6) [.t 2, .t 14] [14]] [2])
 (.ret)))
 (.skip)))
 (.seq (.region [qm 15 0, qo 16 (.call .wr) [qf 58, .t 15], qo 3 (.alloc [.int .i64 0, .str [], .int .i64 0, .int .i64 0, .int .i64 0, .bool false]) [], qn (.store 6) [.t 3, .t 16] []] [0, 2, 3])
 (.seq (.region [qo 17 (.fieldAddr 1) [.t 3], qo 18 (.load 1 false) [.t 17], qo 19 (.fieldAddr 3) [.t 3], qo 20 (.load 2 true) [.t 19],
qo 21 (.build [.int .i64 0, .str [], .int .i64 0, .sl true 6 [], .int .i64 0, .int .i64 0] [(0, 1), (1, 1), (4, 2)]) [qi 4, .t 18, .t 20],
qo 4 (.alloc [.int .i64 0, .str [], .int .i64 0, .sl true 6 [], .int .i64 0, .int .i64 0]) [], qn (.store 6) [.t 4, .t 21] [21]] [0, 2, 4])
 (.seq (.block 0 (.loop (.seq (.seq (.region [qm 22 0, qo 23 (.call .wr) [qf 90, .t 22]] [0, 2, 4, 23])
 (.cond (.t 23)
 (.skip)
 (.exit 0)))
 (.block 1 (.region [qo 24 (.fieldAddr 3) [.t 4], qo 25 (.loadTL 2 1 false) [.t 24], qm 26 0, qo 27 (.call (.fr 2)) [qf 91, .t 26], qt 28 (.buildSl 6) [.t 27] [27], qt 29 (.append 6 72) [.t 25, .t 28] [25],
qo 30 (.fieldAddr 3) [.t 4], qn (.store 1) [.t 30, .t 29] [29]] [0, 2, 4])))))
 (.seq (.region [qo 31 (.loadT 6 true) [.t 4], qn (.store 6) [.t 2, .t 31] [31]] [2])
 (.ret)))))), [.cell 2 6 true]⟩
def v_parse_parser_operator : VFunc := ⟨33, .seq (.region [qo 2 .mv [qb false]] [0])
 (.seq (.region [qm 3 0, qo 4 (.call .wr) [qf 57, .t 3, .c (.str [40])], qm 5 4, qv 6 0 5 true, qg 7 .nilCheck [.t 6] [] 5 true, qg 8 (.fieldAddr 1) [.t 7] [] 5 true, qg 9 (.load 1 false) [.t 8] [] 5 true,
qg 10 (.bin .add) [.t 9, qi 1] [] 5 true, qv 11 0 5 true, qg 12 .nilCheck [.t 11] [] 5 true, qg 13 (.fieldAddr 0) [.t 12] [] 5 true, qg 14 (.load 1 false) [.t 13] [] 5 true,
qg 15 .len [.t 14] [] 5 true, qg 16 (.bin .lss) [.t 10, .t 15] [] 5 true, qo 17 .pick [.t 5, .t 16, qb false], qm 18 17, qv 19 0 18 true, qg 20 .nilCheck [.t 19] [] 18 true,
qg 21 (.fieldAddr 0) [.t 20] [] 18 true, qg 22 (.load 1 false) [.t 21] [] 18 true, qv 23 0 18 true, qg 24 .nilCheck [.t 23] [] 18 true, qg 25 (.fieldAddr 1) [.t 24] [] 18 true,
qg 26 (.load 1 false) [.t 25] [] 18 true, qg 27 (.bin .add) [.t 26, qi 1] [] 18 true, qg 28 (.indexAddr 6) [.t 22, .t 27] [] 18 true, qg 29 (.fieldAddr 0) [.t 28] [] 18 true,
qg 30 (.load 1 false) [.t 29] [] 18 true, qg 31 (.bin .eql) [.t 30, qi 3] [] 18 true, qo 32 .pick [.t 18, .t 31, qb false], qm 2 32] [2])
 (.ret)), [.tmp 2]⟩
def v_fix_Find : VFunc := ⟨21, .seq (.region [qo 4 (.alloc [.str [], .int .i64 0, .int .i64 0, .int .i64 0, .int .i64 0]) []] [0, 1, 4])
 (.seq (.seq (.region [qt 7 .mv [.t 0] [0], qo 8 .len [.t 7], qo 9 .mv [qi 0]] [1, 4, 7, 8, 9])
 (.block 0 (.loop (.seq (.region [qo 10 (.bin .lss) [.t 9, .t 8]] [1, 4, 7, 8, 9, 10])
 (.seq (.cond (.t 10)
 (.skip)
 (.exit 0))
 (.seq (.block 1 (.seq (.region [qo 11 (.indexAddr 5) [.t 7, .t 9], qo 12 (.load 5 true) [.t 11], qo 6 (.alloc [.str [], .int .i64 0, .int .i64 0, .int .i64 0, .int .i64 0]) [], qn (.store 5) [.t 6, .t 12] []] [1, 4, 6, 7, 8, 9])
 (.seq (.region [qo 13 (.fieldAddr 0) [.t 6], qo 14 (.load 1 false) [.t 13], qm 15 1, qo 16 (.bin .eql) [.t 14, .t 15]] [1, 4, 6, 7, 8, 9, 16])
 (.cond (.t 16)
 (.seq (.region [qo 17 (.load 5 true) [.t 6], qn (.store 5) [.t 4, .t 17] []] [4])
 (.ret))
 (.skip)))))
 (.region [qo 18 (.bin .add) [.t 9, qi 1], qm 9 18] [1, 4, 7, 8, 9])))))))
 (.seq (.region [qm 19 1, qo 20 (.call .wr) [qf 131, .t 19], qn (.store 5) [.t 4, .t 20] []] [4])
 (.ret))), [.cell 4 5 true]⟩
def v_fix_Resolve : VFunc := ⟨55, .seq (.region [qo 2 .mv [.c (.nilh 2)], qo 3 .mv [qi 0], qo 4 .mv [qi 0]] [0])
 (.seq (.seq (.region [qm 9 0, qo 10 .len [.t 9], qo 11 (.bin .gtr) [.t 10, qi 1024]] [0, 11])
 (.cond (.t 11)
 (.seq (.region [qo 2 .mv [.c (.nilh 2)], qo 3 .mv [qi 0], qo 4 .mv [qi 2]] [2, 3, 4])
 (.ret))
 (.skip)))
 (.seq (.seq (.region [qm 12 0, qo 13 .len [.t 12], qo 14 .mv [qi 0]] [0, 12, 13, 14])
 (.block 0 (.loop (.seq (.region [qo 15 (.bin .lss) [.t 14, .t 13]] [0, 12, 13, 14, 15])
 (.seq (.cond (.t 15)
 (.skip)
 (.exit 0))
 (.seq (.block 1 (.seq (.region [qm 16 14, qo 17 (.indexAddr 5) [.t 12, .t 14], qo 18 (.load 5 true) [.t 17], qo 6 (.alloc [.str [], .int .i64 0, .int .i64 0, .int .i64 0, .int .i64 0]) [], qm 5 16,
qn (.store 5) [.t 6, .t 18] []] [0, 5, 6, 12, 13, 14])
 (.seq (.region [qo 19 (.load 5 true) [.t 6], qo 20 (.call .wr) [qf 132, .t 19], qo 21 .not [.t 20]] [0, 5, 12, 13, 14, 21])
 (.cond (.t 21)
 (.seq (.region [qm 22 5, qo 2 .mv [.c (.nilh 2)], qm 3 22, qo 4 .mv [qi 1]] [2, 3, 4])
 (.ret))
 (.skip)))))
 (.region [qo 23 (.bin .add) [.t 14, qi 1], qm 14 23] [0, 12, 13, 14])))))))
 (.seq (.region [qm 24 0, qo 25 (.build [.int .i64 0, .int .i64 0] []) [], qo 26 (.buildFr 2) [.t 25], qm 27 0, qo 28 .len [.t 27], qo 29 (.makeH 2 16 [.int .i64 0, .int .i64 0]) [.t 28, .t 28],
qt 30 (.build [.sl true 5 [], .nilh 1, .nilh 2, .nilh 2] [(0, 1), (2, 1), (3, 1)]) [.t 24, .t 26, .t 29] [24, 26, 29], qt 31 .box [.t 30] [30], qm 7 31] [0, 7])
 (.seq (.seq (.region [qt 32 .mv [.t 0] [0], qo 33 .len [.t 32], qo 34 .mv [qi 0]] [7, 33, 34])
 (.block 2 (.loop (.seq (.region [qo 35 (.bin .lss) [.t 34, .t 33]] [7, 33, 34, 35])
 (.seq (.cond (.t 35)
 (.skip)
 (.exit 2))
 (.seq (.block 3 (.seq (.region [qm 36 34, qm 8 36] [7, 8, 33, 34])
 (.seq (.region [qm 37 7, qm 38 8, qo 39 (.call .wr) [qf 133, .t 37, .t 38], qo 40 .not [.t 39]] [7, 8, 33, 34, 40])
 (.cond (.t 40)
 (.seq (.region [qm 41 8, qo 2 .mv [.c (.nilh 2)], qm 3 41, qo 4 .mv [qi 50]] [2, 3, 4])
 (.ret))
 (.skip)))))
 (.region [qo 42 (.bin .add) [.t 34, qi 1], qm 34 42] [7, 33, 34])))))))
 (.seq (.block 4 (.loop (.seq (.seq (.region [qm 43 7, qo 44 .nilCheck [.t 43], qo 45 (.fieldAddr 1) [.t 44], qo 46 (.load 1 false) [.t 45], qo 47 .len [.t 46], qo 48 (.bin .gtr) [.t 47, qi 0]] [7, 48])
 (.cond (.t 48)
 (.skip)
 (.exit 4)))
 (.block 5 (.region [qm 49 7, qo 50 (.call .wr) [qf 134, .t 49]] [7])))))
 (.seq (.region [qm 51 7, qo 52 .nilCheck [.t 51], qo 53 (.fieldAddr 3) [.t 52], qo 54 (.load 1 false) [.t 53], qt 2 .mv [.t 54] [54], qo 3 .mv [qi 0], qo 4 .mv [qi 0]] [2, 3, 4])
 (.ret))))))), [.tmp 2, .tmp 3, .tmp 4]⟩
def v_lex_Word : VFunc := ⟨16, .seq (.region [qo 2 .mv [qb false]] [0])
 (.seq (.seq (.region [qm 3 0] [3])
 (.block 0 (.seq (.seq (.region [qo 5 (.bin .eql) [.t 3, .c (.str [100, 97, 116, 97])], qm 4 5] [3, 4])
 (.cond (.t 4)
 (.skip)
 (.seq (.region [qo 6 (.bin .eql) [.t 3, .c (.str [105, 110, 102, 105, 120, 108])], qm 4 6] [3, 4])
 (.cond (.t 4)
 (.skip)
 (.seq (.region [qo 7 (.bin .eql) [.t 3, .c (.str [105, 110, 102, 105, 120, 114])], qm 4 7] [3, 4])
 (.cond (.t 4)
 (.skip)
 (.seq (.region [qo 8 (.bin .eql) [.t 3, .c (.str [105, 110, 102, 105, 120])], qm 4 8] [3, 4])
 (.cond (.t 4)
 (.skip)
 (.seq (.region [qo 9 (.bin .eql) [.t 3, .c (.str [108, 101, 116])], qm 4 9] [3, 4])
 (.cond (.t 4)
 (.skip)
 (.seq (.region [qo 10 (.bin .eql) [.t 3, .c (.str [105, 110])], qm 4 10] [3, 4])
 (.cond (.t 4)
 (.skip)
 (.seq (.region [qo 11 (.bin .eql) [.t 3, .c (.str [99, 97, 115, 101])], qm 4 11] [3, 4])
 (.cond (.t 4)
 (.skip)
 (.seq (.region [qo 12 (.bin .eql) [.t 3, .c (.str [111, 102])], qm 4 12] [3, 4])
 (.cond (.t 4)
 (.skip)
 (.seq (.region [qo 13 (.bin .eql) [.t 3, .c (.str [105, 102])], qm 4 13] [3, 4])
 (.cond (.t 4)
 (.skip)
 (.seq (.region [qo 14 (.bin .eql) [.t 3, .c (.str [116, 104, 101, 110])], qm 4 14] [3, 4])
 (.cond (.t 4)
 (.skip)
 (.region [qo 15 (.bin .eql) [.t 3, .c (.str [101, 108, 115, 101])], qm 4 15] [4])))))))))))))))))))))
 (.cond (.t 4)
 (.seq (.region [qo 2 .mv [qb true]] [2])
 (.ret))
 (.skip)))))
 (.seq (.region [qo 2 .mv [qb false]] [2])
 (.ret))), [.tmp 2]⟩
def v_num_Parse : VFunc := ⟨79, .seq (.region [qo 2 .mv [qi 0], qo 3 .mv [qi 0]] [0])
 (.scope (.seq (.region [qm 10 0, qm 4 10] [0, 4])
 (.seq (.region [qm 11 0, qo 12 .lenStr [.t 11], qo 13 (.bin .gtr) [.t 12, qi 0], qm 14 13, qv 15 0 14 true, qg 16 .indexStr [.t 15, qi 0] [] 14 true, qg 17 (.bin .eql) [.t 16, .c (.int .u8 45)] [] 14 true,
qo 18 .pick [.t 14, .t 17, qb false], qm 5 18] [0, 4, 5])
 (.seq (.seq (.region [qm 19 5] [0, 4, 5, 19])
 (.cond (.t 19)
 (.region [qm 20 0, qo 21 (.sliceStr true false) [.t 20, qi 1], qm 4 21] [0, 4, 5])
 (.skip)))
 (.seq (.seq (.region [qm 22 4, qo 23 (.bin .eql) [.t 22, .c (.str [])], qm 24 23, qv 25 4 24 false, qg 26 .lenStr [.t 25] [] 24 false, qg 27 (.bin .gtr) [.t 26, qi 19] [] 24 false,
qo 28 .pick [.t 24, qb true, .t 27], qm 29 28, qv 30 4 29 false, qg 31 .indexStr [.t 30, qi 0] [] 29 false, qg 32 (.bin .eql) [.t 31, .c (.int .u8 48)] [] 29 false, qv 33 32 29 false,
qv 34 0 33 true, qg 35 .lenStr [.t 34] [] 33 true, qg 36 (.bin .gtr) [.t 35, qi 1] [] 33 true, qg 37 .pick [.t 33, .t 36, qb false] [] 29 false, qo 38 .pick [.t 29, qb true, .t 37]] [4, 5, 38])
 (.cond (.t 38)
 (.seq (.region [qo 2 .mv [qi 0], qo 3 .mv [qi 11]] [2, 3])
 (.ret))
 (.skip)))
 (.seq (.region [qo 6 .mv [.c (.int .u64 0)]] [4, 5, 6])
 (.seq (.region [qo 7 .mv [qb true]] [4, 5, 6, 7])
 (.seq (.label)
 (.seq (.seq (.region [qo 8 .mv [qi 0]] [4, 5, 6, 7, 8])
 (.block 0 (.loop (.seq (.seq (.region [qm 39 8, qm 40 4, qo 41 .lenStr [.t 40], qo 42 (.bin .lss) [.t 39, .t 41]] [4, 5, 6, 7, 8, 42])
 (.cond (.t 42)
 (.skip)
 (.exit 0)))
 (.seq (.block 1 (.seq (.region [qm 45 4, qm 46 8, qo 47 .indexStr [.t 45, .t 46], qm 9 47] [4, 5, 6, 7, 8, 9])
 (.seq (.seq (.region [qm 48 9, qo 49 (.bin .lss) [.t 48, .c (.int .u8 48)], qm 50 49, qv 51 9 50 false, qg 52 (.bin .gtr) [.t 51, .c (.int .u8 57)] [] 50 false, qo 53 .pick [.t 50, qb true, .t 52]] [4, 5, 6, 7, 8, 9, 53])
 (.cond (.t 53)
 (.seq (.region [qo 7 .mv [qb false]] [5, 6, 7])
 (.exit 0))
 (.skip)))
 (.region [qm 54 6, qo 55 (.bin .mul) [.t 54, .c (.int .u64 10)], qm 56 9, qo 57 (.bin .sub) [.t 56, .c (.int .u8 48)], qo 58 (.conv .u64) [.t 57], qo 59 (.bin .add) [.t 55, .t 58], qm 6 59] [4, 5, 6, 7, 8]))))
 (.region [qm 43 8, qo 44 (.bin .add) [.t 43, qi 1], qm 8 44] [4, 5, 6, 7, 8]))))))
 (.seq (.seq (.region [qm 60 7, qo 61 .not [.t 60], qm 62 61, qv 63 6 62 false, qg 64 (.bin .gtr) [.t 63, .c (.int .u64 9223372036854775808)] [] 62 false, qo 65 .pick [.t 62, qb true, .t 64], qm 66 65,
qv 67 6 66 false, qg 68 (.bin .eql) [.t 67, .c (.int .u64 9223372036854775808)] [] 66 false, qv 69 68 66 false, qv 70 5 69 true, qg 71 .not [.t 70] [] 69 true,
qg 72 .pick [.t 69, .t 71, qb false] [] 66 false, qo 73 .pick [.t 66, qb true, .t 72]] [5, 6, 73])
 (.cond (.t 73)
 (.seq (.region [qo 2 .mv [qi 0], qo 3 .mv [qi 11]] [2, 3])
 (.ret))
 (.skip)))
 (.seq (.seq (.region [qm 74 5] [6, 74])
 (.cond (.t 74)
 (.region [qm 75 6, qo 76 .neg [.t 75], qm 6 76] [6])
 (.skip)))
 (.seq (.region [qm 77 6, qo 78 (.conv .i64) [.t 77], qm 2 78, qo 3 .mv [qi 0]] [2, 3])
 (.ret))))))))))))), [.tmp 2, .tmp 3]⟩
def v_parse_parser_typ : VFunc := ⟨34, .seq (.region [qo 2 (.alloc [.int .i64 0, .int .i64 0, .str [], .sl true 4 []]) []] [0, 2])
 (.seq (.region [qo 5 (.build [.int .i64 0, .int .i64 0, .str [], .sl true 4 []] []) [], qo 3 (.alloc [.int .i64 0, .int .i64 0, .str [], .sl true 4 []]) [], qn (.store 4) [.t 3, .t 5] [5]] [0, 2, 3])
 (.seq (.seq (.region [qm 6 0, qo 7 (.call .wr) [qf 66, .t 6, qi 2]] [0, 2, 3, 7])
 (.cond (.t 7)
 (.seq (.region [qm 8 0, qo 9 (.call .wr) [qf 58, .t 8], qo 10 (.field 1 1 false) [.t 9], qo 11 (.build [.int .i64 0, .int .i64 0, .str [], .sl true 4 []] [(0, 1), (2, 1)]) [qi 2, .t 10],
qn (.store 4) [.t 3, .t 11] [11]] [0, 2, 3])
 (.block 0 (.loop (.seq (.seq (.region [qm 12 0, qo 13 (.call .wr) [qf 116, .t 12]] [0, 2, 3, 13])
 (.cond (.t 13)
 (.skip)
 (.exit 0)))
 (.block 1 (.region [qo 14 (.fieldAddr 3) [.t 3], qo 15 (.loadTL 2 1 false) [.t 14], qm 16 0, qo 17 (.call (.fr 2)) [qf 117, .t 16], qt 18 (.buildSl 4) [.t 17] [17], qt 19 (.append 4 56) [.t 15, .t 18] [15],
qo 20 (.fieldAddr 3) [.t 3], qn (.store 1) [.t 20, .t 19] [19]] [0, 2, 3]))))))
 (.region [qm 21 0, qo 22 (.call .wr) [qf 117, .t 21], qn (.store 4) [.t 3, .t 22] [22]] [0, 2, 3])))
 (.seq (.seq (.region [qm 23 0, qo 24 (.call .wr) [qf 57, .t 23, .c (.str [45, 62])]] [0, 2, 3, 24])
 (.cond (.t 24)
 (.seq (.region [qm 25 0, qo 26 (.call .wr) [qf 58, .t 25]] [0, 2, 3])
 (.seq (.region [qm 27 0, qo 28 (.call .wr) [qf 130, .t 27], qo 4 (.alloc [.int .i64 0, .int .i64 0, .str [], .sl true 4 []]) [], qn (.store 4) [.t 4, .t 28] [28]] [2, 3, 4])
 (.seq (.region [qo 29 (.loadT 4 true) [.t 3], qo 30 (.loadT 4 true) [.t 4], qt 31 (.buildSl 4) [.t 29, .t 30] [29, 30],
qt 32 (.build [.int .i64 0, .int .i64 0, .str [], .sl true 4 []] [(0, 1), (3, 1)]) [qi 3, .t 31] [31], qn (.store 4) [.t 2, .t 32] [32]] [2])
 (.ret))))
 (.skip)))
 (.seq (.region [qo 33 (.loadT 4 true) [.t 3], qn (.store 4) [.t 2, .t 33] [33]] [2])
 (.ret))))), [.cell 2 4 true]⟩
def v_fix_Default : VFunc := ⟨27, .seq (.region [qo 2 (.alloc [.str [], .int .i64 0, .int .i64 0, .int .i64 0, .int .i64 0]) []] [0, 2])
 (.seq (.region [qm 5 0, qo 6 (.build [.str [], .int .i64 0, .int .i64 0, .int .i64 0, .int .i64 0] [(0, 1), (1, 1), (2, 1)]) [.t 5, qi 1, qi 9],
qo 3 (.alloc [.str [], .int .i64 0, .int .i64 0, .int .i64 0, .int .i64 0]) [], qn (.store 5) [.t 3, .t 6] []] [0, 2, 3])
 (.seq (.seq (.region [qm 7 0, qo 8 (.call .wr) [qf 135, .t 7], qm 4 8] [0, 2, 3, 4])
 (.block 0 (.seq (.region [qm 10 4, qo 11 (.call .wr) [qf 136, .t 10], qm 9 11] [0, 2, 3, 4, 9])
 (.cond (.t 9)
 (.region [qo 12 (.fieldAddr 1) [.t 3], qn (.store 1) [.t 12, qi 0] [], qo 13 (.fieldAddr 2) [.t 3], qn (.store 1) [.t 13, qi 4] []] [2, 3])
 (.seq (.region [qm 15 0, qo 16 (.bin .eql) [.t 15, .c (.str [43])], qm 17 16, qv 18 0 17 false, qg 19 (.bin .eql) [.t 18, .c (.str [45])] [] 17 false, qo 20 .pick [.t 17, qb true, .t 19], qm 14 20] [2, 3, 4, 14])
 (.cond (.t 14)
 (.region [qo 21 (.fieldAddr 2) [.t 3], qn (.store 1) [.t 21, qi 6] []] [2, 3])
 (.seq (.region [qm 23 4, qo 24 (.bin .gtr) [.t 23, qi 0], qm 22 24] [2, 3, 22])
 (.cond (.t 22)
 (.region [qo 25 (.fieldAddr 2) [.t 3], qn (.store 1) [.t 25, qi 7] []] [2, 3])
 (.skip)))))))))
 (.seq (.region [qo 26 (.load 5 true) [.t 3], qn (.store 5) [.t 2, .t 26] []] [2])
 (.ret)))), [.cell 2 5 true]⟩
def v_fix_right : VFunc := ⟨21, .seq (.region [qo 1 .box [.t 0], qo 2 .mv [qb false]] [1])
 (.seq (.region [qo 3 (.fieldAddr 1) [.t 1], qo 4 (.load 1 false) [.t 3], qo 5 (.bin .geq) [.t 4, qi 0], qm 6 5, qg 7 (.fieldAddr 1) [.t 1] [] 6 true, qg 8 (.load 1 false) [.t 7] [] 6 true,
qg 9 (.bin .leq) [.t 8, qi 2] [] 6 true, qo 10 .pick [.t 6, .t 9, qb false], qm 11 10, qg 12 (.fieldAddr 2) [.t 1] [] 11 true, qg 13 (.load 1 false) [.t 12] [] 11 true,
qg 14 (.bin .geq) [.t 13, qi 0] [] 11 true, qo 15 .pick [.t 11, .t 14, qb false], qm 16 15, qg 17 (.fieldAddr 2) [.t 1] [] 16 true, qg 18 (.load 1 false) [.t 17] [] 16 true,
qg 19 (.bin .leq) [.t 18, qi 9] [] 16 true, qo 20 .pick [.t 16, .t 19, qb false], qm 2 20] [2])
 (.ret)), [.tmp 2]⟩
def v_fix_grouping_takes : VFunc := ⟨96, .seq (.region [qo 4 .mv [qb false]] [0, 1])
 (.scope (.seq (.region [qm 7 0, qo 8 .nilCheck [.t 7], qo 9 (.fieldAddr 0) [.t 8], qo 10 (.load 1 false) [.t 9], qm 11 1, qo 12 (.indexAddr 5) [.t 10, .t 11], qo 13 (.load 5 true) [.t 12],
qo 5 (.alloc [.str [], .int .i64 0, .int .i64 0, .int .i64 0, .int .i64 0]) [], qn (.store 5) [.t 5, .t 13] []] [0, 1, 5])
 (.seq (.label)
 (.seq (.block 0 (.loop (.seq (.seq (.region [qm 14 0, qo 15 .nilCheck [.t 14], qo 16 (.fieldAddr 1) [.t 15], qo 17 (.load 1 false) [.t 16], qo 18 .len [.t 17], qo 19 (.bin .gtr) [.t 18, qi 0]] [0, 1, 5, 19])
 (.cond (.t 19)
 (.skip)
 (.exit 0)))
 (.block 1 (.seq (.region [qm 20 0, qo 21 .nilCheck [.t 20], qo 22 (.fieldAddr 0) [.t 21], qo 23 (.load 1 false) [.t 22], qm 24 0, qo 25 .nilCheck [.t 24], qo 26 (.fieldAddr 1) [.t 25], qo 27 (.load 1 false) [.t 26],
qm 28 0, qo 29 .nilCheck [.t 28], qo 30 (.fieldAddr 1) [.t 29], qo 31 (.load 1 false) [.t 30], qo 32 .len [.t 31], qo 33 (.bin .sub) [.t 32, qi 1], qo 34 (.indexAddr 1) [.t 27, .t 33],
qo 35 (.load 1 false) [.t 34], qo 36 (.indexAddr 5) [.t 23, .t 35], qo 37 (.load 5 true) [.t 36], qo 6 (.alloc [.str [], .int .i64 0, .int .i64 0, .int .i64 0, .int .i64 0]) [],
qn (.store 5) [.t 6, .t 37] []] [0, 1, 5, 6])
 (.block 2 (.seq (.region [qo 39 (.fieldAddr 2) [.t 6], qo 40 (.load 1 false) [.t 39], qo 41 (.fieldAddr 2) [.t 5], qo 42 (.load 1 false) [.t 41], qo 43 (.bin .gtr) [.t 40, .t 42], qm 38 43] [0, 1, 5, 6, 38])
 (.cond (.t 38)
 (.region [qm 44 0, qo 45 (.call .wr) [qf 134, .t 44]] [0, 1, 5])
 (.seq (.region [qo 47 (.fieldAddr 2) [.t 6], qo 48 (.load 1 false) [.t 47], qo 49 (.fieldAddr 2) [.t 5], qo 50 (.load 1 false) [.t 49], qo 51 (.bin .lss) [.t 48, .t 50], qm 46 51] [0, 1, 5, 6, 46])
 (.cond (.t 46)
 (.exit 0)
 (.seq (.region [qo 53 (.fieldAddr 1) [.t 6], qo 54 (.load 1 false) [.t 53], qo 55 (.bin .eql) [.t 54, qi 1], qm 56 55, qg 57 (.fieldAddr 1) [.t 5] [] 56 true, qg 58 (.load 1 false) [.t 57] [] 56 true,
qg 59 (.bin .eql) [.t 58, qi 1] [] 56 true, qo 60 .pick [.t 56, .t 59, qb false], qm 52 60] [0, 1, 5, 6, 52])
 (.cond (.t 52)
 (.region [qm 61 0, qo 62 (.call .wr) [qf 134, .t 61]] [0, 1, 5])
 (.seq (.region [qo 64 (.fieldAddr 1) [.t 6], qo 65 (.load 1 false) [.t 64], qo 66 (.bin .eql) [.t 65, qi 2], qm 67 66, qg 68 (.fieldAddr 1) [.t 5] [] 67 true, qg 69 (.load 1 false) [.t 68] [] 67 true,
qg 70 (.bin .eql) [.t 69, qi 2] [] 67 true, qo 71 .pick [.t 67, .t 70, qb false], qm 63 71] [0, 1, 63])
 (.cond (.t 63)
 (.exit 0)
 (.seq (.region [qo 4 .mv [qb false]] [4])
 (.ret))))))))))))))))
 (.seq (.region [qm 72 0, qm 73 0, qo 74 .nilCheck [.t 73], qo 75 (.fieldAddr 1) [.t 74], qo 76 (.load 1 false) [.t 75], qm 77 1, qo 78 (.buildSl 1) [.t 77], qo 79 (.appendH 1 8) [.t 76, .t 78],
qo 80 .nilCheck [.t 72], qo 81 (.fieldAddr 1) [.t 80], qn (.store 1) [.t 81, .t 79] [79]] [0, 1])
 (.seq (.region [qm 82 0, qm 83 0, qo 84 .nilCheck [.t 83], qo 85 (.fieldAddr 2) [.t 84], qo 86 (.load 1 false) [.t 85], qm 87 1, qo 88 (.bin .add) [.t 87, qi 1], qm 89 1, qo 90 (.bin .add) [.t 89, qi 1],
qo 91 (.build [.int .i64 0, .int .i64 0] [(0, 1), (1, 1)]) [.t 88, .t 90], qo 92 (.buildSl 2) [.t 91], qo 93 (.appendH 2 16) [.t 86, .t 92], qo 94 .nilCheck [.t 82],
qo 95 (.fieldAddr 2) [.t 94], qn (.store 1) [.t 95, .t 93] [93]] [])
 (.seq (.region [qo 4 .mv [qb true]] [4])
 (.ret)))))))), [.tmp 4]⟩
def v_fix_grouping_reduce : VFunc := ⟨75, .seq (.region [qm 5 0, qo 6 .nilCheck [.t 5], qo 7 (.fieldAddr 1) [.t 6], qo 8 (.load 1 false) [.t 7], qm 9 0, qo 10 .nilCheck [.t 9], qo 11 (.fieldAddr 1) [.t 10], qo 12 (.load 1 false) [.t 11],
qo 13 .len [.t 12], qo 14 (.bin .sub) [.t 13, qi 1], qo 15 (.indexAddr 1) [.t 8, .t 14], qo 16 (.load 1 false) [.t 15], qm 2 16] [0, 2])
 (.seq (.region [qm 17 0, qm 18 0, qo 19 .nilCheck [.t 18], qo 20 (.fieldAddr 1) [.t 19], qo 21 (.load 1 false) [.t 20], qm 22 0, qo 23 .nilCheck [.t 22], qo 24 (.fieldAddr 1) [.t 23],
qo 25 (.load 1 false) [.t 24], qo 26 .len [.t 25], qo 27 (.bin .sub) [.t 26, qi 1], qo 28 (.slice false true 1) [.t 21, .t 27], qo 29 .nilCheck [.t 17], qo 30 (.fieldAddr 1) [.t 29],
qn (.store 1) [.t 30, .t 28] [28]] [0, 2])
 (.seq (.region [qm 31 0, qo 32 .nilCheck [.t 31], qo 33 (.fieldAddr 2) [.t 32], qo 34 (.load 1 false) [.t 33], qo 35 .len [.t 34], qm 3 35] [0, 2, 3])
 (.seq (.region [qm 36 0, qo 37 .nilCheck [.t 36], qo 38 (.fieldAddr 2) [.t 37], qo 39 (.load 1 false) [.t 38], qm 40 3, qo 41 (.bin .sub) [.t 40, qi 2], qo 42 (.indexAddr 2) [.t 39, .t 41],
qo 43 (.fieldAddr 0) [.t 42], qo 44 (.load 1 false) [.t 43], qm 45 0, qo 46 .nilCheck [.t 45], qo 47 (.fieldAddr 2) [.t 46], qo 48 (.load 1 false) [.t 47], qm 49 3,
qo 50 (.bin .sub) [.t 49, qi 1], qo 51 (.indexAddr 2) [.t 48, .t 50], qo 52 (.fieldAddr 1) [.t 51], qo 53 (.load 1 false) [.t 52],
qo 54 (.build [.int .i64 0, .int .i64 0] [(0, 1), (1, 1)]) [.t 44, .t 53], qo 4 (.alloc [.int .i64 0, .int .i64 0]) [], qn (.store 2) [.t 4, .t 54] []] [0, 2, 3, 4])
 (.seq (.region [qm 55 0, qm 56 0, qo 57 .nilCheck [.t 56], qo 58 (.fieldAddr 2) [.t 57], qo 59 (.load 1 false) [.t 58], qm 60 3, qo 61 (.bin .sub) [.t 60, qi 2], qo 62 (.slice false true 2) [.t 59, .t 61],
qo 63 (.load 2 true) [.t 4], qo 64 (.buildSl 2) [.t 63], qo 65 (.appendH 2 16) [.t 62, .t 64], qo 66 .nilCheck [.t 55], qo 67 (.fieldAddr 2) [.t 66], qn (.store 1) [.t 67, .t 65] [65]] [0, 2, 4])
 (.region [qm 68 0, qo 69 .nilCheck [.t 68], qo 70 (.fieldAddr 3) [.t 69], qo 71 (.load 1 false) [.t 70], qm 72 2, qo 73 (.load 2 true) [.t 4], qo 74 (.indexAddr 2) [.t 71, .t 72],
qn (.store 2) [.t 74, .t 73] []] []))))), []⟩
def v_num_Op : VFunc := ⟨15, .seq (.region [qo 2 .mv [qi 0]] [0])
 (.seq (.seq (.region [qm 4 0, qo 5 (.bin .eql) [.t 4, .c (.str [])]] [0, 5])
 (.cond (.t 5)
 (.seq (.region [qo 2 .mv [qi 0]] [2])
 (.ret))
 (.skip)))
 (.seq (.seq (.region [qo 3 .mv [qi 1]] [0, 3])
 (.block 0 (.loop (.seq (.seq (.region [qm 6 3, qo 7 (.bin .leq) [.t 6, qi 11]] [0, 3, 7])
 (.cond (.t 7)
 (.skip)
 (.exit 0)))
 (.seq (.block 1 (.seq (.region [qm 10 3, qo 11 (.call .wr) [qf 137, .t 10], qm 12 0, qo 13 (.bin .eql) [.t 11, .t 12]] [0, 3, 13])
 (.cond (.t 13)
 (.seq (.region [qm 14 3, qm 2 14] [2])
 (.ret))
 (.skip))))
 (.region [qm 8 3, qo 9 (.bin .add) [.t 8, qi 1], qm 3 9] [0, 3]))))))
 (.seq (.region [qo 2 .mv [qi 0]] [2])
 (.ret)))), [.tmp 2]⟩
def v_num_Rel : VFunc := ⟨9, .seq (.region [qo 2 .mv [qb false]] [0])
 (.seq (.region [qm 3 0, qo 4 (.bin .geq) [.t 3, qi 6], qm 5 4, qv 6 0 5 true, qg 7 (.bin .leq) [.t 6, qi 11] [] 5 true, qo 8 .pick [.t 5, .t 7, qb false], qm 2 8] [2])
 (.ret)), [.tmp 2]⟩
def v_num_Name : VFunc := ⟨26, .seq (.region [qo 2 .mv [.c (.str [])]] [0])
 (.seq (.seq (.region [qm 3 0] [3])
 (.block 0 (.seq (.region [qo 5 (.bin .eql) [.t 3, qi 1], qm 4 5] [3, 4])
 (.cond (.t 4)
 (.seq (.region [qo 2 .mv [.c (.str [43])]] [2])
 (.ret))
 (.seq (.region [qo 7 (.bin .eql) [.t 3, qi 2], qm 6 7] [3, 6])
 (.cond (.t 6)
 (.seq (.region [qo 2 .mv [.c (.str [45])]] [2])
 (.ret))
 (.seq (.region [qo 9 (.bin .eql) [.t 3, qi 3], qm 8 9] [3, 8])
 (.cond (.t 8)
 (.seq (.region [qo 2 .mv [.c (.str [42])]] [2])
 (.ret))
 (.seq (.region [qo 11 (.bin .eql) [.t 3, qi 4], qm 10 11] [3, 10])
 (.cond (.t 10)
 (.seq (.region [qo 2 .mv [.c (.str [47])]] [2])
 (.ret))
 (.seq (.region [qo 13 (.bin .eql) [.t 3, qi 5], qm 12 13] [3, 12])
 (.cond (.t 12)
 (.seq (.region [qo 2 .mv [.c (.str [37])]] [2])
 (.ret))
 (.seq (.region [qo 15 (.bin .eql) [.t 3, qi 6], qm 14 15] [3, 14])
 (.cond (.t 14)
 (.seq (.region [qo 2 .mv [.c (.str [61, 61])]] [2])
 (.ret))
 (.seq (.region [qo 17 (.bin .eql) [.t 3, qi 7], qm 16 17] [3, 16])
 (.cond (.t 16)
 (.seq (.region [qo 2 .mv [.c (.str [47, 61])]] [2])
 (.ret))
 (.seq (.region [qo 19 (.bin .eql) [.t 3, qi 8], qm 18 19] [3, 18])
 (.cond (.t 18)
 (.seq (.region [qo 2 .mv [.c (.str [60])]] [2])
 (.ret))
 (.seq (.region [qo 21 (.bin .eql) [.t 3, qi 9], qm 20 21] [3, 20])
 (.cond (.t 20)
 (.seq (.region [qo 2 .mv [.c (.str [60, 61])]] [2])
 (.ret))
 (.seq (.region [qo 23 (.bin .eql) [.t 3, qi 10], qm 22 23] [3, 22])
 (.cond (.t 22)
 (.seq (.region [qo 2 .mv [.c (.str [62])]] [2])
 (.ret))
 (.seq (.region [qo 25 (.bin .eql) [.t 3, qi 11], qm 24 25] [24])
 (.cond (.t 24)
 (.seq (.region [qo 2 .mv [.c (.str [62, 61])]] [2])
 (.ret))
 (.skip)))))))))))))))))))))))))
 (.seq (.region [qo 2 .mv [.c (.str [])]] [2])
 (.ret))), [.tmp 2]⟩

def tab : List Entry := [⟨6, v_l06_ParseStrips, false⟩,
⟨8, v_l06_known, false⟩,
⟨9, v_parse_Program, false⟩,
⟨11, v_r06_SamePrograms, false⟩,
⟨19, v_parse_Strip, false⟩,
⟨20, v_parse_Bare, false⟩,
⟨21, v_r06_Bare, false⟩,
⟨22, v_r06_SameExpr, false⟩,
⟨23, v_r06_BareExprs, false⟩,
⟨25, v_parse_begin, true⟩,
⟨26, v_parse_parser_block, false⟩,
⟨27, v_parse_Program_1, false⟩,
⟨28, v_parse_parser_top, false⟩,
⟨29, v_parse_parser_text, false⟩,
⟨30, v_parse_parser_ends, false⟩,
⟨31, v_parse_grower_binds, false⟩,
⟨32, v_r06_sameDatas, false⟩,
⟨33, v_r06_SameBinds, false⟩,
⟨34, v_parse_parser_expr, false⟩,
⟨35, v_parse_grower_expr, false⟩,
⟨42, v_lex_Tokens, false⟩,
⟨47, v_parse_bareBinds, false⟩,
⟨48, v_parse_barePats, false⟩,
⟨49, v_parse_bareRhs, false⟩,
⟨50, v_r06_bareBinds, false⟩,
⟨51, v_r06_SamePats, false⟩,
⟨52, v_r06_SameRhs, false⟩,
⟨53, v_r06_SameExprs, false⟩,
⟨54, v_r06_barePats, false⟩,
⟨55, v_r06_bareRhs, false⟩,
⟨56, v_layout_Lay, false⟩,
⟨57, v_parse_parser_is, false⟩,
⟨58, v_parse_parser_next, false⟩,
⟨59, v_parse_parser_fails, false⟩,
⟨60, v_parse_parser_data, false⟩,
⟨61, v_parse_parser_fixity, false⟩,
⟨62, v_parse_parser_clause, false⟩,
⟨63, v_parse_grower_rhs, false⟩,
⟨64, v_r06_SameTypes, false⟩,
⟨65, v_parse_parser_operand, false⟩,
⟨66, v_parse_parser_kind, false⟩,
⟨67, v_parse_grower_grown, false⟩,
⟨77, v_lex_reader_skip, false⟩,
⟨78, v_lex_reader_next, false⟩,
⟨82, v_layout_layer_starts, false⟩,
⟨83, v_layout_layer_begins, false⟩,
⟨84, v_layout_layer_closes, false⟩,
⟨85, v_layout_layer_opens, false⟩,
⟨86, v_layout_layer_make, false⟩,
⟨87, v_parse_parser_peek, false⟩,
⟨88, v_parse_parser_want, false⟩,
⟨89, v_parse_parser_constr, false⟩,
⟨90, v_parse_parser_pattern, false⟩,
⟨91, v_parse_parser_apat, false⟩,
⟨92, v_parse_parser_body, false⟩,
⟨93, v_parse_parser_lambda, false⟩,
⟨94, v_parse_parser_operand_1, false⟩,
⟨95, v_parse_parser_operand_2, false⟩,
⟨96, v_parse_parser_alt, false⟩,
⟨97, v_parse_parser_aexp, false⟩,
⟨98, v_parse_parser_argument, false⟩,
⟨99, v_parse_grower_spans, false⟩,
⟨100, v_parse_grower_grown_1, false⟩,
⟨104, v_lex_reader_remark, false⟩,
⟨105, v_lex_classOf, false⟩,
⟨106, v_lex_goesOn, false⟩,
⟨107, v_lex_kind, false⟩,
⟨108, v_lex_value, false⟩,
⟨110, v_layout_layer_column, false⟩,
⟨111, v_layout_layer_push, false⟩,
⟨112, v_layout_layer_inLaid, false⟩,
⟨113, v_layout_layer_block, false⟩,
⟨114, v_layout_layer_find, false⟩,
⟨115, v_layout_layer_closeTo, false⟩,
⟨116, v_parse_parser_atomic, false⟩,
⟨117, v_parse_parser_atype, false⟩,
⟨118, v_parse_parser_plain, false⟩,
⟨119, v_parse_parser_ahead, false⟩,
⟨120, v_parse_parser_number, false⟩,
⟨121, v_parse_parser_minus, false⟩,
⟨122, v_parse_parser_pat, false⟩,
⟨123, v_parse_parser_operator, false⟩,
⟨124, v_fix_Find, false⟩,
⟨125, v_fix_Resolve, false⟩,
⟨128, v_lex_Word, false⟩,
⟨129, v_num_Parse, false⟩,
⟨130, v_parse_parser_typ, false⟩,
⟨131, v_fix_Default, false⟩,
⟨132, v_fix_right, false⟩,
⟨133, v_fix_grouping_takes, false⟩,
⟨134, v_fix_grouping_reduce, false⟩,
⟨135, v_num_Op, false⟩,
⟨136, v_num_Rel, false⟩,
⟨137, v_num_Name, false⟩]

theorem c_l06_ParseStrips : chkFn Try.prog 6 v_l06_ParseStrips = true := by kernel_rfl
theorem c_l06_known : chkFn Try.prog 8 v_l06_known = true := by kernel_rfl
theorem c_parse_Program : chkFn Try.prog 9 v_parse_Program = true := by kernel_rfl
theorem c_r06_SamePrograms : chkFn Try.prog 11 v_r06_SamePrograms = true := by kernel_rfl
theorem c_parse_Strip : chkFn Try.prog 19 v_parse_Strip = true := by kernel_rfl
theorem c_parse_Bare : chkFn Try.prog 20 v_parse_Bare = true := by kernel_rfl
theorem c_r06_Bare : chkFn Try.prog 21 v_r06_Bare = true := by kernel_rfl
theorem c_r06_SameExpr : chkFn Try.prog 22 v_r06_SameExpr = true := by kernel_rfl
theorem c_r06_BareExprs : chkFn Try.prog 23 v_r06_BareExprs = true := by kernel_rfl
theorem c_parse_begin : chkFn Try.prog 25 v_parse_begin = true := by kernel_rfl
theorem c_parse_parser_block : chkFn Try.prog 26 v_parse_parser_block = true := by kernel_rfl
theorem c_parse_Program_1 : chkFn Try.prog 27 v_parse_Program_1 = true := by kernel_rfl
theorem c_parse_parser_top : chkFn Try.prog 28 v_parse_parser_top = true := by kernel_rfl
theorem c_parse_parser_text : chkFn Try.prog 29 v_parse_parser_text = true := by kernel_rfl
theorem c_parse_parser_ends : chkFn Try.prog 30 v_parse_parser_ends = true := by kernel_rfl
theorem c_parse_grower_binds : chkFn Try.prog 31 v_parse_grower_binds = true := by kernel_rfl
theorem c_r06_sameDatas : chkFn Try.prog 32 v_r06_sameDatas = true := by kernel_rfl
theorem c_r06_SameBinds : chkFn Try.prog 33 v_r06_SameBinds = true := by kernel_rfl
theorem c_parse_parser_expr : chkFn Try.prog 34 v_parse_parser_expr = true := by kernel_rfl
theorem c_parse_grower_expr : chkFn Try.prog 35 v_parse_grower_expr = true := by kernel_rfl
theorem c_lex_Tokens : chkFn Try.prog 42 v_lex_Tokens = true := by kernel_rfl
theorem c_parse_bareBinds : chkFn Try.prog 47 v_parse_bareBinds = true := by kernel_rfl
theorem c_parse_barePats : chkFn Try.prog 48 v_parse_barePats = true := by kernel_rfl
theorem c_parse_bareRhs : chkFn Try.prog 49 v_parse_bareRhs = true := by kernel_rfl
theorem c_r06_bareBinds : chkFn Try.prog 50 v_r06_bareBinds = true := by kernel_rfl
theorem c_r06_SamePats : chkFn Try.prog 51 v_r06_SamePats = true := by kernel_rfl
theorem c_r06_SameRhs : chkFn Try.prog 52 v_r06_SameRhs = true := by kernel_rfl
theorem c_r06_SameExprs : chkFn Try.prog 53 v_r06_SameExprs = true := by kernel_rfl
theorem c_r06_barePats : chkFn Try.prog 54 v_r06_barePats = true := by kernel_rfl
theorem c_r06_bareRhs : chkFn Try.prog 55 v_r06_bareRhs = true := by kernel_rfl
theorem c_layout_Lay : chkFn Try.prog 56 v_layout_Lay = true := by kernel_rfl
theorem c_parse_parser_is : chkFn Try.prog 57 v_parse_parser_is = true := by kernel_rfl
theorem c_parse_parser_next : chkFn Try.prog 58 v_parse_parser_next = true := by kernel_rfl
theorem c_parse_parser_fails : chkFn Try.prog 59 v_parse_parser_fails = true := by kernel_rfl
theorem c_parse_parser_data : chkFn Try.prog 60 v_parse_parser_data = true := by kernel_rfl
theorem c_parse_parser_fixity : chkFn Try.prog 61 v_parse_parser_fixity = true := by kernel_rfl
theorem c_parse_parser_clause : chkFn Try.prog 62 v_parse_parser_clause = true := by kernel_rfl
theorem c_parse_grower_rhs : chkFn Try.prog 63 v_parse_grower_rhs = true := by kernel_rfl
theorem c_r06_SameTypes : chkFn Try.prog 64 v_r06_SameTypes = true := by kernel_rfl
theorem c_parse_parser_operand : chkFn Try.prog 65 v_parse_parser_operand = true := by kernel_rfl
theorem c_parse_parser_kind : chkFn Try.prog 66 v_parse_parser_kind = true := by kernel_rfl
theorem c_parse_grower_grown : chkFn Try.prog 67 v_parse_grower_grown = true := by kernel_rfl
theorem c_lex_reader_skip : chkFn Try.prog 77 v_lex_reader_skip = true := by kernel_rfl
theorem c_lex_reader_next : chkFn Try.prog 78 v_lex_reader_next = true := by kernel_rfl
theorem c_layout_layer_starts : chkFn Try.prog 82 v_layout_layer_starts = true := by kernel_rfl
theorem c_layout_layer_begins : chkFn Try.prog 83 v_layout_layer_begins = true := by kernel_rfl
theorem c_layout_layer_closes : chkFn Try.prog 84 v_layout_layer_closes = true := by kernel_rfl
theorem c_layout_layer_opens : chkFn Try.prog 85 v_layout_layer_opens = true := by kernel_rfl
theorem c_layout_layer_make : chkFn Try.prog 86 v_layout_layer_make = true := by kernel_rfl
theorem c_parse_parser_peek : chkFn Try.prog 87 v_parse_parser_peek = true := by kernel_rfl
theorem c_parse_parser_want : chkFn Try.prog 88 v_parse_parser_want = true := by kernel_rfl
theorem c_parse_parser_constr : chkFn Try.prog 89 v_parse_parser_constr = true := by kernel_rfl
theorem c_parse_parser_pattern : chkFn Try.prog 90 v_parse_parser_pattern = true := by kernel_rfl
theorem c_parse_parser_apat : chkFn Try.prog 91 v_parse_parser_apat = true := by kernel_rfl
theorem c_parse_parser_body : chkFn Try.prog 92 v_parse_parser_body = true := by kernel_rfl
theorem c_parse_parser_lambda : chkFn Try.prog 93 v_parse_parser_lambda = true := by kernel_rfl
theorem c_parse_parser_operand_1 : chkFn Try.prog 94 v_parse_parser_operand_1 = true := by kernel_rfl
theorem c_parse_parser_operand_2 : chkFn Try.prog 95 v_parse_parser_operand_2 = true := by kernel_rfl
theorem c_parse_parser_alt : chkFn Try.prog 96 v_parse_parser_alt = true := by kernel_rfl
theorem c_parse_parser_aexp : chkFn Try.prog 97 v_parse_parser_aexp = true := by kernel_rfl
theorem c_parse_parser_argument : chkFn Try.prog 98 v_parse_parser_argument = true := by kernel_rfl
theorem c_parse_grower_spans : chkFn Try.prog 99 v_parse_grower_spans = true := by kernel_rfl
theorem c_parse_grower_grown_1 : chkFn Try.prog 100 v_parse_grower_grown_1 = true := by kernel_rfl
theorem c_lex_reader_remark : chkFn Try.prog 104 v_lex_reader_remark = true := by kernel_rfl
theorem c_lex_classOf : chkFn Try.prog 105 v_lex_classOf = true := by kernel_rfl
theorem c_lex_goesOn : chkFn Try.prog 106 v_lex_goesOn = true := by kernel_rfl
theorem c_lex_kind : chkFn Try.prog 107 v_lex_kind = true := by kernel_rfl
theorem c_lex_value : chkFn Try.prog 108 v_lex_value = true := by kernel_rfl
theorem c_layout_layer_column : chkFn Try.prog 110 v_layout_layer_column = true := by kernel_rfl
theorem c_layout_layer_push : chkFn Try.prog 111 v_layout_layer_push = true := by kernel_rfl
theorem c_layout_layer_inLaid : chkFn Try.prog 112 v_layout_layer_inLaid = true := by kernel_rfl
theorem c_layout_layer_block : chkFn Try.prog 113 v_layout_layer_block = true := by kernel_rfl
theorem c_layout_layer_find : chkFn Try.prog 114 v_layout_layer_find = true := by kernel_rfl
theorem c_layout_layer_closeTo : chkFn Try.prog 115 v_layout_layer_closeTo = true := by kernel_rfl
theorem c_parse_parser_atomic : chkFn Try.prog 116 v_parse_parser_atomic = true := by kernel_rfl
theorem c_parse_parser_atype : chkFn Try.prog 117 v_parse_parser_atype = true := by kernel_rfl
theorem c_parse_parser_plain : chkFn Try.prog 118 v_parse_parser_plain = true := by kernel_rfl
theorem c_parse_parser_ahead : chkFn Try.prog 119 v_parse_parser_ahead = true := by kernel_rfl
theorem c_parse_parser_number : chkFn Try.prog 120 v_parse_parser_number = true := by kernel_rfl
theorem c_parse_parser_minus : chkFn Try.prog 121 v_parse_parser_minus = true := by kernel_rfl
theorem c_parse_parser_pat : chkFn Try.prog 122 v_parse_parser_pat = true := by kernel_rfl
theorem c_parse_parser_operator : chkFn Try.prog 123 v_parse_parser_operator = true := by kernel_rfl
theorem c_fix_Find : chkFn Try.prog 124 v_fix_Find = true := by kernel_rfl
theorem c_fix_Resolve : chkFn Try.prog 125 v_fix_Resolve = true := by kernel_rfl
theorem c_lex_Word : chkFn Try.prog 128 v_lex_Word = true := by kernel_rfl
theorem c_num_Parse : chkFn Try.prog 129 v_num_Parse = true := by kernel_rfl
theorem c_parse_parser_typ : chkFn Try.prog 130 v_parse_parser_typ = true := by kernel_rfl
theorem c_fix_Default : chkFn Try.prog 131 v_fix_Default = true := by kernel_rfl
theorem c_fix_right : chkFn Try.prog 132 v_fix_right = true := by kernel_rfl
theorem c_fix_grouping_takes : chkFn Try.prog 133 v_fix_grouping_takes = true := by kernel_rfl
theorem c_fix_grouping_reduce : chkFn Try.prog 134 v_fix_grouping_reduce = true := by kernel_rfl
theorem c_num_Op : chkFn Try.prog 135 v_num_Op = true := by kernel_rfl
theorem c_num_Rel : chkFn Try.prog 136 v_num_Rel = true := by kernel_rfl
theorem c_num_Name : chkFn Try.prog 137 v_num_Name = true := by kernel_rfl
theorem mix : Try.prog.follows .mixedOrders = true := by kernel_rfl
theorem tab_ok : tabOk Try.prog tab := by
  intro e h
  unfold tab at h
  rcases List.mem_cons.1 h with rfl | h; exact c_l06_ParseStrips
  rcases List.mem_cons.1 h with rfl | h; exact c_l06_known
  rcases List.mem_cons.1 h with rfl | h; exact c_parse_Program
  rcases List.mem_cons.1 h with rfl | h; exact c_r06_SamePrograms
  rcases List.mem_cons.1 h with rfl | h; exact c_parse_Strip
  rcases List.mem_cons.1 h with rfl | h; exact c_parse_Bare
  rcases List.mem_cons.1 h with rfl | h; exact c_r06_Bare
  rcases List.mem_cons.1 h with rfl | h; exact c_r06_SameExpr
  rcases List.mem_cons.1 h with rfl | h; exact c_r06_BareExprs
  rcases List.mem_cons.1 h with rfl | h; exact c_parse_begin
  rcases List.mem_cons.1 h with rfl | h; exact c_parse_parser_block
  rcases List.mem_cons.1 h with rfl | h; exact c_parse_Program_1
  rcases List.mem_cons.1 h with rfl | h; exact c_parse_parser_top
  rcases List.mem_cons.1 h with rfl | h; exact c_parse_parser_text
  rcases List.mem_cons.1 h with rfl | h; exact c_parse_parser_ends
  rcases List.mem_cons.1 h with rfl | h; exact c_parse_grower_binds
  rcases List.mem_cons.1 h with rfl | h; exact c_r06_sameDatas
  rcases List.mem_cons.1 h with rfl | h; exact c_r06_SameBinds
  rcases List.mem_cons.1 h with rfl | h; exact c_parse_parser_expr
  rcases List.mem_cons.1 h with rfl | h; exact c_parse_grower_expr
  rcases List.mem_cons.1 h with rfl | h; exact c_lex_Tokens
  rcases List.mem_cons.1 h with rfl | h; exact c_parse_bareBinds
  rcases List.mem_cons.1 h with rfl | h; exact c_parse_barePats
  rcases List.mem_cons.1 h with rfl | h; exact c_parse_bareRhs
  rcases List.mem_cons.1 h with rfl | h; exact c_r06_bareBinds
  rcases List.mem_cons.1 h with rfl | h; exact c_r06_SamePats
  rcases List.mem_cons.1 h with rfl | h; exact c_r06_SameRhs
  rcases List.mem_cons.1 h with rfl | h; exact c_r06_SameExprs
  rcases List.mem_cons.1 h with rfl | h; exact c_r06_barePats
  rcases List.mem_cons.1 h with rfl | h; exact c_r06_bareRhs
  rcases List.mem_cons.1 h with rfl | h; exact c_layout_Lay
  rcases List.mem_cons.1 h with rfl | h; exact c_parse_parser_is
  rcases List.mem_cons.1 h with rfl | h; exact c_parse_parser_next
  rcases List.mem_cons.1 h with rfl | h; exact c_parse_parser_fails
  rcases List.mem_cons.1 h with rfl | h; exact c_parse_parser_data
  rcases List.mem_cons.1 h with rfl | h; exact c_parse_parser_fixity
  rcases List.mem_cons.1 h with rfl | h; exact c_parse_parser_clause
  rcases List.mem_cons.1 h with rfl | h; exact c_parse_grower_rhs
  rcases List.mem_cons.1 h with rfl | h; exact c_r06_SameTypes
  rcases List.mem_cons.1 h with rfl | h; exact c_parse_parser_operand
  rcases List.mem_cons.1 h with rfl | h; exact c_parse_parser_kind
  rcases List.mem_cons.1 h with rfl | h; exact c_parse_grower_grown
  rcases List.mem_cons.1 h with rfl | h; exact c_lex_reader_skip
  rcases List.mem_cons.1 h with rfl | h; exact c_lex_reader_next
  rcases List.mem_cons.1 h with rfl | h; exact c_layout_layer_starts
  rcases List.mem_cons.1 h with rfl | h; exact c_layout_layer_begins
  rcases List.mem_cons.1 h with rfl | h; exact c_layout_layer_closes
  rcases List.mem_cons.1 h with rfl | h; exact c_layout_layer_opens
  rcases List.mem_cons.1 h with rfl | h; exact c_layout_layer_make
  rcases List.mem_cons.1 h with rfl | h; exact c_parse_parser_peek
  rcases List.mem_cons.1 h with rfl | h; exact c_parse_parser_want
  rcases List.mem_cons.1 h with rfl | h; exact c_parse_parser_constr
  rcases List.mem_cons.1 h with rfl | h; exact c_parse_parser_pattern
  rcases List.mem_cons.1 h with rfl | h; exact c_parse_parser_apat
  rcases List.mem_cons.1 h with rfl | h; exact c_parse_parser_body
  rcases List.mem_cons.1 h with rfl | h; exact c_parse_parser_lambda
  rcases List.mem_cons.1 h with rfl | h; exact c_parse_parser_operand_1
  rcases List.mem_cons.1 h with rfl | h; exact c_parse_parser_operand_2
  rcases List.mem_cons.1 h with rfl | h; exact c_parse_parser_alt
  rcases List.mem_cons.1 h with rfl | h; exact c_parse_parser_aexp
  rcases List.mem_cons.1 h with rfl | h; exact c_parse_parser_argument
  rcases List.mem_cons.1 h with rfl | h; exact c_parse_grower_spans
  rcases List.mem_cons.1 h with rfl | h; exact c_parse_grower_grown_1
  rcases List.mem_cons.1 h with rfl | h; exact c_lex_reader_remark
  rcases List.mem_cons.1 h with rfl | h; exact c_lex_classOf
  rcases List.mem_cons.1 h with rfl | h; exact c_lex_goesOn
  rcases List.mem_cons.1 h with rfl | h; exact c_lex_kind
  rcases List.mem_cons.1 h with rfl | h; exact c_lex_value
  rcases List.mem_cons.1 h with rfl | h; exact c_layout_layer_column
  rcases List.mem_cons.1 h with rfl | h; exact c_layout_layer_push
  rcases List.mem_cons.1 h with rfl | h; exact c_layout_layer_inLaid
  rcases List.mem_cons.1 h with rfl | h; exact c_layout_layer_block
  rcases List.mem_cons.1 h with rfl | h; exact c_layout_layer_find
  rcases List.mem_cons.1 h with rfl | h; exact c_layout_layer_closeTo
  rcases List.mem_cons.1 h with rfl | h; exact c_parse_parser_atomic
  rcases List.mem_cons.1 h with rfl | h; exact c_parse_parser_atype
  rcases List.mem_cons.1 h with rfl | h; exact c_parse_parser_plain
  rcases List.mem_cons.1 h with rfl | h; exact c_parse_parser_ahead
  rcases List.mem_cons.1 h with rfl | h; exact c_parse_parser_number
  rcases List.mem_cons.1 h with rfl | h; exact c_parse_parser_minus
  rcases List.mem_cons.1 h with rfl | h; exact c_parse_parser_pat
  rcases List.mem_cons.1 h with rfl | h; exact c_parse_parser_operator
  rcases List.mem_cons.1 h with rfl | h; exact c_fix_Find
  rcases List.mem_cons.1 h with rfl | h; exact c_fix_Resolve
  rcases List.mem_cons.1 h with rfl | h; exact c_lex_Word
  rcases List.mem_cons.1 h with rfl | h; exact c_num_Parse
  rcases List.mem_cons.1 h with rfl | h; exact c_parse_parser_typ
  rcases List.mem_cons.1 h with rfl | h; exact c_fix_Default
  rcases List.mem_cons.1 h with rfl | h; exact c_fix_right
  rcases List.mem_cons.1 h with rfl | h; exact c_fix_grouping_takes
  rcases List.mem_cons.1 h with rfl | h; exact c_fix_grouping_reduce
  rcases List.mem_cons.1 h with rfl | h; exact c_num_Op
  rcases List.mem_cons.1 h with rfl | h; exact c_num_Rel
  rcases List.mem_cons.1 h with rfl | h; exact c_num_Name
  cases h

end Go.Proofs.Ytpamkokbajmjkaa.Vm
namespace Go.Proofs.Ytpamkokbajmjkaa.Vm
open Go
theorem known_run : callN tab 100000 8 [] [] = some (.bool true, []) := by kernel_rfl
theorem known_T : T Try.prog 8 [] [] (.bool true) [] := callN_sound mix tab_ok _ known_run
theorem known_H (H : Heap) : T Try.prog 8 [] H (.bool true) H := known_T.frame rfl H
end Go.Proofs.Ytpamkokbajmjkaa.Vm
namespace Go.Proofs.Ytpamkokbajmjkaa.Vm
open Go
set_option linter.unusedSimpArgs false

/-- A function that turns nothing, and is handed no place. -/
def Pu (f : Nat) (args : List V) (r : V) : Prop := T Try.prog f args [] r [] ∧ idsL 0 args = true
theorem Pu.at {f : Nat} {a : List V} {r : V} (h : Pu f a r) {args : List V} (e : args.map norm0 = a) (H : Heap) : T Try.prog f args H r H := (h.1.frame h.2 H).weak' e
theorem Pu.al {f : Nat} {a : List V} {r : V} (h : Pu f a r) {args : List V} (e : args.map norm0 = a) : T Try.prog f args [] r [] := h.1.weak' e

noncomputable def eqB {α : Type} (a b : α) : Bool := @decide (a = b) (Classical.propDecidable _)
theorem eqB_true {α : Type} {a b : α} (h : a = b) : eqB a b = true := @decide_eq_true _ (Classical.propDecidable _) h
theorem eqB_false {α : Type} {a b : α} (h : a ≠ b) : eqB a b = false := @decide_eq_false _ (Classical.propDecidable _) h
theorem eqB_iff {α : Type} {a b : α} : eqB a b = true ↔ a = b := by unfold eqB; simp

section
variable {H : Heap}
theorem gc_appN {l : Heap} {i v : Nat} : getCells (H ++ l) (H.length + i) v = getCells l i v := by
  unfold getCells; rw [List.getElem?_append_right (by omega), Nat.add_sub_cancel_left]
theorem gc_app0 {l : Heap} {v : Nat} : getCells (H ++ l) H.length v = getCells l 0 v := gc_appN (i := 0)
theorem set_appN {l : Heap} {i : Nat} {o : Obj} : (H ++ l).set (H.length + i) o = H ++ l.set i o := by
  rw [List.set_append_right _ _ (by omega), Nat.add_sub_cancel_left]
theorem set_app0 {l : Heap} {o : Obj} : (H ++ l).set H.length o = H ++ l.set 0 o := set_appN (i := 0)
end
@[go_sem] theorem gc_hit {v : Nat} {cs : List V} {H : Heap} : getCells (.cells v cs :: H) 0 v = some cs := by simp [getCells]
@[go_sem] theorem gc_next {o : Obj} {v i : Nat} {H : Heap} : getCells (o :: H) (i + 1) v = getCells H i v := by simp [getCells]
theorem inc64 {i : Nat} (h : i < 4611686018427387904) : IntKind.i64.wrap ((i : Int) + 1) = ((i + 1 : Nat) : Int) := by
  rw [wrap64 (by omega) (by omega)]; rfl

theorem tyC_eq (k n : Int) (s : Str) (xs : List Ty) : tyC (.mk k n s xs) = [.int .i64 k, .int .i64 n, .str s, .sl false 4 (xs.map tyC)] := by rw [tyC]
theorem paC_eq (k : Int) (s : Str) (n : Int) (xs : List Pa) (l c : Int) : paC (.mk k s n xs l c) = [.int .i64 k, .str s, .int .i64 n, .sl false 6 (xs.map paC), .int .i64 l, .int .i64 c] := by rw [paC]

/-! Bounds: no list is too long. -/
inductive TyB : Ty → Prop
  | mk {k n s xs} (hl : xs.length * 56 ≤ 140737488355328) (h : ∀ x ∈ xs, TyB x) : TyB (.mk k n s xs)
inductive PaB : Pa → Prop
  | mk {k s n xs l c} (hl : xs.length * 72 ≤ 140737488355328) (h : ∀ x ∈ xs, PaB x) : PaB (.mk k s n xs l c)
mutual
inductive ExB : Ex → Prop
  | mk {k s n ps xs al bs l c} (h1 : ps.length * 16 ≤ 140737488355328) (h2 : xs.length * 144 ≤ 140737488355328) (h3 : al.length * 96 ≤ 140737488355328) (h4 : bs.length * 56 ≤ 140737488355328)
      (h5 : ∀ x ∈ xs, ExB x) (h6 : ∀ x ∈ al, AlB x) (h7 : ∀ x ∈ bs, BiB x) : ExB (.mk k s n ps xs al bs l c)
inductive AlB : Al → Prop
  | mk {p rs} (h1 : PaB p) (h2 : rs.length * 168 ≤ 140737488355328) (h3 : ∀ x ∈ rs, RhB x) : AlB (.mk p rs)
inductive RhB : Rh → Prop
  | mk {g b} (h1 : g.length * 144 ≤ 140737488355328) (h2 : ∀ x ∈ g, ExB x) (h3 : ExB b) : RhB (.mk g b)
inductive ClB : Cl → Prop
  | mk {ps rs} (h1 : ps.length * 72 ≤ 140737488355328) (h2 : ∀ x ∈ ps, PaB x) (h3 : rs.length * 168 ≤ 140737488355328) (h4 : ∀ x ∈ rs, RhB x) : ClB (.mk ps rs)
inductive BiB : Bi → Prop
  | mk {s cs l c} (h1 : cs.length * 48 ≤ 140737488355328) (h2 : ∀ x ∈ cs, ClB x) : BiB (.mk s cs l c)
end
def LB {α : Type} (n : Nat) (p : α → Prop) (l : List α) : Prop := l.length * n ≤ 140737488355328 ∧ ∀ x ∈ l, p x

/-- One more of two lists. -/
theorem take_next {α : Type} {a b : List α} {i : Nat} {x y : α} (h : a.take i = b.take i) (h1 : a[i]? = some x) (h2 : b[i]? = some y) : (a.take (i + 1) = b.take (i + 1)) ↔ x = y := by
  rw [List.take_add_one, List.take_add_one, h1, h2, h]
  simp
theorem take_ne {α : Type} {a b : List α} {i : Nat} {x y : α} (h1 : a[i]? = some x) (h2 : b[i]? = some y) (h : x ≠ y) : a ≠ b := by
  intro e; rw [e, h2] at h1; cases h1; exact h rfl
theorem bool_eqB {α : Type} {b : Bool} {x y : α} (h : b = true ↔ x = y) : eqB x y = b := by
  cases b with
  | true => exact eqB_true (h.1 rfl)
  | false => exact eqB_false fun e => by have := h.2 e; cases this

theorem neq_len {α β : Type} {a : List α} {b : List β} : (((a.length : Int) != b.length) = true) = (a.length ≠ b.length) := by
  simp; omega
theorem eq_len {α β : Type} {a : List α} {b : List β} : (((a.length : Int) != b.length) = false) = (a.length = b.length) := by
  simp; omega
theorem lt_len {α : Type} {a : List α} {i : Nat} : ((i : Int) < (a.length : Int)) = (i < a.length) := by simp
theorem nlt_len {α : Type} {a : List α} {i : Nat} : (¬ (i : Int) < (a.length : Int)) = (a.length ≤ i) := by simp
theorem neqB {α : Type} [BEq α] [LawfulBEq α] {a b : α} : ((a != b) = true) = (a ≠ b) := by simp
theorem eqBB {α : Type} [BEq α] [LawfulBEq α] {a b : α} : ((a != b) = false) = (a = b) := by simp
theorem nbeq {α : Type} [BEq α] [LawfulBEq α] {a b : α} : ((!(a == b)) = true) = (a ≠ b) := by simp
theorem nbeq' {α : Type} [BEq α] [LawfulBEq α] {a b : α} : ((!(a == b)) = false) = (a = b) := by simp
theorem LB.lt {α : Type} {n : Nat} {p : α → Prop} {l : List α} (h : LB n p l) (hn : 0 < n := by decide) : l.length < 4611686018427387903 := by
  have := h.1
  have : l.length * 1 ≤ l.length * n := Nat.mul_le_mul_left _ hn
  omega
theorem take_all {α : Type} {a b : List α} {i : Nat} (h : a.take i = b.take i) (h1 : a.length ≤ i) (h2 : a.length = b.length) : a = b := by
  rwa [List.take_of_length_le h1, List.take_of_length_le (by omega)] at h

theorem SameTypes_T (n : Nat) : ∀ (xs ys : List Ty), SizeOf.sizeOf xs ≤ n → LB 56 TyB xs → LB 56 TyB ys → Pu 64 [.sl false 4 (xs.map tyC), .sl false 4 (ys.map tyC)] (.bool (eqB xs ys)) := by
  induction n with
  | zero => intro xs ys h; cases xs <;> simp at h
  | succ n ih =>
    intro xs ys hn hx hy
    refine ⟨?_, rfl⟩
    refine T.of0 mix c_r06_SameTypes rfl ?_
    unfold v_r06_SameTypes
    simp only [go_sem, ↓reduceIte, neq_len, eq_len, Decidable.not_not]
    refine ⟨fun h => by rw [eqB_false fun e => h (by rw [e])], fun hlen => ?_⟩
    have hb := hx.lt
    refine WP.range (n := xs.length) (fun i E F => xs.take i = ys.take i ∧ ∃ ex, E = ⟨(0, .sl false 4 (xs.map tyC)) :: (1, .sl false 4 (ys.map tyC)) :: (5, .int .i64 i) :: ex, .u⟩) ⟨rfl, _, rfl⟩ ?_
    rintro i E F hi ⟨htk, ex, rfl⟩
    have hw := inc64 (i := i) (by omega)
    simp only [go_sem, ↓reduceIte, ↓ex_map, ↓run_addW, hw, Int.toNat_natCast, lt_len]
    refine ⟨fun hlt => ?_, fun hge => by rw [eqB_true (take_all htk (by omega) hlen)]⟩
    have hg := List.getElem?_eq_getElem hlt
    have hg' := List.getElem?_eq_getElem (show i < ys.length by omega)
    have hnx := take_next htk hg hg'
    have hne := take_ne hg hg'
    have hsz := List.sizeOf_get xs ⟨i, hlt⟩
    have hxe := hx.2 _ (List.getElem_mem hlt)
    have hye := hy.2 _ (List.getElem_mem (show i < ys.length by omega))
    rcases hxx : xs[i] with ⟨k, m, s, as'⟩
    rcases hyy : ys[i] with ⟨k', m', s', bs'⟩
    simp only [List.get_eq_getElem] at hsz
    rw [hxx] at hg hnx hne hsz hxe
    rw [hyy] at hg' hnx hne hye
    cases hxe with | mk h1 h2 => cases hye with | mk h3 h4 =>
    have hT := ih as' bs' (by simp at hsz; omega) ⟨h1, h2⟩ ⟨h3, h4⟩
    simp only [tyC_eq, go_sem, ↓reduceIte, ↓ex_map, ↓run_addW, hw, Int.toNat_natCast, lt_len, neqB, eqBB, nbeq, nbeq', hg, hg']
    have hno : ¬ (Ty.mk k m s as' = Ty.mk k' m' s' bs') → V.bool false = V.bool (eqB xs ys) := fun h => by rw [eqB_false (hne h)]
    simp only [Ty.mk.injEq] at hno hnx
    refine ⟨fun hk => ⟨fun hm => ⟨fun hs => ⟨_, _, hT.at rfl F, ?_⟩, fun h => hno (by simp [h])⟩, fun h => hno (by simp [h])⟩, fun h => hno (by simp [h])⟩
    simp only [go_sem, ↓reduceIte, ↓run_addW, hw, Bool.not_eq_true', Bool.not_eq_false']
    refine ⟨fun h => hno (fun e => by rw [eqB_true e.2.2.2] at h; cases h), fun h => ⟨hlt, hnx.2 ⟨hk, hm, hs, eqB_iff.1 (by simpa using h)⟩, _, rfl⟩⟩
end Go.Proofs.Ytpamkokbajmjkaa.Vm
namespace Go.Proofs.Ytpamkokbajmjkaa.Vm
open Go
set_option linter.unusedSimpArgs false

def plN (p : Bool) (l : Int) : Int := if p then l else 0
def paN (p : Bool) : Pa → Pa
  | .mk k s n xs l c => .mk k s n (xs.map (paN p)) (plN p l) (plN p c)
mutual
def exN (p : Bool) : Ex → Ex
  | .mk k s n ps xs al bs l c => .mk k s n ps (xs.map (exN p)) (al.map (alN p)) (bs.map (biN p)) (plN p l) (plN p c)
def alN (p : Bool) : Al → Al
  | .mk q rs => .mk (paN p q) (rs.map (rhN p))
def rhN (p : Bool) : Rh → Rh
  | .mk g b => .mk (g.map (exN p)) (exN p b)
def clN (p : Bool) : Cl → Cl
  | .mk ps rs => .mk (ps.map (paN p)) (rs.map (rhN p))
def biN (p : Bool) : Bi → Bi
  | .mk s cs l c => .mk s (cs.map (clN p)) (plN p l) (plN p c)
end
theorem paN_eq {p : Bool} {k : Int} {s : Str} {n : Int} {xs : List Pa} {l c : Int} : paN p (.mk k s n xs l c) = .mk k s n (xs.map (paN p)) (plN p l) (plN p c) := by rw [paN]
theorem exN_eq {p : Bool} {k : Int} {s : Str} {n : Int} {ps : List Str} {xs : List Ex} {al : List Al} {bs : List Bi} {l c : Int} : exN p (.mk k s n ps xs al bs l c) = .mk k s n ps (xs.map (exN p)) (al.map (alN p)) (bs.map (biN p)) (plN p l) (plN p c) := by rw [exN]
theorem alN_eq {p : Bool} {q : Pa} {rs : List Rh} : alN p (.mk q rs) = .mk (paN p q) (rs.map (rhN p)) := by rw [alN]
theorem rhN_eq {p : Bool} {g : List Ex} {b : Ex} : rhN p (.mk g b) = .mk (g.map (exN p)) (exN p b) := by rw [rhN]
theorem clN_eq {p : Bool} {ps : List Pa} {rs : List Rh} : clN p (.mk ps rs) = .mk (ps.map (paN p)) (rs.map (rhN p)) := by rw [clN]
theorem biN_eq {p : Bool} {s : Str} {cs : List Cl} {l c : Int} : biN p (.mk s cs l c) = .mk s (cs.map (clN p)) (plN p l) (plN p c) := by rw [biN]
@[go_sem] theorem eqV_ii {a b x y : Int} : eqV [.i, .i] true (.agg [.int .i64 a, .int .i64 b]) (.agg [.int .i64 x, .int .i64 y]) = some (a == x && (b == y && true)) := rfl
theorem plN_iff {p : Bool} {a b x y : Int} : (plN p a = plN p x ∧ plN p b = plN p y) ↔ (p = true → a = x ∧ b = y) := by
  cases p <;> simp [plN]
theorem map_get {α β : Type} {f : α → β} {l : List α} {i : Nat} {x : α} (h : l[i]? = some x) : (l.map f)[i]? = some (f x) := by rw [List.getElem?_map, h]; rfl

theorem SamePats_T (n : Nat) : ∀ (xs ys : List Pa) (p : Bool), SizeOf.sizeOf xs ≤ n → LB 72 PaB xs → LB 72 PaB ys → Pu 51 [.sl false 6 (xs.map paC), .sl false 6 (ys.map paC), .bool p] (.bool (eqB (xs.map (paN p)) (ys.map (paN p)))) := by
  induction n with
  | zero => intro xs ys p h; cases xs <;> simp at h
  | succ n ih =>
    intro xs ys p hn hx hy
    refine ⟨?_, rfl⟩
    refine T.of0 mix c_r06_SamePats rfl ?_
    unfold v_r06_SamePats
    simp only [go_sem, ↓reduceIte, neq_len, eq_len, Decidable.not_not]
    refine ⟨fun h => by rw [eqB_false fun e => h (by simpa using congrArg List.length e)], fun hlen => ?_⟩
    have hb := hx.lt
    refine WP.range (n := xs.length) (fun i E F => (xs.map (paN p)).take i = (ys.map (paN p)).take i ∧ ∃ ex, E = ⟨(0, .sl false 6 (xs.map paC)) :: (1, .sl false 6 (ys.map paC)) :: (2, .bool p) :: (7, .int .i64 i) :: ex, .u⟩) ⟨rfl, _, rfl⟩ ?_
    rintro i E F hi ⟨htk, ex, rfl⟩
    have hw := inc64 (i := i) (by omega)
    simp only [go_sem, ↓reduceIte, ↓ex_map, ↓run_addW, hw, Int.toNat_natCast, lt_len]
    refine ⟨fun hlt => ?_, fun hge => by rw [eqB_true (take_all htk (by simpa using hge) (by simpa using hlen))]⟩
    have hg := List.getElem?_eq_getElem hlt
    have hg' := List.getElem?_eq_getElem (show i < ys.length by omega)
    have hsz := List.sizeOf_get xs ⟨i, hlt⟩
    have hxe := hx.2 _ (List.getElem_mem hlt)
    have hye := hy.2 _ (List.getElem_mem (show i < ys.length by omega))
    rcases hxx : xs[i] with ⟨k, s, m, as', l, c⟩
    rcases hyy : ys[i] with ⟨k', s', m', bs', l', c'⟩
    simp only [List.get_eq_getElem] at hsz
    rw [hxx] at hg hsz hxe
    rw [hyy] at hg' hye
    cases hxe with | mk h1 h2 => cases hye with | mk h3 h4 =>
    have hnx := take_next htk (map_get hg) (map_get hg')
    have hne := take_ne (map_get (f := paN p) hg) (map_get (f := paN p) hg')
    have hT := ih as' bs' p (by simp at hsz; omega) ⟨h1, h2⟩ ⟨h3, h4⟩
    have hno : ¬ (paN p (Pa.mk k s m as' l c) = paN p (Pa.mk k' s' m' bs' l' c')) → V.bool false = V.bool (eqB (xs.map (paN p)) (ys.map (paN p))) := fun h => by rw [eqB_false (hne h)]
    simp only [paN_eq, Pa.mk.injEq, plN_iff] at hno hnx
    cases p
    · simp only [paC_eq, go_sem, ↓reduceIte, ↓ex_map, ↓run_addW, hw, Int.toNat_natCast, lt_len, neqB, eqBB, nbeq, nbeq', hg, hg', holeAt_app, gc_app0, gc_appN, set_app0, set_appN, List.append_assoc]
      refine ⟨by omega, fun hk => ⟨fun hs => ⟨fun hm => ⟨_, _, hT.at rfl _, ?_⟩, fun h => hno (by simp [h])⟩, fun h => hno (by simp [h])⟩, fun h => hno (by simp [h])⟩
      simp only [go_sem, ↓reduceIte, ↓run_addW, hw, Bool.not_eq_true', Bool.not_eq_false']
      refine ⟨fun h => hno (fun e => by rw [eqB_true e.2.2.2.1] at h; cases h), fun h => ⟨hlt, hnx.2 ⟨hk, hs, hm, eqB_iff.1 (by simpa using h), fun h => by cases h⟩, _, rfl⟩⟩
    · simp only [paC_eq, go_sem, ↓reduceIte, ↓ex_map, ↓run_addW, hw, Int.toNat_natCast, lt_len, neqB, eqBB, nbeq, nbeq', hg, hg', holeAt_app, gc_app0, gc_appN, set_app0, set_appN, List.append_assoc]
      refine ⟨by omega, fun hk => ⟨fun hs => ⟨fun hm => ⟨fun hp => ⟨_, _, hT.at rfl _, ?_⟩, fun h => hno (by intro e; simp [e.2.2.2.2 rfl] at h)⟩, fun h => hno (by simp [h])⟩, fun h => hno (by simp [h])⟩, fun h => hno (by simp [h])⟩
      simp only [go_sem, ↓reduceIte, ↓run_addW, hw, Bool.not_eq_true', Bool.not_eq_false']
      refine ⟨fun h => hno (fun e => by rw [eqB_true e.2.2.2.1] at h; cases h), fun h => ⟨hlt, hnx.2 ⟨hk, hs, hm, eqB_iff.1 (by simpa using h), fun _ => by simpa using hp⟩, _, rfl⟩⟩
end Go.Proofs.Ytpamkokbajmjkaa.Vm
namespace Go.Proofs.Ytpamkokbajmjkaa.Vm
open Go

theorem alC_eq (p : Pa) (rs : List Rh) : alC (.mk p rs) = paC p ++ [.sl false 10 (rs.map rhC)] := by rw [alC]
theorem rhC_eq (g : List Ex) (b : Ex) : rhC (.mk g b) = .sl false 9 (g.map exC) :: exC b := by rw [rhC]
theorem clC_eq (ps : List Pa) (rs : List Rh) : clC (.mk ps rs) = [.sl false 6 (ps.map paC), .sl false 10 (rs.map rhC)] := by rw [clC]
theorem biC_eq (s : Str) (cs : List Cl) (l c : Int) : biC (.mk s cs l c) = [.str s, .sl false 2 (cs.map clC), .int .i64 l, .int .i64 c] := by rw [biC]
theorem stC_eq (s : Str) : stC s = [.str s] := rfl
@[go_sem] theorem norm0_agg {cs : List V} : norm0 (.agg cs) = .agg (cs.map inl0) := rfl
@[go_sem] theorem norm0_sl {o : Bool} {z : Nat} {xs : List (List V)} : norm0 (.sl o z xs) = .sl false z xs := rfl
@[go_sem] theorem norm0_nilh {z : Nat} : norm0 (.nilh z) = .sl false z [] := rfl
@[go_sem] theorem norm0_int {k : IntKind} {n : Int} : norm0 (.int k n) = .int k n := rfl
@[go_sem] theorem norm0_bool {b : Bool} : norm0 (.bool b) = .bool b := rfl
@[go_sem] theorem norm0_str {b : List UInt8} : norm0 (.str b) = .str b := rfl
@[go_sem] theorem norm0_ptr {a b c : Nat} : norm0 (.ptr a b c) = .ptr a b c := rfl
@[go_sem] theorem inl0_sl {o : Bool} {z : Nat} {xs : List (List V)} : inl0 (.sl o z xs) = .sl false z xs := rfl
@[go_sem] theorem inl0_nilh {z : Nat} : inl0 (.nilh z) = .sl false z [] := rfl
@[go_sem] theorem inl0_int {k : IntKind} {n : Int} : inl0 (.int k n) = .int k n := rfl
@[go_sem] theorem inl0_bool {b : Bool} : inl0 (.bool b) = .bool b := rfl
@[go_sem] theorem inl0_str {b : List UInt8} : inl0 (.str b) = .str b := rfl
/-- What all cells of a program's parts are like. -/
structure Cells (n : Nat) (cs : List V) : Prop where
  len : cs.length = n
  strip : cs.map strip0 = cs
  inl : cs.map inl0 = cs
  ids : ∀ m, idsL m cs = true
  p1 : cs.all plain1 = true
  pc : cs.all plainC = true
theorem Cells.append {n m : Nat} {a b : List V} (h : Cells n a) (k : Cells m b) : Cells (n + m) (a ++ b) where
  len := by rw [List.length_append, h.len, k.len]
  strip := by rw [List.map_append, h.strip, k.strip]
  inl := by rw [List.map_append, h.inl, k.inl]
  ids := fun m => by rw [idsL_all, List.all_append, ← idsL_all, ← idsL_all, h.ids, k.ids]; rfl
  p1 := by rw [List.all_append, h.p1, k.p1]; rfl
  pc := by rw [List.all_append, h.pc, k.pc]; rfl
theorem cells_of {n : Nat} {cs : List V} (h0 : cs.length = n) (h : cs.map strip0 = cs) (h2 : cs.map inl0 = cs) (h3 : ∀ m, idsL m cs = true) (h4 : cs.all plain1 = true) (h5 : cs.all plainC = true) : Cells n cs := ⟨h0, h, h2, h3, h4, h5⟩
theorem tyC_ok (x : Ty) : Cells 4 (tyC x) := by cases x; rw [tyC_eq]; exact cells_of rfl rfl rfl (fun _ => rfl) rfl rfl
theorem paC_ok (x : Pa) : Cells 6 (paC x) := by cases x; rw [paC_eq]; exact cells_of rfl rfl rfl (fun _ => rfl) rfl rfl
theorem exC_ok (x : Ex) : Cells 9 (exC x) := by cases x; rw [exC_eq]; exact cells_of rfl rfl rfl (fun _ => rfl) rfl rfl
theorem alC_ok (x : Al) : Cells 7 (alC x) := by cases x; rw [alC_eq]; exact (paC_ok _).append (cells_of (cs := [.sl false 10 _]) (n := 1) rfl rfl rfl (fun _ => rfl) rfl rfl)
theorem rhC_ok (x : Rh) : Cells 10 (rhC x) := by
  cases x with
  | mk g b =>
    rw [rhC_eq]
    exact (cells_of (cs := [.sl false 9 (g.map exC)]) (n := 1) rfl rfl rfl (fun _ => rfl) rfl rfl).append (exC_ok b)
theorem clC_ok (x : Cl) : Cells 2 (clC x) := by cases x; rw [clC_eq]; exact cells_of rfl rfl rfl (fun _ => rfl) rfl rfl
theorem biC_ok (x : Bi) : Cells 4 (biC x) := by cases x; rw [biC_eq]; exact cells_of rfl rfl rfl (fun _ => rfl) rfl rfl
@[go_sem] theorem tyC_len {x : Ty} : (tyC x).length = 4 := (tyC_ok x).len
@[go_sem] theorem tyC_take {x : Ty} : List.take 4 (tyC x) = tyC x := List.take_of_length_le (by rw [tyC_len]; exact Nat.le_refl _)
@[go_sem] theorem tyC_drop {x : Ty} : List.drop 4 (tyC x) = [] := List.drop_of_length_le (by rw [tyC_len]; exact Nat.le_refl _)
@[go_sem] theorem tyC_strip {x : Ty} : (tyC x).map strip0 = tyC x := (tyC_ok x).strip
@[go_sem] theorem tyC_inl {x : Ty} : (tyC x).map inl0 = tyC x := (tyC_ok x).inl
@[go_sem] theorem tyC_ids {x : Ty} {m : Nat} : idsL m (tyC x) = true := (tyC_ok x).ids m
@[go_sem] theorem tyC_p1 {x : Ty} : (tyC x).all plain1 = true := (tyC_ok x).p1
@[go_sem] theorem tyC_pc {x : Ty} : (tyC x).all plainC = true := (tyC_ok x).pc
@[go_sem] theorem paC_len {x : Pa} : (paC x).length = 6 := (paC_ok x).len
@[go_sem] theorem paC_take {x : Pa} : List.take 6 (paC x) = paC x := List.take_of_length_le (by rw [paC_len]; exact Nat.le_refl _)
@[go_sem] theorem paC_drop {x : Pa} : List.drop 6 (paC x) = [] := List.drop_of_length_le (by rw [paC_len]; exact Nat.le_refl _)
@[go_sem] theorem paC_strip {x : Pa} : (paC x).map strip0 = paC x := (paC_ok x).strip
@[go_sem] theorem paC_inl {x : Pa} : (paC x).map inl0 = paC x := (paC_ok x).inl
@[go_sem] theorem paC_ids {x : Pa} {m : Nat} : idsL m (paC x) = true := (paC_ok x).ids m
@[go_sem] theorem paC_p1 {x : Pa} : (paC x).all plain1 = true := (paC_ok x).p1
@[go_sem] theorem paC_pc {x : Pa} : (paC x).all plainC = true := (paC_ok x).pc
@[go_sem] theorem exC_len {x : Ex} : (exC x).length = 9 := (exC_ok x).len
@[go_sem] theorem exC_take {x : Ex} : List.take 9 (exC x) = exC x := List.take_of_length_le (by rw [exC_len]; exact Nat.le_refl _)
@[go_sem] theorem exC_drop {x : Ex} : List.drop 9 (exC x) = [] := List.drop_of_length_le (by rw [exC_len]; exact Nat.le_refl _)
@[go_sem] theorem exC_strip {x : Ex} : (exC x).map strip0 = exC x := (exC_ok x).strip
@[go_sem] theorem exC_inl {x : Ex} : (exC x).map inl0 = exC x := (exC_ok x).inl
@[go_sem] theorem exC_ids {x : Ex} {m : Nat} : idsL m (exC x) = true := (exC_ok x).ids m
@[go_sem] theorem exC_p1 {x : Ex} : (exC x).all plain1 = true := (exC_ok x).p1
@[go_sem] theorem exC_pc {x : Ex} : (exC x).all plainC = true := (exC_ok x).pc
@[go_sem] theorem alC_len {x : Al} : (alC x).length = 7 := (alC_ok x).len
@[go_sem] theorem alC_take {x : Al} : List.take 7 (alC x) = alC x := List.take_of_length_le (by rw [alC_len]; exact Nat.le_refl _)
@[go_sem] theorem alC_drop {x : Al} : List.drop 7 (alC x) = [] := List.drop_of_length_le (by rw [alC_len]; exact Nat.le_refl _)
@[go_sem] theorem alC_strip {x : Al} : (alC x).map strip0 = alC x := (alC_ok x).strip
@[go_sem] theorem alC_inl {x : Al} : (alC x).map inl0 = alC x := (alC_ok x).inl
@[go_sem] theorem alC_ids {x : Al} {m : Nat} : idsL m (alC x) = true := (alC_ok x).ids m
@[go_sem] theorem alC_p1 {x : Al} : (alC x).all plain1 = true := (alC_ok x).p1
@[go_sem] theorem alC_pc {x : Al} : (alC x).all plainC = true := (alC_ok x).pc
@[go_sem] theorem rhC_len {x : Rh} : (rhC x).length = 10 := (rhC_ok x).len
@[go_sem] theorem rhC_take {x : Rh} : List.take 10 (rhC x) = rhC x := List.take_of_length_le (by rw [rhC_len]; exact Nat.le_refl _)
@[go_sem] theorem rhC_drop {x : Rh} : List.drop 10 (rhC x) = [] := List.drop_of_length_le (by rw [rhC_len]; exact Nat.le_refl _)
@[go_sem] theorem rhC_strip {x : Rh} : (rhC x).map strip0 = rhC x := (rhC_ok x).strip
@[go_sem] theorem rhC_inl {x : Rh} : (rhC x).map inl0 = rhC x := (rhC_ok x).inl
@[go_sem] theorem rhC_ids {x : Rh} {m : Nat} : idsL m (rhC x) = true := (rhC_ok x).ids m
@[go_sem] theorem rhC_p1 {x : Rh} : (rhC x).all plain1 = true := (rhC_ok x).p1
@[go_sem] theorem rhC_pc {x : Rh} : (rhC x).all plainC = true := (rhC_ok x).pc
@[go_sem] theorem clC_len {x : Cl} : (clC x).length = 2 := (clC_ok x).len
@[go_sem] theorem clC_take {x : Cl} : List.take 2 (clC x) = clC x := List.take_of_length_le (by rw [clC_len]; exact Nat.le_refl _)
@[go_sem] theorem clC_drop {x : Cl} : List.drop 2 (clC x) = [] := List.drop_of_length_le (by rw [clC_len]; exact Nat.le_refl _)
@[go_sem] theorem clC_strip {x : Cl} : (clC x).map strip0 = clC x := (clC_ok x).strip
@[go_sem] theorem clC_inl {x : Cl} : (clC x).map inl0 = clC x := (clC_ok x).inl
@[go_sem] theorem clC_ids {x : Cl} {m : Nat} : idsL m (clC x) = true := (clC_ok x).ids m
@[go_sem] theorem clC_p1 {x : Cl} : (clC x).all plain1 = true := (clC_ok x).p1
@[go_sem] theorem clC_pc {x : Cl} : (clC x).all plainC = true := (clC_ok x).pc
@[go_sem] theorem biC_len {x : Bi} : (biC x).length = 4 := (biC_ok x).len
@[go_sem] theorem biC_take {x : Bi} : List.take 4 (biC x) = biC x := List.take_of_length_le (by rw [biC_len]; exact Nat.le_refl _)
@[go_sem] theorem biC_drop {x : Bi} : List.drop 4 (biC x) = [] := List.drop_of_length_le (by rw [biC_len]; exact Nat.le_refl _)
@[go_sem] theorem biC_strip {x : Bi} : (biC x).map strip0 = biC x := (biC_ok x).strip
@[go_sem] theorem biC_inl {x : Bi} : (biC x).map inl0 = biC x := (biC_ok x).inl
@[go_sem] theorem biC_ids {x : Bi} {m : Nat} : idsL m (biC x) = true := (biC_ok x).ids m
@[go_sem] theorem biC_p1 {x : Bi} : (biC x).all plain1 = true := (biC_ok x).p1
@[go_sem] theorem biC_pc {x : Bi} : (biC x).all plainC = true := (biC_ok x).pc
@[go_sem] theorem tyC_thaw {x : Ty} {H : Heap} : thawL (tyC x) H = (tyC x, H) := thawL_all tyC_pc
@[go_sem] theorem paC_thaw {x : Pa} {H : Heap} : thawL (paC x) H = (paC x, H) := thawL_all paC_pc
@[go_sem] theorem exC_thaw {x : Ex} {H : Heap} : thawL (exC x) H = (exC x, H) := thawL_all exC_pc
@[go_sem] theorem alC_thaw {x : Al} {H : Heap} : thawL (alC x) H = (alC x, H) := thawL_all alC_pc
@[go_sem] theorem rhC_thaw {x : Rh} {H : Heap} : thawL (rhC x) H = (rhC x, H) := thawL_all rhC_pc
@[go_sem] theorem clC_thaw {x : Cl} {H : Heap} : thawL (clC x) H = (clC x, H) := thawL_all clC_pc
@[go_sem] theorem biC_thaw {x : Bi} {H : Heap} : thawL (biC x) H = (biC x, H) := thawL_all biC_pc
@[go_sem] theorem paC_takeA {x : Pa} {l : List V} : List.take 6 (paC x ++ l) = paC x := by rw [List.take_append_of_le_length (by rw [paC_len]; exact Nat.le_refl _), paC_take]
@[go_sem] theorem paC_dropA {x : Pa} {l : List V} : List.drop 6 (paC x ++ l) = l := by rw [List.drop_append_of_le_length (by rw [paC_len]; exact Nat.le_refl _), paC_drop, List.nil_append]
end Go.Proofs.Ytpamkokbajmjkaa.Vm
namespace Go.Proofs.Ytpamkokbajmjkaa.Vm
open Go
set_option linter.unusedSimpArgs false

def SameX (n : Nat) : Prop := ∀ (xs ys : List Ex) (p : Bool), SizeOf.sizeOf xs ≤ n → LB 144 ExB xs → LB 144 ExB ys → Pu 53 [.sl false 9 (xs.map exC), .sl false 9 (ys.map exC), .bool p] (.bool (eqB (xs.map (exN p)) (ys.map (exN p))))
def Same1 (n : Nat) : Prop := ∀ (x y : Ex) (p : Bool), SizeOf.sizeOf x ≤ n → ExB x → ExB y → Pu 22 [.agg (exC x), .agg (exC y), .bool p] (.bool (eqB (exN p x) (exN p y)))
def SameR (n : Nat) : Prop := ∀ (xs ys : List Rh) (p : Bool), SizeOf.sizeOf xs ≤ n → LB 168 RhB xs → LB 168 RhB ys → Pu 52 [.sl false 10 (xs.map rhC), .sl false 10 (ys.map rhC), .bool p] (.bool (eqB (xs.map (rhN p)) (ys.map (rhN p))))
def SameB (n : Nat) : Prop := ∀ (xs ys : List Bi) (p : Bool), SizeOf.sizeOf xs ≤ n → LB 56 BiB xs → LB 56 BiB ys → Pu 33 [.sl false 4 (xs.map biC), .sl false 4 (ys.map biC), .bool p] (.bool (eqB (xs.map (biN p)) (ys.map (biN p))))
theorem size_get {α : Type} [SizeOf α] {l : List α} {i : Nat} {x : α} (h : l[i]? = some x) : SizeOf.sizeOf x < SizeOf.sizeOf l := List.sizeOf_lt_of_mem (List.mem_of_getElem? h)
theorem get_lt {α : Type} {l : List α} {i : Nat} (h : i < l.length) : ∃ x, l[i]? = some x ∧ x ∈ l := ⟨_, List.getElem?_eq_getElem h, List.getElem_mem h⟩

theorem sameX_step {n : Nat} (h1 : Same1 n) : SameX (n + 1) := by
  intro xs ys p hn hx hy
  refine ⟨?_, rfl⟩
  refine T.of0 mix c_r06_SameExprs rfl ?_
  unfold v_r06_SameExprs
  simp only [go_sem, ↓reduceIte, neq_len, eq_len, Decidable.not_not]
  refine ⟨fun h => by rw [eqB_false fun e => h (by simpa using congrArg List.length e)], fun hlen => ?_⟩
  have hb := hx.lt
  refine WP.range (n := xs.length) (fun i E F => (xs.map (exN p)).take i = (ys.map (exN p)).take i ∧ ∃ ex, E = ⟨(0, .sl false 9 (xs.map exC)) :: (1, .sl false 9 (ys.map exC)) :: (2, .bool p) :: (7, .int .i64 i) :: ex, .u⟩) ⟨rfl, _, rfl⟩ ?_
  rintro i E F hi ⟨htk, ex, rfl⟩
  have hw := inc64 (i := i) (by omega)
  simp only [go_sem, ↓reduceIte, ↓ex_map, ↓run_addW, hw, Int.toNat_natCast, lt_len]
  refine ⟨fun hlt => ?_, fun hge => by rw [eqB_true (take_all htk (by simpa using hge) (by simpa using hlen))]⟩
  obtain ⟨x, hg, hxm⟩ := get_lt hlt
  obtain ⟨y, hg', hym⟩ := get_lt (show i < ys.length by omega)
  have hsz := size_get hg
  have hnx := take_next htk (map_get hg) (map_get hg')
  have hne := take_ne (map_get (f := exN p) hg) (map_get (f := exN p) hg')
  have hT := h1 x y p (by omega) (hx.2 x hxm) (hy.2 y hym)
  simp only [go_sem, ↓reduceIte, ↓ex_map, ↓run_addW, hw, Int.toNat_natCast, lt_len, hg, hg', Nat.le_refl]
  refine ⟨_, _, hT.at (by simp only [go_sem]) _, ?_⟩
  simp only [go_sem, ↓reduceIte, ↓run_addW, hw, Bool.not_eq_true', Bool.not_eq_false']
  refine ⟨fun h => by rw [eqB_false (hne fun e => by rw [eqB_true e] at h; cases h)], fun h => ⟨hlt, hnx.2 (eqB_iff.1 (by simpa using h)), _, rfl⟩⟩

theorem sameR_step {n : Nat} (hX : SameX n) (h1 : Same1 n) : SameR (n + 1) := by
  intro xs ys p hn hx hy
  refine ⟨?_, rfl⟩
  refine T.of0 mix c_r06_SameRhs rfl ?_
  unfold v_r06_SameRhs
  simp only [go_sem, ↓reduceIte, neq_len, eq_len, Decidable.not_not]
  refine ⟨fun h => by rw [eqB_false fun e => h (by simpa using congrArg List.length e)], fun hlen => ?_⟩
  have hb := hx.lt
  refine WP.range (n := xs.length) (fun i E F => (xs.map (rhN p)).take i = (ys.map (rhN p)).take i ∧ ∃ ex, E = ⟨(0, .sl false 10 (xs.map rhC)) :: (1, .sl false 10 (ys.map rhC)) :: (2, .bool p) :: (7, .int .i64 i) :: ex, .u⟩) ⟨rfl, _, rfl⟩ ?_
  rintro i E F hi ⟨htk, ex, rfl⟩
  have hw := inc64 (i := i) (by omega)
  simp only [go_sem, ↓reduceIte, ↓ex_map, ↓run_addW, hw, Int.toNat_natCast, lt_len]
  refine ⟨fun hlt => ?_, fun hge => by rw [eqB_true (take_all htk (by simpa using hge) (by simpa using hlen))]⟩
  obtain ⟨⟨g, b⟩, hg, hxm⟩ := get_lt hlt
  obtain ⟨⟨g', b'⟩, hg', hym⟩ := get_lt (show i < ys.length by omega)
  have hsz := size_get hg
  simp only [Rh.mk.sizeOf_spec] at hsz
  have hnx := take_next htk (map_get hg) (map_get hg')
  have hne := take_ne (map_get (f := rhN p) hg) (map_get (f := rhN p) hg')
  cases hx.2 _ hxm with | mk b1 b2 b3 => cases hy.2 _ hym with | mk b4 b5 b6 =>
  have hT := hX g g' p (by omega) ⟨b1, b2⟩ ⟨b4, b5⟩
  have hT2 := h1 b b' p (by omega) b3 b6
  have hno : ¬ (rhN p (Rh.mk g b) = rhN p (Rh.mk g' b')) → V.bool false = V.bool (eqB (xs.map (rhN p)) (ys.map (rhN p))) := fun h => by rw [eqB_false (hne h)]
  simp only [rhN_eq, Rh.mk.injEq] at hno hnx
  simp only [rhC_eq, go_sem, ↓reduceIte, ↓ex_map, ↓run_addW, hw, Int.toNat_natCast, lt_len, hg, hg', Nat.le_refl]
  refine ⟨_, _, hT.at (by simp only [go_sem]) _, ?_⟩
  simp only [rhC_eq, go_sem, ↓reduceIte, ↓ex_map, ↓run_addW, hw, Int.toNat_natCast, lt_len, hg, hg', Nat.le_refl, Bool.not_eq_true', Bool.not_eq_false']
  refine ⟨fun h => ⟨_, _, hT2.at (by simp only [go_sem]) _, ?_⟩, fun h => hno (fun e => by rw [eqB_true e.1] at h; cases h)⟩
  simp only [go_sem, ↓reduceIte, ↓run_addW, hw, Bool.not_eq_true', Bool.not_eq_false']
  refine ⟨fun h => hno (fun e => by rw [eqB_true e.2] at h; cases h), fun h2 => ⟨hlt, hnx.2 ⟨eqB_iff.1 (by simpa using h), eqB_iff.1 (by simpa using h2)⟩, _, rfl⟩⟩

set_option maxRecDepth 4000 in
theorem sameE_step {n : Nat} (hX : SameX n) (hR : SameR n) (hB : SameB n) : Same1 (n + 1) := by
  rintro ⟨k, s, m, ps, xs, al, bs, l, c⟩ ⟨k', s', m', ps', xs', al', bs', l', c'⟩ p hn hx hy
  simp only [Ex.mk.sizeOf_spec] at hn
  cases hx with | mk a1 a2 a3 a4 a5 a6 a7 => cases hy with | mk b1 b2 b3 b4 b5 b6 b7 =>
  refine ⟨?_, by simp only [idsL, idsV, exC_ids, Bool.and_self]⟩
  refine T.of0 mix c_r06_SameExpr rfl ?_
  unfold v_r06_SameExpr
  have hno : ¬ (exN p (Ex.mk k s m ps xs al bs l c) = exN p (Ex.mk k' s' m' ps' xs' al' bs' l' c')) → V.bool false = V.bool (eqB (exN p (Ex.mk k s m ps xs al bs l c)) (exN p (Ex.mk k' s' m' ps' xs' al' bs' l' c'))) := fun h => by rw [eqB_false h]
  have hyes : (exN p (Ex.mk k s m ps xs al bs l c) = exN p (Ex.mk k' s' m' ps' xs' al' bs' l' c')) → V.bool true = V.bool (eqB (exN p (Ex.mk k s m ps xs al bs l c)) (exN p (Ex.mk k' s' m' ps' xs' al' bs' l' c'))) := fun h => by rw [eqB_true h]
  generalize hres : eqB (exN p (Ex.mk k s m ps xs al bs l c)) (exN p (Ex.mk k' s' m' ps' xs' al' bs' l' c')) = res at hno hyes ⊢
  simp only [exN_eq, Ex.mk.injEq, plN_iff] at hno hyes
  have hTX := hX xs xs' p (by omega) ⟨a2, a5⟩ ⟨b2, b5⟩
  have hTB := hB bs bs' p (by omega) ⟨a4, a7⟩ ⟨b4, b7⟩
  simp only [exC_eq, go_sem, ↓reduceIte]
  generalize hL : WP Try.prog (VCode.loop _) _ _ _ = L
  have main : k = k' → s = s' → m = m' → (p = true → l = l' ∧ c = c') → ps.length = ps'.length → al.length = al'.length → L := by
    intro e1 e2 e3 e4 e5 e6
    rw [← hL]
    have hbp : ps.length < 4611686018427387903 := by omega
    refine WP.range (n := ps.length) (fun i E F => ps.take i = ps'.take i ∧ F = [.cells 0 (exC (.mk k s m ps xs al bs l c)), .cells 0 (exC (.mk k' s' m' ps' xs' al' bs' l' c'))] ∧
      ∃ ex, E = ⟨(2, .bool p) :: (3, .ptr 0 0 0) :: (4, .ptr 1 0 0) :: (7, .int .i64 i) :: ex, .u⟩) ⟨rfl, by rw [exC_eq, exC_eq], _, rfl⟩ ?_
    rintro i E F hi ⟨htk, rfl, ex, rfl⟩
    have hw := inc64 (i := i) (by omega)
    simp only [exC_eq, go_sem, ↓reduceIte, ↓ex_map, ↓run_addW, hw, Int.toNat_natCast, lt_len]
    refine ⟨fun hlt => ?_, fun hge => ?_⟩
    · obtain ⟨x, hg, _⟩ := get_lt hlt
      obtain ⟨y, hg', _⟩ := get_lt (show i < ps'.length by omega)
      have hnx := take_next htk hg hg'
      have hne := take_ne hg hg'
      simp only [stC_eq, go_sem, ↓reduceIte, ↓ex_map, ↓run_addW, hw, Int.toNat_natCast, lt_len, hg, hg', nbeq, Decidable.not_not]
      exact ⟨fun h => hno fun e => hne h e.2.2.2.1, fun h => ⟨hlt, hnx.2 h, _, rfl⟩⟩
    · have hps : ps = ps' := take_all htk (by omega) e5
      refine WP.range (n := al.length) (fun i E F => (al.map (alN p)).take i = (al'.map (alN p)).take i ∧ F = [.cells 0 (exC (.mk k s m ps xs al bs l c)), .cells 0 (exC (.mk k' s' m' ps' xs' al' bs' l' c'))] ∧
        ∃ ex, E = ⟨(2, .bool p) :: (3, .ptr 0 0 0) :: (4, .ptr 1 0 0) :: (8, .int .i64 i) :: ex, .u⟩) ⟨rfl, by rw [exC_eq, exC_eq], _, rfl⟩ ?_
      rintro i E F hi ⟨htk, rfl, ex, rfl⟩
      have hw := inc64 (i := i) (by omega)
      simp only [exC_eq, go_sem, ↓reduceIte, ↓ex_map, ↓run_addW, hw, Int.toNat_natCast, lt_len]
      refine ⟨fun hlt => ?_, fun hge => ?_⟩
      · obtain ⟨⟨q, rs⟩, hg, hm⟩ := get_lt hlt
        obtain ⟨⟨q', rs'⟩, hg', hm'⟩ := get_lt (show i < al'.length by omega)
        have hsz := size_get hg
        simp only [Al.mk.sizeOf_spec] at hsz
        have hnx := take_next htk (map_get hg) (map_get hg')
        have hne := take_ne (map_get (f := alN p) hg) (map_get (f := alN p) hg')
        cases a6 _ hm with | mk c1 c2 c3 => cases b6 _ hm' with | mk d1 d2 d3 =>
        have hT := SamePats_T _ [q] [q'] p (Nat.le_refl _) ⟨by simp, by simpa using c1⟩ ⟨by simp, by simpa using d1⟩
        have hT2 := hR rs rs' p (by omega) ⟨c2, c3⟩ ⟨d2, d3⟩
        have hno2 : ¬ (alN p (Al.mk q rs) = alN p (Al.mk q' rs')) → V.bool false = V.bool res := fun h => hno fun e => hne h e.2.2.2.2.2.1
        simp only [alN_eq, Al.mk.injEq] at hno2 hnx
        simp only [alC_eq, go_sem, ↓reduceIte, ↓ex_map, ↓run_addW, hw, lt_len, hg, hg']
        refine ⟨_, _, hT.at (by simp only [go_sem]) _, ?_⟩
        simp only [alC_eq, go_sem, ↓reduceIte, ↓ex_map, ↓run_addW, hw, lt_len, hg, hg', Bool.not_eq_true', Bool.not_eq_false']
        refine ⟨fun h => ⟨_, _, hT2.at (by simp only [go_sem]) _, ?_⟩, fun h => hno2 (fun e => by rw [e.1, eqB_true rfl] at h; cases h)⟩
        simp only [go_sem, ↓reduceIte, ↓run_addW, hw, Bool.not_eq_true', Bool.not_eq_false']
        refine ⟨fun h2 => hno2 (fun e => by rw [eqB_true e.2] at h2; cases h2), fun h2 => ⟨hlt, hnx.2 ⟨(List.cons.inj (eqB_iff.1 (by simpa using h))).1, eqB_iff.1 (by simpa using h2)⟩, _, rfl⟩⟩
      · have hal : al.map (alN p) = al'.map (alN p) := take_all htk (by simpa using hge) (by simpa using e6)
        refine ⟨_, _, hTX.at rfl _, ?_⟩
        simp only [go_sem, ↓reduceIte, ↓run_addW, hw, Bool.not_eq_true', Bool.not_eq_false']
        refine ⟨fun h => ⟨_, _, hTB.at rfl _, ?_⟩, fun h => hno fun e => by rw [eqB_true e.2.2.2.2.1] at h; cases h⟩
        simp only [go_sem, ↓reduceIte, ↓run_addW, hw, Bool.not_eq_true', Bool.not_eq_false']
        have h' := eqB_iff.1 h
        cases hb : eqB (bs.map (biN p)) (bs'.map (biN p)) with
        | true => exact hyes ⟨e1, e2, e3, hps, h', hal, eqB_iff.1 hb, e4⟩
        | false => exact hno fun e => by rw [eqB_true e.2.2.2.2.2.2.1] at hb; cases hb
  clear hL
  have w1 : ∀ {α : Type} [BEq α] [LawfulBEq α] {a b : α}, (a != b) = false → a = b := by intro α _ _ a b h; simpa using h
  have w2 : ∀ {α : Type} [BEq α] [LawfulBEq α] {a b : α}, ¬ (a != b) = false → ¬ a = b := by intro α _ _ a b h; simpa using h
  have w3 : ¬ (((l == l' && (c == c' && true)) != true) = false) → ¬ (l = l' ∧ c = c') := by intro h; simpa using h
  have w4 : ((l == l' && (c == c' && true)) != true) = false → l = l' ∧ c = c' := by intro h; simpa using h
  have w5 : ∀ {a b : Nat}, ((a : Int) != (b : Int)) = false → a = b := by intro a b h; have := w1 h; omega
  refine ⟨fun q1 => ⟨fun q2 => ⟨fun q3 => ⟨fun hp => ⟨fun q4 => ⟨fun q5 => ⟨fun q6 => hno fun e => ?_, fun q6 => main (w1 q1) (by simpa using q2) (w1 q3) (fun _ => w4 q4) (w5 q5) (w5 q6)⟩, fun q5 => hno fun e => ?_⟩, fun q4 => hno fun e => w3 q4 (e.2.2.2.2.2.2.2 hp)⟩,
    fun hp => ⟨fun q5 => ⟨fun q6 => hno fun e => ?_, fun q6 => main (w1 q1) (by simpa using q2) (w1 q3) (fun h => by rw [hp] at h; cases h) (w5 q5) (w5 q6)⟩, fun q5 => hno fun e => ?_⟩⟩, fun q3 => hno fun e => w2 q3 e.2.2.1⟩, fun q2 => hno fun e => by simp [e.2.1] at q2⟩, fun q1 => hno fun e => w2 q1 e.1⟩
  all_goals
    first
      | (have := congrArg List.length e.2.2.2.2.2.1; simp only [List.length_map] at this; rw [this] at q6; simp at q6; done)
      | (rw [e.2.2.2.1] at q5; simp at q5; done)

set_option maxRecDepth 4000 in
theorem sameB_step {n : Nat} (hR : SameR n) : SameB (n + 1) := by
  intro xs ys p hn hx hy
  refine ⟨?_, rfl⟩
  refine T.of0 mix c_r06_SameBinds rfl ?_
  unfold v_r06_SameBinds
  simp only [go_sem, ↓reduceIte, neq_len, eq_len, Decidable.not_not]
  refine ⟨fun h => by rw [eqB_false fun e => h (by simpa using congrArg List.length e)], fun hlen => ?_⟩
  have hb := hx.lt
  refine WP.range (n := xs.length) (fun i E F => (xs.map (biN p)).take i = (ys.map (biN p)).take i ∧ ∃ ex, E = ⟨(0, .sl false 4 (xs.map biC)) :: (1, .sl false 4 (ys.map biC)) :: (2, .bool p) :: (7, .int .i64 i) :: ex, .u⟩) ⟨rfl, _, rfl⟩ ?_
  rintro i E F hi ⟨htk, ex, rfl⟩
  have hw := inc64 (i := i) (by omega)
  simp only [go_sem, ↓reduceIte, ↓ex_map, ↓run_addW, hw, lt_len]
  refine ⟨fun hlt => ?_, fun hge => by rw [eqB_true (take_all htk (by simpa using hge) (by simpa using hlen))]⟩
  obtain ⟨⟨s, cs, l, c⟩, hg, hxm⟩ := get_lt hlt
  obtain ⟨⟨s', cs', l', c'⟩, hg', hym⟩ := get_lt (show i < ys.length by omega)
  have hsz := size_get hg
  simp only [Bi.mk.sizeOf_spec] at hsz
  have hnx := take_next htk (map_get hg) (map_get hg')
  have hne := take_ne (map_get (f := biN p) hg) (map_get (f := biN p) hg')
  cases hx.2 _ hxm with | mk b1 b2 => cases hy.2 _ hym with | mk b3 b4 =>
  have hno : ¬ (biN p (Bi.mk s cs l c) = biN p (Bi.mk s' cs' l' c')) → V.bool false = V.bool (eqB (xs.map (biN p)) (ys.map (biN p))) := fun h => by rw [eqB_false (hne h)]
  generalize eqB (xs.map (biN p)) (ys.map (biN p)) = res at hno ⊢
  simp only [biN_eq, Bi.mk.injEq, plN_iff] at hno hnx
  simp only [biC_eq, go_sem, ↓reduceIte, ↓ex_map, ↓run_addW, hw, lt_len, hg, hg', holeAt_app, gc_app0, gc_appN, set_app0, set_appN, List.append_assoc]
  generalize hL : WP Try.prog (VCode.loop _) _ _ _ = L
  have main : s = s' → (p = true → l = l' ∧ c = c') → cs.length = cs'.length → L := by
    intro e1 e2 e3
    rw [← hL]
    have hbc : cs.length < 4611686018427387903 := by omega
    refine WP.range (n := cs.length) (fun j E G => (cs.map (clN p)).take j = (cs'.map (clN p)).take j ∧ G = F ++ [.cells 1 (biC (.mk s cs l c)), .cells 1 (biC (.mk s' cs' l' c'))] ∧
      ∃ ex, E = ⟨(0, .sl false 4 (xs.map biC)) :: (1, .sl false 4 (ys.map biC)) :: (2, .bool p) :: (7, .int .i64 i) :: (8, .ptr F.length 1 0) :: (9, .ptr (F.length + 1) 1 0) :: (10, .int .i64 j) :: ex, .u⟩) ⟨rfl, by rw [biC_eq, biC_eq], _, rfl⟩ ?_
    rintro j E G hj ⟨htj, rfl, ex, rfl⟩
    have hw2 := inc64 (i := j) (by omega)
    simp only [biC_eq, go_sem, ↓reduceIte, ↓ex_map, ↓run_addW, hw, hw2, lt_len, gc_app0, gc_appN]
    refine ⟨fun hlj => ?_, fun hgj => ?_⟩
    · obtain ⟨⟨q, rs⟩, kg, hm⟩ := get_lt hlj
      obtain ⟨⟨q', rs'⟩, kg', hm'⟩ := get_lt (show j < cs'.length by omega)
      have hsz2 := size_get kg
      simp only [Cl.mk.sizeOf_spec] at hsz2
      have hnx2 := take_next htj (map_get kg) (map_get kg')
      have hne2 := take_ne (map_get (f := clN p) kg) (map_get (f := clN p) kg')
      cases b2 _ hm with | mk c1 c2 c3 c4 => cases b4 _ hm' with | mk d1 d2 d3 d4 =>
      have hT := SamePats_T _ q q' p (Nat.le_refl _) ⟨c1, c2⟩ ⟨d1, d2⟩
      have hT2 := hR rs rs' p (by omega) ⟨c3, c4⟩ ⟨d3, d4⟩
      have hno2 : ¬ (clN p (Cl.mk q rs) = clN p (Cl.mk q' rs')) → V.bool false = V.bool res := fun h => hno fun e => hne2 h e.2.1
      simp only [clN_eq, Cl.mk.injEq] at hno2 hnx2
      simp only [biC_eq, clC_eq, go_sem, ↓reduceIte, ↓ex_map, ↓run_addW, hw2, lt_len, kg, kg', gc_app0, gc_appN]
      refine ⟨_, _, hT.at rfl _, ?_⟩
      simp only [biC_eq, clC_eq, go_sem, ↓reduceIte, ↓ex_map, ↓run_addW, hw2, lt_len, kg, kg', gc_app0, gc_appN, Bool.not_eq_true', Bool.not_eq_false']
      refine ⟨fun h => ⟨_, _, hT2.at rfl _, ?_⟩, fun h => hno2 (fun e => by rw [eqB_true e.1] at h; cases h)⟩
      simp only [go_sem, ↓reduceIte, ↓run_addW, hw2, Bool.not_eq_true', Bool.not_eq_false']
      refine ⟨fun h2 => hno2 (fun e => by rw [eqB_true e.2] at h2; cases h2), fun h2 => ⟨hlj, hnx2.2 ⟨eqB_iff.1 (by simpa using h), eqB_iff.1 (by simpa using h2)⟩, _, rfl⟩⟩
    · exact ⟨hlt, hnx.2 ⟨e1, take_all htj (by simpa using hgj) (by simpa using e3), e2⟩, _, rfl⟩
  clear hL
  have w1 : ∀ {α : Type} [BEq α] [LawfulBEq α] {a b : α}, (a != b) = false → a = b := by intro α _ _ a b h; simpa using h
  have w3 : ¬ (((l == l' && (c == c' && true)) != true) = false) → ¬ (l = l' ∧ c = c') := by intro h; simpa using h
  have w4 : ((l == l' && (c == c' && true)) != true) = false → l = l' ∧ c = c' := by intro h; simpa using h
  have w5 : ∀ {a b : Nat}, ((a : Int) != (b : Int)) = false → a = b := by intro a b h; have := w1 h; omega
  have w6 : (((cs.length : Int) != (cs'.length : Int)) = true) → ¬ cs.map (clN p) = cs'.map (clN p) := by
    intro h e; have := congrArg List.length e; simp only [List.length_map] at this; rw [this] at h; simp at h
  refine ⟨by omega, fun q1 => ⟨fun hp => ⟨fun q4 => ⟨fun q5 => hno fun e => w6 q5 e.2.1, fun q5 => main (by simpa using q1) (fun _ => w4 q4) (w5 q5)⟩, fun q4 => hno fun e => w3 q4 (e.2.2 hp)⟩,
    fun hp => ⟨fun q5 => hno fun e => w6 q5 e.2.1, fun q5 => main (by simpa using q1) (fun h => by rw [hp] at h; cases h) (w5 q5)⟩⟩, fun q1 => hno fun e => by simp [e.1] at q1⟩

theorem same_all (n : Nat) : SameX n ∧ Same1 n ∧ SameR n ∧ SameB n := by
  induction n with
  | zero =>
    refine ⟨?_, ?_, ?_, ?_⟩
    · intro xs ys p h; cases xs <;> simp at h
    · intro x y p h; cases x; simp at h
    · intro xs ys p h; cases xs <;> simp at h
    · intro xs ys p h; cases xs <;> simp at h
  | succ n ih => exact ⟨sameX_step ih.2.1, sameE_step ih.1 ih.2.2.1 ih.2.2.2, sameR_step ih.1 ih.2.1, sameB_step ih.2.2.1⟩
theorem SameExpr_T (x y : Ex) (p : Bool) (hx : ExB x) (hy : ExB y) : Pu 22 [.agg (exC x), .agg (exC y), .bool p] (.bool (eqB (exN p x) (exN p y))) := (same_all _).2.1 x y p (Nat.le_refl _) hx hy
theorem SameBinds_T (xs ys : List Bi) (p : Bool) (hx : LB 56 BiB xs) (hy : LB 56 BiB ys) : Pu 33 [.sl false 4 (xs.map biC), .sl false 4 (ys.map biC), .bool p] (.bool (eqB (xs.map (biN p)) (ys.map (biN p)))) := (same_all _).2.2.2 xs ys p (Nat.le_refl _) hx hy
end Go.Proofs.Ytpamkokbajmjkaa.Vm
namespace Go.Proofs.Ytpamkokbajmjkaa.Vm
open Go
set_option linter.unusedSimpArgs false

structure Co where
  s : Str
  fs : List Ty
  l : Int
  c : Int
structure Da where
  s : Str
  ps : List Str
  cs : List Co
  l : Int
  c : Int
structure Fx where
  s : Str
  a : Int
  v : Int
  l : Int
  c : Int
structure Pr where
  ds : List Da
  fs : List Fx
  bs : List Bi
def coC (x : Co) : List V := [.str x.s, .sl false 4 (x.fs.map tyC), .int .i64 x.l, .int .i64 x.c]
def daC (x : Da) : List V := [.str x.s, .sl false 1 (x.ps.map stC), .sl false 4 (x.cs.map coC), .int .i64 x.l, .int .i64 x.c]
def fxC (x : Fx) : List V := [.str x.s, .int .i64 x.a, .int .i64 x.v, .int .i64 x.l, .int .i64 x.c]
def prC (x : Pr) : List V := [.sl false 5 (x.ds.map daC), .sl false 5 (x.fs.map fxC), .sl false 4 (x.bs.map biC)]
def coN (p : Bool) (x : Co) : Co := ⟨x.s, x.fs, plN p x.l, plN p x.c⟩
def daN (p : Bool) (x : Da) : Da := ⟨x.s, x.ps, x.cs.map (coN p), plN p x.l, plN p x.c⟩
def fxN (p : Bool) (x : Fx) : Fx := ⟨x.s, x.a, x.v, plN p x.l, plN p x.c⟩
def prN (p : Bool) (x : Pr) : Pr := ⟨x.ds.map (daN p), x.fs.map (fxN p), x.bs.map (biN p)⟩
structure CoB (x : Co) : Prop where
  h : LB 56 TyB x.fs
structure DaB (x : Da) : Prop where
  h1 : x.ps.length * 16 ≤ 140737488355328
  h2 : LB 56 CoB x.cs
structure PrB (x : Pr) : Prop where
  h1 : LB 80 DaB x.ds
  h2 : LB 48 (fun _ => True) x.fs
  h3 : LB 56 BiB x.bs
theorem prC_ok (x : Pr) : Cells 3 (prC x) := cells_of rfl rfl rfl (fun _ => rfl) rfl rfl
theorem coC_ok (x : Co) : Cells 4 (coC x) := cells_of rfl rfl rfl (fun _ => rfl) rfl rfl
theorem daC_ok (x : Da) : Cells 5 (daC x) := cells_of rfl rfl rfl (fun _ => rfl) rfl rfl
theorem fxC_ok (x : Fx) : Cells 5 (fxC x) := cells_of rfl rfl rfl (fun _ => rfl) rfl rfl
@[go_sem] theorem prC_inl {x : Pr} : (prC x).map inl0 = prC x := (prC_ok x).inl
@[go_sem] theorem prC_ids {x : Pr} {m : Nat} : idsL m (prC x) = true := (prC_ok x).ids m

/-- An object that stands. -/
structure Has (G : Heap) (a v : Nat) (cs : List V) : Prop where
  lt : a < G.length
  get : getCells G a v = some cs
theorem Has.app {G : Heap} {a v : Nat} {cs : List V} (h : Has G a v cs) (l : Heap) : getCells (G ++ l) a v = some cs := by rw [gc_app h.lt, h.get]
theorem Has.more {G : Heap} {a v : Nat} {cs : List V} (h : Has G a v cs) (l : Heap) : Has (G ++ l) a v cs := ⟨by have := h.lt; simp; omega, h.app l⟩
theorem has_app0 {F l : Heap} {v : Nat} {cs : List V} : Has (F ++ .cells v cs :: l) F.length v cs := ⟨by simp, by rw [gc_app0]; exact gc_hit⟩
theorem has_app1 {F l : Heap} {o : Obj} {v : Nat} {cs : List V} : Has (F ++ o :: .cells v cs :: l) (F.length + 1) v cs := ⟨by simp, by rw [gc_appN, gc_next]; exact gc_hit⟩
theorem w_eq {α : Type} [BEq α] [LawfulBEq α] {a b : α} (h : (a != b) = false) : a = b := by simpa using h
theorem w_ne {α : Type} [BEq α] [LawfulBEq α] {a b : α} (h : ¬ (a != b) = false) : ¬ a = b := by simpa using h
theorem w_pl {l l' c c' : Int} (h : ¬ (((l == l' && (c == c' && true)) != true) = false)) : ¬ (l = l' ∧ c = c') := by simpa using h
theorem w_pl' {l l' c c' : Int} (h : ((l == l' && (c == c' && true)) != true) = false) : l = l' ∧ c = c' := by simpa using h
theorem w_len {a b : Nat} (h : ((a : Int) != (b : Int)) = false) : a = b := by have := w_eq h; omega
theorem w_lenN {α β : Type} {f : α → β} {a b : List α} (h : (((a.length : Int) != (b.length : Int)) = true)) : ¬ a.map f = b.map f := by
  intro e; have := congrArg List.length e; simp only [List.length_map] at this; rw [this] at h; simp at h
theorem w_lenN' {α β : Type} {f : α → β} {a b : List α} (h : ¬ (((a.length : Int) != (b.length : Int)) = false)) : ¬ a.map f = b.map f := w_lenN (by simpa using h)

set_option maxRecDepth 6000 in
theorem sameDatas_T (xs ys : List Da) (p : Bool) (hx : LB 80 DaB xs) (hy : LB 80 DaB ys) : Pu 32 [.sl false 5 (xs.map daC), .sl false 5 (ys.map daC), .bool p] (.bool (eqB (xs.map (daN p)) (ys.map (daN p)))) := by
  refine ⟨?_, rfl⟩
  refine T.of0 mix c_r06_sameDatas rfl ?_
  unfold v_r06_sameDatas
  simp only [go_sem, ↓reduceIte, neq_len, eq_len, Decidable.not_not]
  refine ⟨fun h => by rw [eqB_false fun e => h (by simpa using congrArg List.length e)], fun hlen => ?_⟩
  have hb := hx.lt
  refine WP.range (n := xs.length) (fun i E F => (xs.map (daN p)).take i = (ys.map (daN p)).take i ∧ ∃ ex, E = ⟨(0, .sl false 5 (xs.map daC)) :: (1, .sl false 5 (ys.map daC)) :: (2, .bool p) :: (7, .int .i64 i) :: ex, .u⟩) ⟨rfl, _, rfl⟩ ?_
  rintro i E F hi ⟨htk, ex, rfl⟩
  have hw := inc64 (i := i) (by omega)
  simp only [go_sem, ↓reduceIte, ↓ex_map, ↓run_addW, hw, lt_len]
  refine ⟨fun hlt => ?_, fun hge => by rw [eqB_true (take_all htk (by simpa using hge) (by simpa using hlen))]⟩
  obtain ⟨⟨s, ps, cs, l, c⟩, hg, hxm⟩ := get_lt hlt
  obtain ⟨⟨s', ps', cs', l', c'⟩, hg', hym⟩ := get_lt (show i < ys.length by omega)
  have hnx := take_next htk (map_get hg) (map_get hg')
  have hne := take_ne (map_get (f := daN p) hg) (map_get (f := daN p) hg')
  obtain ⟨b1, b2, b3⟩ := hx.2 _ hxm
  obtain ⟨d1, d2, d3⟩ := hy.2 _ hym
  simp only at b1 b2 b3 d1 d2 d3
  have hno : ¬ (daN p (Da.mk s ps cs l c) = daN p (Da.mk s' ps' cs' l' c')) → V.bool false = V.bool (eqB (xs.map (daN p)) (ys.map (daN p))) := fun h => by rw [eqB_false (hne h)]
  generalize eqB (xs.map (daN p)) (ys.map (daN p)) = res at hno ⊢
  simp only [daN, Da.mk.injEq, plN_iff] at hno hnx
  simp only [daC, go_sem, ↓reduceIte, ↓ex_map, ↓run_addW, hw, lt_len, hg, hg', holeAt_app, gc_app0, gc_appN, set_app0, set_appN, List.append_assoc]
  generalize hL : WP Try.prog (VCode.loop _) _ _ _ = L
  have main : s = s' → (p = true → l = l' ∧ c = c') → ps.length = ps'.length → cs.length = cs'.length → L := by
    intro e1 e2 e3 e4
    rw [← hL]
    refine WP.range (n := ps.length) (fun j E G => ps.take j = ps'.take j ∧ G = F ++ [.cells 1 (daC (.mk s ps cs l c)), .cells 1 (daC (.mk s' ps' cs' l' c'))] ∧
      ∃ ex, E = ⟨(0, .sl false 5 (xs.map daC)) :: (1, .sl false 5 (ys.map daC)) :: (2, .bool p) :: (7, .int .i64 i) :: (8, .ptr F.length 1 0) :: (9, .ptr (F.length + 1) 1 0) :: (10, .int .i64 j) :: ex, .u⟩) ⟨rfl, rfl, _, rfl⟩ ?_
    rintro j E G hj ⟨htj, rfl, ex, rfl⟩
    have hw2 := inc64 (i := j) (by omega)
    simp only [daC, go_sem, ↓reduceIte, ↓ex_map, ↓run_addW, hw, hw2, lt_len, gc_app0, gc_appN]
    refine ⟨fun hlj => ?_, fun hgj => ?_⟩
    · obtain ⟨u, kg, _⟩ := get_lt hlj
      obtain ⟨u', kg', _⟩ := get_lt (show j < ps'.length by omega)
      have hnx2 := take_next htj kg kg'
      have hne2 := take_ne kg kg'
      simp only [stC_eq, go_sem, ↓reduceIte, ↓ex_map, ↓run_addW, hw2, lt_len, kg, kg', nbeq, Decidable.not_not, gc_app0, gc_appN]
      exact ⟨fun h => hno fun e => hne2 h e.2.1, fun h => ⟨hlj, hnx2.2 h, _, rfl⟩⟩
    · have hps : ps = ps' := take_all htj (by omega) e3
      have hbc := b2
      have hcl := (show LB 56 CoB cs from ⟨b2, b3⟩).lt
      refine WP.range (n := cs.length) (fun j E G => (cs.map (coN p)).take j = (cs'.map (coN p)).take j ∧ Has G F.length 1 (daC (.mk s ps cs l c)) ∧ Has G (F.length + 1) 1 (daC (.mk s' ps' cs' l' c')) ∧
        ∃ ex, E = ⟨(0, .sl false 5 (xs.map daC)) :: (1, .sl false 5 (ys.map daC)) :: (2, .bool p) :: (7, .int .i64 i) :: (8, .ptr F.length 1 0) :: (9, .ptr (F.length + 1) 1 0) :: (11, .int .i64 j) :: ex, .u⟩) ⟨rfl, has_app0, has_app1, _, rfl⟩ ?_
      rintro j E G hj ⟨htj, hA, hB, ex, rfl⟩
      have hw2 := inc64 (i := j) (by omega)
      have hA0 := hA.get
      have hB0 := hB.get
      have hA1 := hA.app
      have hB1 := hB.app
      have hAl := hA.lt
      have hBl := hB.lt
      simp only [daC] at hA0 hB0 hA1 hB1
      simp only [go_sem, ↓reduceIte, ↓ex_map, ↓run_addW, hw, hw2, lt_len, hA0, hB0]
      refine ⟨fun hlj => ?_, fun hgj => ?_⟩
      · obtain ⟨⟨q, fs, a, b⟩, kg, hm⟩ := get_lt hlj
        obtain ⟨⟨q', fs', a', b'⟩, kg', hm'⟩ := get_lt (show j < cs'.length by omega)
        have hT := SameTypes_T _ fs fs' (Nat.le_refl _) (b3 _ hm).h (d3 _ hm').h
        have hnx2 := take_next htj (map_get kg) (map_get kg')
        have hne2 := take_ne (map_get (f := coN p) kg) (map_get (f := coN p) kg')
        have hno2 : ¬ (coN p (Co.mk q fs a b) = coN p (Co.mk q' fs' a' b')) → V.bool false = V.bool res := fun h => hno fun e => hne2 h e.2.2.1
        simp only [coN, Co.mk.injEq, plN_iff] at hno2 hnx2
        cases p
        · simp only [coC, go_sem, ↓reduceIte, ↓ex_map, ↓run_addW, hw2, lt_len, kg, kg', hA1, hB1, holeAt_app, gc_app0, gc_appN, set_app0, set_appN]
          refine ⟨by omega, by omega, by omega, by omega, by omega, fun q1 => ⟨_, _, hT.at rfl _, ?_⟩, fun q1 => hno2 fun e => by simp [e.1] at q1⟩
          simp only [go_sem, ↓reduceIte, ↓run_addW, hw2, Bool.not_eq_true', Bool.not_eq_false']
          refine ⟨fun h => hno2 (fun e => by rw [eqB_true e.2.1] at h; cases h), fun h => ⟨hlj, hnx2.2 ⟨by simpa using q1, eqB_iff.1 (by simpa using h), fun h => by cases h⟩, hA.more _, hB.more _, _, rfl⟩⟩
        · simp only [coC, go_sem, ↓reduceIte, ↓ex_map, ↓run_addW, hw2, lt_len, kg, kg', hA1, hB1, holeAt_app, gc_app0, gc_appN, set_app0, set_appN]
          refine ⟨by omega, by omega, by omega, by omega, by omega, fun q1 => ⟨fun q2 => ⟨_, _, hT.at rfl _, ?_⟩, fun q2 => hno2 fun e => w_pl q2 (e.2.2 rfl)⟩, fun q1 => hno2 fun e => by simp [e.1] at q1⟩
          simp only [go_sem, ↓reduceIte, ↓run_addW, hw2, Bool.not_eq_true', Bool.not_eq_false']
          refine ⟨fun h => hno2 (fun e => by rw [eqB_true e.2.1] at h; cases h), fun h => ⟨hlj, hnx2.2 ⟨by simpa using q1, eqB_iff.1 (by simpa using h), fun _ => w_pl' q2⟩, hA.more _, hB.more _, _, rfl⟩⟩
      · exact ⟨hlt, hnx.2 ⟨e1, hps, take_all htj (by simpa using hgj) (by simpa using e4), e2⟩, _, rfl⟩
  clear hL
  have w7 : ∀ {a b : List Str}, (¬ (((a.length : Int) != (b.length : Int)) = false)) → ¬ a = b := by intro a b h e; rw [e] at h; simp at h
  refine ⟨by omega, fun q1 => ⟨fun hp => ⟨fun q2 => ⟨fun q3 => ⟨fun q4 => hno fun e => w_lenN q4 e.2.2.1, fun q4 => main (by simpa using q1) (fun _ => w_pl' q2) (w_len q3) (w_len q4)⟩, fun q3 => hno fun e => w7 q3 e.2.1⟩, fun q2 => hno fun e => w_pl q2 (e.2.2.2 hp)⟩,
    fun hp => ⟨fun q3 => ⟨fun q4 => hno fun e => w_lenN q4 e.2.2.1, fun q4 => main (by simpa using q1) (fun h => by rw [hp] at h; cases h) (w_len q3) (w_len q4)⟩, fun q3 => hno fun e => w7 q3 e.2.1⟩⟩, fun q1 => hno fun e => by simp [e.1] at q1⟩

set_option maxRecDepth 6000 in
theorem SamePrograms_T (x y : Pr) (p : Bool) (hx : PrB x) (hy : PrB y) : Pu 11 [.agg (prC x), .agg (prC y), .bool p] (.bool (eqB (prN p x) (prN p y))) := by
  obtain ⟨ds, fs, bs⟩ := x
  obtain ⟨ds', fs', bs'⟩ := y
  obtain ⟨a1, a2, a3⟩ := hx
  obtain ⟨b1, b2, b3⟩ := hy
  simp only at a1 a2 a3 b1 b2 b3
  refine ⟨?_, by simp only [idsL, idsV, prC_ids, Bool.and_self]⟩
  refine T.of0 mix c_r06_SamePrograms rfl ?_
  unfold v_r06_SamePrograms
  have hno : ¬ (prN p ⟨ds, fs, bs⟩ = prN p ⟨ds', fs', bs'⟩) → V.bool false = V.bool (eqB (prN p ⟨ds, fs, bs⟩) (prN p ⟨ds', fs', bs'⟩)) := fun h => by rw [eqB_false h]
  have hyes : (prN p ⟨ds, fs, bs⟩ = prN p ⟨ds', fs', bs'⟩) → V.bool true = V.bool (eqB (prN p ⟨ds, fs, bs⟩) (prN p ⟨ds', fs', bs'⟩)) := fun h => by rw [eqB_true h]
  generalize eqB (prN p ⟨ds, fs, bs⟩) (prN p ⟨ds', fs', bs'⟩) = res at hno hyes ⊢
  simp only [prN, Pr.mk.injEq] at hno hyes
  have hTD := sameDatas_T ds ds' p a1 b1
  have hTB := SameBinds_T bs bs' p a3 b3
  have hbf := a2.lt
  simp only [prC, go_sem, ↓reduceIte]
  refine ⟨fun q1 => hno fun e => w_lenN q1 e.2.1, fun q1 => ?_⟩
  have hlen := w_len q1
  refine WP.range (n := fs.length) (fun i E G => (fs.map (fxN p)).take i = (fs'.map (fxN p)).take i ∧ Has G 0 0 (prC ⟨ds, fs, bs⟩) ∧ Has G 1 0 (prC ⟨ds', fs', bs'⟩) ∧
    ∃ ex, E = ⟨(2, .bool p) :: (3, .ptr 0 0 0) :: (4, .ptr 1 0 0) :: (7, .int .i64 i) :: ex, .u⟩) ⟨rfl, ⟨by simp, rfl⟩, ⟨by simp, rfl⟩, _, rfl⟩ ?_
  rintro i E G hi ⟨htk, hA, hB, ex, rfl⟩
  have hw := inc64 (i := i) (by omega)
  have hA0 := hA.get
  have hB0 := hB.get
  have hA1 := hA.app
  have hB1 := hB.app
  have hAl := hA.lt
  have hBl := hB.lt
  simp only [prC] at hA0 hB0 hA1 hB1
  simp only [go_sem, ↓reduceIte, ↓ex_map, ↓run_addW, hw, lt_len, hA0, hB0]
  refine ⟨fun hlt => ?_, fun hge => ?_⟩
  · obtain ⟨⟨q, u, v, a, b⟩, kg, hm⟩ := get_lt hlt
    obtain ⟨⟨q', u', v', a', b'⟩, kg', hm'⟩ := get_lt (show i < fs'.length by omega)
    have hnx2 := take_next htk (map_get kg) (map_get kg')
    have hne2 := take_ne (map_get (f := fxN p) kg) (map_get (f := fxN p) kg')
    have hno2 : ¬ (fxN p (Fx.mk q u v a b) = fxN p (Fx.mk q' u' v' a' b')) → V.bool false = V.bool res := fun h => hno fun e => hne2 h e.2.1
    simp only [fxN, Fx.mk.injEq, plN_iff] at hno2 hnx2
    cases p
    · simp only [fxC, go_sem, ↓reduceIte, ↓ex_map, ↓run_addW, hw, lt_len, kg, kg', hA1, hB1, holeAt_app, gc_app0, gc_appN, set_app0, set_appN]
      exact ⟨by omega, by omega, by omega, by omega, fun q1 => ⟨fun q2 => ⟨fun q3 => ⟨hlt, hnx2.2 ⟨by simpa using q1, w_eq q2, w_eq q3, fun h => by cases h⟩, hA.more _, hB.more _, _, rfl⟩, fun q3 => hno2 fun e => w_ne q3 e.2.2.1⟩, fun q2 => hno2 fun e => w_ne q2 e.2.1⟩, fun q1 => hno2 fun e => by simp [e.1] at q1⟩
    · simp only [fxC, go_sem, ↓reduceIte, ↓ex_map, ↓run_addW, hw, lt_len, kg, kg', hA1, hB1, holeAt_app, gc_app0, gc_appN, set_app0, set_appN]
      exact ⟨by omega, by omega, by omega, by omega, fun q1 => ⟨fun q2 => ⟨fun q3 => ⟨fun q4 => hno2 fun e => w_pl (by rw [q4]; simp) (e.2.2.2 rfl), fun q4 => ⟨hlt, hnx2.2 ⟨by simpa using q1, w_eq q2, w_eq q3, fun _ => w_pl' q4⟩, hA.more _, hB.more _, _, rfl⟩⟩, fun q3 => hno2 fun e => w_ne q3 e.2.2.1⟩, fun q2 => hno2 fun e => w_ne q2 e.2.1⟩, fun q1 => hno2 fun e => by simp [e.1] at q1⟩
  · have hfs : fs.map (fxN p) = fs'.map (fxN p) := take_all htk (by simpa using hge) (by simpa using hlen)
    refine ⟨_, _, hTD.at rfl _, ?_⟩
    simp only [go_sem, ↓reduceIte, ↓run_addW, hw, hA0, hB0, Bool.not_eq_true', Bool.not_eq_false']
    refine ⟨fun h => ⟨_, _, hTB.at rfl _, ?_⟩, fun h => hno fun e => by rw [eqB_true e.1] at h; cases h⟩
    simp only [go_sem, ↓reduceIte, ↓run_addW, hw]
    cases hb : eqB (bs.map (biN p)) (bs'.map (biN p)) with
    | true => exact hyes ⟨eqB_iff.1 h, hfs, eqB_iff.1 hb⟩
    | false => exact hno fun e => by rw [eqB_true e.2.2] at hb; cases hb
end Go.Proofs.Ytpamkokbajmjkaa.Vm
namespace Go.Proofs.Ytpamkokbajmjkaa.Vm
open Go
set_option linter.unusedSimpArgs false

theorem pl0 {l c : Int} : (plN false l = l ∧ plN false c = c) ↔ (l = 0 ∧ c = 0) := by unfold plN; simp only [Bool.false_eq_true, if_false]; constructor <;> (rintro ⟨rfl, rfl⟩; exact ⟨rfl, rfl⟩)
theorem w_z {l c : Int} (h : ¬ (((l == 0 && (c == 0 && true)) != true) = false)) : ¬ (l = 0 ∧ c = 0) := by simpa using h
theorem w_z' {l c : Int} (h : ((l == 0 && (c == 0 && true)) != true) = false) : l = 0 ∧ c = 0 := by simpa using h
theorem w_zt {l c : Int} (h : ((l == 0 && (c == 0 && true)) != true) = true) : ¬ (l = 0 ∧ c = 0) := by intro e; rw [e.1, e.2] at h; simp at h
theorem size_pos {α : Type} [SizeOf α] (l : List α) : 1 ≤ SizeOf.sizeOf l := by cases l <;> simp <;> omega
theorem rBarePats_T (n : Nat) : ∀ (xs : List Pa), SizeOf.sizeOf xs ≤ n → LB 72 PaB xs → Pu 54 [.sl false 6 (xs.map paC)] (.bool (eqB (xs.map (paN false)) xs)) := by
  induction n with
  | zero => intro xs h; cases xs <;> simp at h
  | succ n ih =>
    intro xs hn hx
    refine ⟨?_, rfl⟩
    refine T.of0 mix c_r06_barePats rfl ?_
    unfold v_r06_barePats
    simp only [go_sem, ↓reduceIte]
    have hb := hx.lt
    refine WP.range (n := xs.length) (fun i E F => (xs.map (paN false)).take i = xs.take i ∧ ∃ ex, E = ⟨(0, .sl false 6 (xs.map paC)) :: (3, .int .i64 i) :: ex, .u⟩) ⟨rfl, _, rfl⟩ ?_
    rintro i E F hi ⟨htk, ex, rfl⟩
    have hw := inc64 (i := i) (by omega)
    simp only [go_sem, ↓reduceIte, ↓ex_map, ↓run_addW, hw, lt_len]
    refine ⟨fun hlt => ?_, fun hge => by rw [eqB_true (take_all htk (by simpa using hge) (by simp))]⟩
    obtain ⟨⟨k, s, m, as', l, c⟩, hg, hxm⟩ := get_lt hlt
    have hsz := size_get hg
    simp only [Pa.mk.sizeOf_spec] at hsz
    have hnx := take_next htk (map_get hg) hg
    have hne := take_ne (map_get (f := paN false) hg) hg
    cases hx.2 _ hxm with | mk h1 h2 =>
    have hT := ih as' (by omega) ⟨h1, h2⟩
    have hno : ¬ (paN false (Pa.mk k s m as' l c) = Pa.mk k s m as' l c) → V.bool false = V.bool (eqB (xs.map (paN false)) xs) := fun h => by rw [eqB_false (hne h)]
    simp only [paN_eq, Pa.mk.injEq, pl0, true_and] at hno hnx
    simp only [paC_eq, go_sem, ↓reduceIte, ↓ex_map, ↓run_addW, hw, lt_len, hg]
    refine ⟨fun q1 => ⟨_, _, hT.at rfl _, ?_⟩, fun q1 => hno fun e => w_z q1 e.2⟩
    simp only [go_sem, ↓reduceIte, ↓run_addW, hw, Bool.not_eq_true', Bool.not_eq_false']
    exact ⟨fun h => hno (fun e => by rw [eqB_true e.1] at h; cases h), fun h => ⟨hlt, hnx.2 ⟨eqB_iff.1 (by simpa using h), w_z' q1⟩, _, rfl⟩⟩
def BareX (n : Nat) : Prop := ∀ (xs : List Ex), SizeOf.sizeOf xs ≤ n → LB 144 ExB xs → Pu 23 [.sl false 9 (xs.map exC)] (.bool (eqB (xs.map (exN false)) xs))
def BareR (n : Nat) : Prop := ∀ (xs : List Rh), SizeOf.sizeOf xs ≤ n → LB 168 RhB xs → Pu 55 [.sl false 10 (xs.map rhC)] (.bool (eqB (xs.map (rhN false)) xs))
def BareB (n : Nat) : Prop := ∀ (xs : List Bi), SizeOf.sizeOf xs ≤ n → LB 56 BiB xs → Pu 50 [.sl false 4 (xs.map biC)] (.bool (eqB (xs.map (biN false)) xs))
theorem bareR_step {n : Nat} (hX : BareX n) : BareR (n + 1) := by
  intro xs hn hx
  refine ⟨?_, rfl⟩
  refine T.of0 mix c_r06_bareRhs rfl ?_
  unfold v_r06_bareRhs
  simp only [go_sem, ↓reduceIte]
  have hb := hx.lt
  refine WP.range (n := xs.length) (fun i E F => (xs.map (rhN false)).take i = xs.take i ∧ ∃ ex, E = ⟨(0, .sl false 10 (xs.map rhC)) :: (3, .int .i64 i) :: ex, .u⟩) ⟨rfl, _, rfl⟩ ?_
  rintro i E F hi ⟨htk, ex, rfl⟩
  have hw := inc64 (i := i) (by omega)
  simp only [go_sem, ↓reduceIte, ↓ex_map, ↓run_addW, hw, lt_len]
  refine ⟨fun hlt => ?_, fun hge => by rw [eqB_true (take_all htk (by simpa using hge) (by simp))]⟩
  obtain ⟨⟨g, b⟩, hg, hxm⟩ := get_lt hlt
  have hsz := size_get hg
  simp only [Rh.mk.sizeOf_spec] at hsz
  have hnx := take_next htk (map_get hg) hg
  have hne := take_ne (map_get (f := rhN false) hg) hg
  cases hx.2 _ hxm with | mk h1 h2 h3 =>
  have hT := hX g (by omega) ⟨h1, h2⟩
  have hT2 := hX [b] (by simp; have := size_pos g; omega) ⟨by simp, by simpa using h3⟩
  have hno : ¬ (rhN false (Rh.mk g b) = Rh.mk g b) → V.bool false = V.bool (eqB (xs.map (rhN false)) xs) := fun h => by rw [eqB_false (hne h)]
  simp only [rhN_eq, Rh.mk.injEq] at hno hnx
  simp only [rhC_eq, go_sem, ↓reduceIte, ↓ex_map, ↓run_addW, hw, lt_len, hg]
  refine ⟨_, _, hT.at rfl _, ?_⟩
  simp only [rhC_eq, go_sem, ↓reduceIte, ↓ex_map, ↓run_addW, hw, lt_len, hg, Bool.not_eq_true', Bool.not_eq_false']
  refine ⟨fun h => ⟨_, _, hT2.at (by simp only [go_sem]) _, ?_⟩, fun h => hno fun e => by rw [eqB_true e.1] at h; cases h⟩
  simp only [go_sem, ↓reduceIte, ↓run_addW, hw, Bool.not_eq_true', Bool.not_eq_false']
  exact ⟨fun h2 => hno (fun e => by rw [e.2, eqB_true rfl] at h2; cases h2), fun h2 => ⟨hlt, hnx.2 ⟨eqB_iff.1 (by simpa using h), (List.cons.inj (eqB_iff.1 (by simpa using h2))).1⟩, _, rfl⟩⟩

set_option maxRecDepth 4000 in
theorem bareX_step {n : Nat} (hX : BareX n) (hR : BareR n) (hB : BareB n) : BareX (n + 1) := by
  intro xs hn hx
  refine ⟨?_, rfl⟩
  refine T.of0 mix c_r06_BareExprs rfl ?_
  unfold v_r06_BareExprs
  simp only [go_sem, ↓reduceIte]
  have hb := hx.lt
  refine WP.range (n := xs.length) (fun i E F => (xs.map (exN false)).take i = xs.take i ∧ ∃ ex, E = ⟨(0, .sl false 9 (xs.map exC)) :: (3, .int .i64 i) :: ex, .u⟩) ⟨rfl, _, rfl⟩ ?_
  rintro i E F hi ⟨htk, ex, rfl⟩
  have hw := inc64 (i := i) (by omega)
  simp only [go_sem, ↓reduceIte, ↓ex_map, ↓run_addW, hw, lt_len]
  refine ⟨fun hlt => ?_, fun hge => by rw [eqB_true (take_all htk (by simpa using hge) (by simp))]⟩
  obtain ⟨⟨k, s, m, ps, as', al, bs, l, c⟩, hg, hxm⟩ := get_lt hlt
  have hsz := size_get hg
  simp only [Ex.mk.sizeOf_spec] at hsz
  have hnx := take_next htk (map_get hg) hg
  have hne := take_ne (map_get (f := exN false) hg) hg
  cases hx.2 _ hxm with | mk a1 a2 a3 a4 a5 a6 a7 =>
  have hT := hX as' (by omega) ⟨a2, a5⟩
  have hT2 := hB bs (by omega) ⟨a4, a7⟩
  have hno : ¬ (exN false (Ex.mk k s m ps as' al bs l c) = Ex.mk k s m ps as' al bs l c) → V.bool false = V.bool (eqB (xs.map (exN false)) xs) := fun h => by rw [eqB_false (hne h)]
  generalize eqB (xs.map (exN false)) xs = res at hno ⊢
  simp only [exN_eq, Ex.mk.injEq, pl0, true_and] at hno hnx
  simp only [exC_eq, go_sem, ↓reduceIte, ↓ex_map, ↓run_addW, hw, lt_len, hg, gc_app0, gc_appN, set_app0, set_appN, put]
  refine ⟨fun q1 => ⟨_, _, hT.at rfl _, ?_⟩, fun q1 => hno fun e => w_z q1 e.2.2.2⟩
  simp only [exC_eq, go_sem, ↓reduceIte, ↓run_addW, hw, Bool.not_eq_true', Bool.not_eq_false', gc_app0, gc_appN]
  refine ⟨fun h => ⟨_, _, hT2.at rfl _, ?_⟩, fun h => hno fun e => by rw [eqB_true e.1] at h; cases h⟩
  simp only [go_sem, ↓reduceIte, ↓run_addW, hw, Bool.not_eq_true', Bool.not_eq_false']
  refine ⟨fun h2 => hno (fun e => by rw [eqB_true e.2.2.1] at h2; cases h2), fun h2 => ?_⟩
  refine WP.range (n := al.length) (fun j E G => (al.map (alN false)).take j = al.take j ∧ Has G F.length 0 (exC (.mk k s m ps as' al bs l c)) ∧
    ∃ ex, E = ⟨(0, .sl false 9 (xs.map exC)) :: (3, .int .i64 i) :: (4, .ptr F.length 0 0) :: (5, .int .i64 j) :: ex, .u⟩) ⟨rfl, by rw [exC_eq]; exact has_app0, _, rfl⟩ ?_
  rintro j E G hj ⟨htj, hA, ex, rfl⟩
  have hw2 := inc64 (i := j) (by omega)
  have hA0 := hA.get
  rw [exC_eq] at hA0
  simp only [go_sem, ↓reduceIte, ↓ex_map, ↓run_addW, hw, hw2, lt_len, hA0]
  refine ⟨fun hlj => ?_, fun hgj => ⟨hlt, hnx.2 ⟨eqB_iff.1 (by simpa using h), take_all htj (by simpa using hgj) (by simp), eqB_iff.1 (by simpa using h2), w_z' q1⟩, _, rfl⟩⟩
  obtain ⟨⟨q, rs⟩, kg, hm⟩ := get_lt hlj
  have hsz2 := size_get kg
  simp only [Al.mk.sizeOf_spec] at hsz2
  have hnx2 := take_next htj (map_get kg) kg
  have hne2 := take_ne (map_get (f := alN false) kg) kg
  cases a6 _ hm with | mk c1 c2 c3 =>
  have hT3 := rBarePats_T _ [q] (Nat.le_refl _) ⟨by simp, by simpa using c1⟩
  have hT4 := hR rs (by omega) ⟨c2, c3⟩
  have hno2 : ¬ (alN false (Al.mk q rs) = Al.mk q rs) → V.bool false = V.bool res := fun h => hno fun e => hne2 h e.2.1
  simp only [alN_eq, Al.mk.injEq] at hno2 hnx2
  simp only [alC_eq, go_sem, ↓reduceIte, ↓ex_map, ↓run_addW, hw2, lt_len, kg, hA0]
  refine ⟨_, _, hT3.at (by simp only [go_sem]) _, ?_⟩
  simp only [alC_eq, go_sem, ↓reduceIte, ↓ex_map, ↓run_addW, hw2, lt_len, kg, hA0, Bool.not_eq_true', Bool.not_eq_false']
  refine ⟨fun h3 => ⟨_, _, hT4.at rfl _, ?_⟩, fun h3 => hno2 fun e => by rw [e.1, eqB_true rfl] at h3; cases h3⟩
  simp only [go_sem, ↓reduceIte, ↓run_addW, hw2, Bool.not_eq_true', Bool.not_eq_false']
  exact ⟨fun h4 => hno2 (fun e => by rw [eqB_true e.2] at h4; cases h4), fun h4 => ⟨hlj, hnx2.2 ⟨(List.cons.inj (eqB_iff.1 (by simpa using h3))).1, eqB_iff.1 (by simpa using h4)⟩, hA, _, rfl⟩⟩
set_option maxRecDepth 4000 in
theorem bareB_step {n : Nat} (hR : BareR n) : BareB (n + 1) := by
  intro xs hn hx
  refine ⟨?_, rfl⟩
  refine T.of0 mix c_r06_bareBinds rfl ?_
  unfold v_r06_bareBinds
  simp only [go_sem, ↓reduceIte]
  have hb := hx.lt
  refine WP.range (n := xs.length) (fun i E F => (xs.map (biN false)).take i = xs.take i ∧ ∃ ex, E = ⟨(0, .sl false 4 (xs.map biC)) :: (3, .int .i64 i) :: ex, .u⟩) ⟨rfl, _, rfl⟩ ?_
  rintro i E F hi ⟨htk, ex, rfl⟩
  have hw := inc64 (i := i) (by omega)
  simp only [go_sem, ↓reduceIte, ↓ex_map, ↓run_addW, hw, lt_len]
  refine ⟨fun hlt => ?_, fun hge => by rw [eqB_true (take_all htk (by simpa using hge) (by simp))]⟩
  obtain ⟨⟨s, cs, l, c⟩, hg, hxm⟩ := get_lt hlt
  have hsz := size_get hg
  simp only [Bi.mk.sizeOf_spec] at hsz
  have hnx := take_next htk (map_get hg) hg
  have hne := take_ne (map_get (f := biN false) hg) hg
  cases hx.2 _ hxm with | mk b1 b2 =>
  have hno : ¬ (biN false (Bi.mk s cs l c) = Bi.mk s cs l c) → V.bool false = V.bool (eqB (xs.map (biN false)) xs) := fun h => by rw [eqB_false (hne h)]
  generalize eqB (xs.map (biN false)) xs = res at hno ⊢
  simp only [biN_eq, Bi.mk.injEq, pl0, true_and] at hno hnx
  simp only [biC_eq, go_sem, ↓reduceIte, ↓ex_map, ↓run_addW, hw, lt_len, hg]
  refine ⟨fun q1 => hno fun e => w_zt q1 e.2, fun q1 => ?_⟩
  refine WP.range (n := cs.length) (fun j E G => (cs.map (clN false)).take j = cs.take j ∧
    ∃ ex, E = ⟨(0, .sl false 4 (xs.map biC)) :: (3, .int .i64 i) :: (4, .int .i64 j) :: ex, .u⟩) ⟨rfl, _, rfl⟩ ?_
  rintro j E G hj ⟨htj, ex, rfl⟩
  have hw2 := inc64 (i := j) (by omega)
  simp only [biC_eq, go_sem, ↓reduceIte, ↓ex_map, ↓run_addW, hw, hw2, lt_len, hg]
  refine ⟨fun hlj => ?_, fun hgj => ⟨hlt, hnx.2 ⟨take_all htj (by simpa using hgj) (by simp), w_z' q1⟩, _, rfl⟩⟩
  obtain ⟨⟨q, rs⟩, kg, hm⟩ := get_lt hlj
  have hsz2 := size_get kg
  simp only [Cl.mk.sizeOf_spec] at hsz2
  have hnx2 := take_next htj (map_get kg) kg
  have hne2 := take_ne (map_get (f := clN false) kg) kg
  cases b2 _ hm with | mk c1 c2 c3 c4 =>
  have hT3 := rBarePats_T _ q (Nat.le_refl _) ⟨c1, c2⟩
  have hT4 := hR rs (by omega) ⟨c3, c4⟩
  have hno2 : ¬ (clN false (Cl.mk q rs) = Cl.mk q rs) → V.bool false = V.bool res := fun h => hno fun e => hne2 h e.1
  simp only [clN_eq, Cl.mk.injEq] at hno2 hnx2
  simp only [biC_eq, clC_eq, go_sem, ↓reduceIte, ↓ex_map, ↓run_addW, hw2, lt_len, hg, kg]
  refine ⟨_, _, hT3.at rfl _, ?_⟩
  simp only [biC_eq, clC_eq, go_sem, ↓reduceIte, ↓ex_map, ↓run_addW, hw2, lt_len, hg, kg, Bool.not_eq_true', Bool.not_eq_false']
  refine ⟨fun h3 => ⟨_, _, hT4.at rfl _, ?_⟩, fun h3 => hno2 fun e => by rw [eqB_true e.1] at h3; cases h3⟩
  simp only [go_sem, ↓reduceIte, ↓run_addW, hw2, Bool.not_eq_true', Bool.not_eq_false']
  exact ⟨fun h4 => hno2 (fun e => by rw [eqB_true e.2] at h4; cases h4), fun h4 => ⟨hlj, hnx2.2 ⟨eqB_iff.1 (by simpa using h3), eqB_iff.1 (by simpa using h4)⟩, _, rfl⟩⟩
theorem bare_all (n : Nat) : BareX n ∧ BareR n ∧ BareB n := by
  induction n with
  | zero =>
    refine ⟨?_, ?_, ?_⟩
    · intro xs h; cases xs <;> simp at h
    · intro xs h; cases xs <;> simp at h
    · intro xs h; cases xs <;> simp at h
  | succ n ih => exact ⟨bareX_step ih.1 ih.2.1 ih.2.2, bareR_step ih.1, bareB_step ih.2.1⟩
theorem rBareExprs_T (xs : List Ex) (hx : LB 144 ExB xs) : Pu 23 [.sl false 9 (xs.map exC)] (.bool (eqB (xs.map (exN false)) xs)) := (bare_all _).1 xs (Nat.le_refl _) hx
theorem rBareBinds_T (xs : List Bi) (hx : LB 56 BiB xs) : Pu 50 [.sl false 4 (xs.map biC)] (.bool (eqB (xs.map (biN false)) xs)) := (bare_all _).2.2 xs (Nat.le_refl _) hx

set_option maxRecDepth 4000 in
theorem rBare_T (x : Pr) (hx : PrB x) : Pu 21 [.agg (prC x)] (.bool (eqB (prN false x) x)) := by
  obtain ⟨ds, fs, bs⟩ := x
  obtain ⟨a1, a2, a3⟩ := hx
  simp only at a1 a2 a3
  refine ⟨?_, by simp only [idsL, idsV, prC_ids, Bool.and_self]⟩
  refine T.of0 mix c_r06_Bare rfl ?_
  unfold v_r06_Bare
  have hno : ¬ (prN false ⟨ds, fs, bs⟩ = ⟨ds, fs, bs⟩) → V.bool false = V.bool (eqB (prN false ⟨ds, fs, bs⟩) ⟨ds, fs, bs⟩) := fun h => by rw [eqB_false h]
  have hyes : (prN false ⟨ds, fs, bs⟩ = ⟨ds, fs, bs⟩) → V.bool true = V.bool (eqB (prN false ⟨ds, fs, bs⟩) ⟨ds, fs, bs⟩) := fun h => by rw [eqB_true h]
  generalize eqB (prN false ⟨ds, fs, bs⟩) ⟨ds, fs, bs⟩ = res at hno hyes ⊢
  simp only [prN, Pr.mk.injEq] at hno hyes
  have hTB := rBareBinds_T bs a3
  have hbd := a1.lt
  have hbf := a2.lt
  simp only [prC, go_sem, ↓reduceIte]
  refine WP.range (n := ds.length) (fun i E G => (ds.map (daN false)).take i = ds.take i ∧ G = [.cells 0 (prC ⟨ds, fs, bs⟩), .cells 0 (prC ⟨ds, fs, bs⟩)] ∧
    ∃ ex, E = ⟨(1, .ptr 0 0 0) :: (3, .ptr 1 0 0) :: (4, .int .i64 i) :: ex, .u⟩) ⟨rfl, rfl, _, rfl⟩ ?_
  rintro i E G hi ⟨htk, rfl, ex, rfl⟩
  have hw := inc64 (i := i) (by omega)
  simp only [prC, go_sem, ↓reduceIte, ↓ex_map, ↓run_addW, hw, lt_len]
  refine ⟨fun hlt => ?_, fun hge => ?_⟩
  · obtain ⟨⟨s, ps, cs, l, c⟩, hg, hm⟩ := get_lt hlt
    have hnx := take_next htk (map_get hg) hg
    have hne := take_ne (map_get (f := daN false) hg) hg
    obtain ⟨b1, b2⟩ := a1.2 _ hm
    have hbc := b2.lt
    have hno2 : ¬ (daN false (Da.mk s ps cs l c) = Da.mk s ps cs l c) → V.bool false = V.bool res := fun h => hno fun e => hne h e.1
    simp only [daN, Da.mk.injEq, pl0, true_and] at hno2 hnx
    simp only at hbc
    simp only [daC, go_sem, ↓reduceIte, ↓ex_map, ↓run_addW, hw, lt_len, hg]
    refine ⟨fun q1 => hno2 fun e => w_zt q1 e.2, fun q1 => ?_⟩
    refine WP.range (n := cs.length) (fun j E G => (cs.map (coN false)).take j = cs.take j ∧ G = [.cells 0 (prC ⟨ds, fs, bs⟩), .cells 0 (prC ⟨ds, fs, bs⟩)] ∧
      ∃ ex, E = ⟨(1, .ptr 0 0 0) :: (3, .ptr 1 0 0) :: (4, .int .i64 i) :: (5, .int .i64 j) :: ex, .u⟩) ⟨rfl, rfl, _, rfl⟩ ?_
    rintro j E G hj ⟨htj, rfl, ex, rfl⟩
    have hw2 := inc64 (i := j) (by omega)
    simp only [prC, daC, go_sem, ↓reduceIte, ↓ex_map, ↓run_addW, hw, hw2, lt_len, hg]
    refine ⟨fun hlj => ?_, fun hgj => ⟨hlt, hnx.2 ⟨take_all htj (by simpa using hgj) (by simp), w_z' q1⟩, _, rfl⟩⟩
    obtain ⟨⟨q, ty, a, b⟩, kg, hm2⟩ := get_lt hlj
    have hnx2 := take_next htj (map_get kg) kg
    have hne2 := take_ne (map_get (f := coN false) kg) kg
    have hno3 : ¬ (coN false (Co.mk q ty a b) = Co.mk q ty a b) → V.bool false = V.bool res := fun h => hno2 fun e => hne2 h e.1
    simp only [coN, Co.mk.injEq, pl0, true_and] at hno3 hnx2
    simp only [coC, daC, go_sem, ↓reduceIte, ↓ex_map, ↓run_addW, hw2, lt_len, hg, kg]
    exact ⟨fun q2 => hno3 fun e => w_zt q2 e, fun q2 => ⟨hlj, hnx2.2 (w_z' q2), _, rfl⟩⟩
  · have hds : ds.map (daN false) = ds := take_all htk (by simpa using hge) (by simp)
    refine WP.range (n := fs.length) (fun i E G => (fs.map (fxN false)).take i = fs.take i ∧ G = [.cells 0 (prC ⟨ds, fs, bs⟩), .cells 0 (prC ⟨ds, fs, bs⟩)] ∧
      ∃ ex, E = ⟨(1, .ptr 0 0 0) :: (3, .ptr 1 0 0) :: (6, .int .i64 i) :: ex, .u⟩) ⟨rfl, rfl, _, rfl⟩ ?_
    rintro i E G hi ⟨htk, rfl, ex, rfl⟩
    have hw := inc64 (i := i) (by omega)
    simp only [prC, go_sem, ↓reduceIte, ↓ex_map, ↓run_addW, hw, lt_len]
    refine ⟨fun hlt => ?_, fun hge => ⟨_, _, hTB.at rfl _, ?_⟩⟩
    · obtain ⟨⟨q, u, v, a, b⟩, kg, hm2⟩ := get_lt hlt
      have hnx2 := take_next htk (map_get kg) kg
      have hne2 := take_ne (map_get (f := fxN false) kg) kg
      have hno3 : ¬ (fxN false (Fx.mk q u v a b) = Fx.mk q u v a b) → V.bool false = V.bool res := fun h => hno fun e => hne2 h e.2.1
      simp only [fxN, Fx.mk.injEq, pl0, true_and] at hno3 hnx2
      simp only [fxC, go_sem, ↓reduceIte, ↓ex_map, ↓run_addW, hw, lt_len, kg]
      exact ⟨fun q2 => hno3 fun e => w_zt q2 e, fun q2 => ⟨hlt, hnx2.2 (w_z' q2), _, rfl⟩⟩
    · have hfs : fs.map (fxN false) = fs := take_all htk (by simpa using hge) (by simp)
      simp only [go_sem, ↓reduceIte]
      cases hb : eqB (bs.map (biN false)) bs with
      | true => exact hyes ⟨hds, hfs, eqB_iff.1 hb⟩
      | false => exact hno fun e => by rw [eqB_true e.2.2] at hb; cases hb
end Go.Proofs.Ytpamkokbajmjkaa.Vm
