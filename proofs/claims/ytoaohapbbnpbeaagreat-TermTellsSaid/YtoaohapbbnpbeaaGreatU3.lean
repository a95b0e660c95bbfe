/-
The program's functions, as the value machine has them.
Programs as the language has them, part 2a: functions that turn nothing; bounds; heaps.
-/
import Derived.Test.YtoaohapbbnpbeaaGreatU1
import Derived.Test.YtoaohapbbnpbeaaGreatU2
set_option linter.unusedVariables false
set_option linter.unusedSimpArgs false
set_option linter.constructorNameAsVariable false
namespace Go.Proofs.YtoaohapbbnpbeaaGreat.Vm
open Go

def v_l19_TermOf : VFunc := ⟨28, .seq (.region [qt 1 .box [.t 0] [0], qo 2 .mv [qb false]] [1])
 (.seq (.region [qo 8 (.load 9 true) [.t 1], qt 9 (.call .wr) [qf 8, .t 8] [8], qt 7 .mv [.t 9] [9], qo 10 (.extract 0) [.t 7], qt 11 (.extract 1) [.t 7] [7], qo 3 (.alloc [.str [], .int .i64 0, .nilh 3]) [],
qn (.store 3) [.t 3, .t 10] [10], qm 4 11] [1, 3, 4])
 (.seq (.region [qo 13 (.loadT 9 true) [.t 1], qt 14 (.call .wr) [qf 9, .t 13] [13], qt 12 .mv [.t 14] [14], qo 15 (.extract 0) [.t 12], qt 16 (.extract 1) [.t 12] [12],
qo 5 (.alloc [.str [], .int .i64 0, .nilh 3]) [], qn (.store 3) [.t 5, .t 15] [15], qm 6 16] [3, 4, 5, 6])
 (.seq (.region [qo 17 (.loadT 3 true) [.t 3], qo 18 (.loadT 3 true) [.t 5], qt 19 (.call .wr) [qf 10, .t 17, .t 18] [17, 18], qm 20 19, qv 21 4 20 true, qv 22 6 20 true,
qg 23 (.eqc false false [.b]) [.t 21, .t 22] [] 20 true, qo 24 .pick [.t 20, .t 23, qb false], qm 25 24, qg 26 (.call .wr) [qf 11] [] 25 true, qo 27 .pick [.t 25, .t 26, qb false], qm 2 27] [2])
 (.ret)))), [.tmp 2]⟩
def v_l19_TermTells : VFunc := ⟨45, .seq (.region [qt 2 .box [.t 0] [0], qt 3 .box [.t 1] [1], qo 4 .mv [qb false]] [2, 3])
 (.seq (.seq (.region [qo 5 (.load 3 true) [.t 2], qt 6 (.call .wr) [qf 14, .t 5] [5], qo 7 .not [.t 6], qm 8 7, qg 9 (.load 3 true) [.t 3] [] 8 false, qg 10 (.call .wr) [qf 14, .t 9] [9] 8 false,
qg 11 .not [.t 10] [] 8 false, qo 12 .pick [.t 8, qb true, .t 11]] [2, 3, 12])
 (.cond (.t 12)
 (.seq (.region [qo 13 (.call .wr) [qf 11], qm 4 13] [4])
 (.ret))
 (.skip)))
 (.seq (.region [qo 14 (.load 3 true) [.t 2], qt 15 (.call .al) [qf 18, .t 14] [14], qo 16 (.load 3 true) [.t 2], qt 17 (.call .al) [qf 16, .t 16] [16], qo 18 (.eqc false false [.b]) [.t 15, .t 17], qm 19 18,
qg 20 (.load 3 true) [.t 2] [] 19 true, qg 21 (.call .al) [qf 19, .t 20] [20] 19 true, qg 22 (.load 3 true) [.t 2] [] 19 true, qg 23 (.call .al) [qf 20, .t 22] [22] 19 true,
qg 24 (.bin .eql) [.t 21, .t 23] [] 19 true, qo 25 .pick [.t 19, .t 24, qb false], qm 26 25, qg 27 (.load 3 true) [.t 2] [] 26 true, qg 28 (.call .al) [qf 15, .t 27] [27] 26 true,
qg 29 (.load 3 true) [.t 2] [] 26 true, qg 30 (.call .al) [qf 22, .t 29] [29] 26 true, qg 31 (.call .al) [qf 21, .t 28, .t 30, qb true] [28, 30] 26 true, qo 32 .pick [.t 26, .t 31, qb false],
qm 33 32, qg 34 (.load 3 true) [.t 2] [] 33 true, qg 35 (.load 3 true) [.t 3] [] 33 true, qg 36 (.call .al) [qf 23, .t 34, .t 35] [34, 35] 33 true, qg 37 (.load 3 true) [.t 2] [] 33 true,
qg 38 (.load 3 true) [.t 3] [] 33 true, qg 39 (.call .al) [qf 10, .t 37, .t 38] [37, 38] 33 true, qg 40 (.eqc false false [.b]) [.t 36, .t 39] [] 33 true,
qo 41 .pick [.t 33, .t 40, qb false], qm 42 41, qg 43 (.call .al) [qf 11] [] 42 true, qo 44 .pick [.t 42, .t 43, qb false], qm 4 44] [4])
 (.ret))), [.tmp 4]⟩
def v_term_Of : VFunc := ⟨12, .seq (.region [qt 1 .box [.t 0] [0], qo 2 (.alloc [.str [], .int .i64 0, .nilh 3]) [], qo 3 .mv [qb false]] [1, 2])
 (.seq (.seq (.region [qo 4 (.load 9 true) [.t 1], qt 5 (.call .wr) [qf 24, .t 4] [4], qo 6 .not [.t 5]] [1, 2, 6])
 (.cond (.t 6)
 (.seq (.region [qo 7 (.build [.str [], .int .i64 0, .nilh 3] []) [], qn (.store 3) [.t 2, .t 7] [7], qo 3 .mv [qb false]] [2, 3])
 (.ret))
 (.skip)))
 (.seq (.region [qo 8 (.loadT 9 true) [.t 1], qt 9 (.call .wr) [qf 25, .t 8] [8], qo 10 (.extract 0) [.t 9], qt 11 (.extract 1) [.t 9] [9], qn (.store 3) [.t 2, .t 10] [10], qm 3 11] [2, 3])
 (.ret))), [.cell 2 3 true, .tmp 3]⟩
def v_r19_Of : VFunc := ⟨80, .seq (.region [qt 1 .box [.t 0] [0], qo 2 (.alloc [.str [], .int .i64 0, .nilh 3]) [], qo 3 .mv [qb false]] [1, 2])
 (.seq (.seq (.region [qo 10 (.load 9 true) [.t 1], qt 11 (.call .wr) [qf 26, .t 10] [10], qo 12 .not [.t 11]] [1, 2, 12])
 (.cond (.t 12)
 (.seq (.region [qo 13 (.build [.str [], .int .i64 0, .nilh 3] []) [], qn (.store 3) [.t 2, .t 13] [13], qo 3 .mv [qb false]] [2, 3])
 (.ret))
 (.skip)))
 (.seq (.seq (.region [qo 14 (.fieldAddr 0) [.t 1], qo 15 (.load 1 false) [.t 14], qo 16 (.bin .eql) [.t 15, qi 3]] [1, 2, 16])
 (.cond (.t 16)
 (.seq (.region [qo 17 (.fieldAddr 2) [.t 1], qo 18 (.load 1 false) [.t 17], qo 19 (.build [.str [], .int .i64 0, .nilh 3] [(1, 1)]) [.t 18], qn (.store 3) [.t 2, .t 19] [19], qo 3 .mv [qb true]] [2, 3])
 (.ret))
 (.skip)))
 (.seq (.seq (.region [qo 20 (.fieldAddr 0) [.t 1], qo 21 (.load 1 false) [.t 20], qo 22 (.bin .eql) [.t 21, qi 2]] [1, 2, 22])
 (.cond (.t 22)
 (.seq (.region [qo 23 (.fieldAddr 1) [.t 1], qo 24 (.load 1 false) [.t 23], qo 25 (.build [.str [], .int .i64 0, .nilh 3] [(0, 1)]) [.t 24], qn (.store 3) [.t 2, .t 25] [25], qo 3 .mv [qb true]] [2, 3])
 (.ret))
 (.skip)))
 (.seq (.seq (.region [qo 26 (.fieldAddr 0) [.t 1], qo 27 (.load 1 false) [.t 26], qo 28 (.bin .neq) [.t 27, qi 4]] [1, 2, 28])
 (.cond (.t 28)
 (.seq (.region [qo 29 (.build [.str [], .int .i64 0, .nilh 3] []) [], qn (.store 3) [.t 2, .t 29] [29], qo 3 .mv [qb false]] [2, 3])
 (.ret))
 (.skip)))
 (.seq (.region [qo 31 (.fieldAddr 4) [.t 1], qo 32 (.load 1 false) [.t 31], qo 33 (.indexAddr 9) [.t 32, qi 0], qo 34 (.load 9 true) [.t 33], qt 35 (.call .wr) [qf 9, .t 34] [34], qt 30 .mv [.t 35] [35],
qo 36 (.extract 0) [.t 30], qt 37 (.extract 1) [.t 30] [30], qo 4 (.alloc [.str [], .int .i64 0, .nilh 3]) [], qn (.store 3) [.t 4, .t 36] [36], qm 5 37] [1, 2, 4, 5])
 (.seq (.region [qo 39 (.fieldAddr 4) [.t 1], qo 40 (.load 1 false) [.t 39], qo 41 (.indexAddr 9) [.t 40, qi 1], qo 42 (.load 9 true) [.t 41], qt 43 (.call .wr) [qf 9, .t 42] [42], qt 38 .mv [.t 43] [43],
qo 44 (.extract 0) [.t 38], qt 45 (.extract 1) [.t 38] [38], qo 6 (.alloc [.str [], .int .i64 0, .nilh 3]) [], qn (.store 3) [.t 6, .t 44] [44], qm 7 45] [2, 4, 5, 6, 7])
 (.seq (.seq (.region [qm 46 5, qo 47 .not [.t 46], qm 48 47, qv 49 7 48 false, qg 50 .not [.t 49] [] 48 false, qo 51 .pick [.t 48, qb true, .t 50], qm 52 51, qg 53 (.fieldAddr 0) [.t 4] [] 52 false,
qg 54 (.load 1 false) [.t 53] [] 52 false, qg 55 (.bin .eql) [.t 54, .c (.str [])] [] 52 false, qo 56 .pick [.t 52, qb true, .t 55]] [2, 4, 6, 56])
 (.cond (.t 56)
 (.seq (.region [qo 57 (.build [.str [], .int .i64 0, .nilh 3] []) [], qn (.store 3) [.t 2, .t 57] [57], qo 3 .mv [qb false]] [2, 3])
 (.ret))
 (.skip)))
 (.seq (.region [qo 8 .mv [.c (.nilh 3)]] [2, 4, 6, 8])
 (.seq (.seq (.region [qo 9 .mv [qi 0]] [2, 4, 6, 8, 9])
 (.block 0 (.loop (.seq (.seq (.region [qm 58 9, qo 59 (.fieldAddr 2) [.t 4], qo 60 (.load 1 false) [.t 59], qo 61 .len [.t 60], qo 62 (.bin .lss) [.t 58, .t 61]] [2, 4, 6, 8, 9, 62])
 (.cond (.t 62)
 (.skip)
 (.exit 0)))
 (.seq (.block 1 (.region [qt 65 .mv [.t 8] [8], qo 66 (.fieldAddr 2) [.t 4], qo 67 (.load 1 false) [.t 66], qm 68 9, qo 69 (.indexAddr 3) [.t 67, .t 68], qo 70 (.load 3 true) [.t 69], qt 71 (.buildSl 3) [.t 70] [70],
qo 72 (.appendH 3 48) [.t 65, .t 71], qt 8 .thaw [.t 72] [72]] [2, 4, 6, 8, 9]))
 (.region [qm 63 9, qo 64 (.bin .add) [.t 63, qi 1], qm 9 64] [2, 4, 6, 8, 9]))))))
 (.seq (.regionD [] [qo 73 (.fieldAddr 0) [.t 4], qo 74 (.load 1 false) [.t 73], qt 75 .mv [.t 8] [8], qo 76 (.loadT 3 true) [.t 6], qt 77 (.buildSl 3) [.t 76] [76], qo 78 (.appendH 3 48) [.t 75, .t 77],
qt 79 (.build [.str [], .int .i64 0, .nilh 3] [(0, 1), (2, 1)]) [.t 74, .t 78] [78], qn (.store 3) [.t 2, .t 79] [79], qo 3 .mv [qb true]] [(73, 75)] [2, 3])
 (.ret))))))))))), [.cell 2 3 true, .tmp 3]⟩
def v_r14_SameTerm : VFunc := ⟨46, .seq (.region [qt 2 .box [.t 0] [0], qt 3 .box [.t 1] [1], qo 4 .mv [qb false]] [2, 3])
 (.seq (.seq (.region [qo 6 (.fieldAddr 0) [.t 2], qo 7 (.load 1 false) [.t 6], qo 8 (.fieldAddr 0) [.t 3], qo 9 (.load 1 false) [.t 8], qo 10 (.bin .neq) [.t 7, .t 9], qm 11 10,
qg 12 (.fieldAddr 1) [.t 2] [] 11 false, qg 13 (.load 1 false) [.t 12] [] 11 false, qg 14 (.fieldAddr 1) [.t 3] [] 11 false, qg 15 (.load 1 false) [.t 14] [] 11 false,
qg 16 (.bin .neq) [.t 13, .t 15] [] 11 false, qo 17 .pick [.t 11, qb true, .t 16], qm 18 17, qg 19 (.fieldAddr 2) [.t 2] [] 18 false, qg 20 (.load 1 false) [.t 19] [] 18 false,
qg 21 .len [.t 20] [] 18 false, qg 22 (.fieldAddr 2) [.t 3] [] 18 false, qg 23 (.load 1 false) [.t 22] [] 18 false, qg 24 .len [.t 23] [] 18 false,
qg 25 (.bin .neq) [.t 21, .t 24] [] 18 false, qo 26 .pick [.t 18, qb true, .t 25]] [2, 3, 26])
 (.cond (.t 26)
 (.seq (.region [qo 4 .mv [qb false]] [4])
 (.ret))
 (.skip)))
 (.seq (.seq (.region [qo 5 .mv [qi 0]] [2, 3, 5])
 (.block 0 (.loop (.seq (.seq (.region [qm 27 5, qo 28 (.fieldAddr 2) [.t 2], qo 29 (.load 1 false) [.t 28], qo 30 .len [.t 29], qo 31 (.bin .lss) [.t 27, .t 30]] [2, 3, 5, 31])
 (.cond (.t 31)
 (.skip)
 (.exit 0)))
 (.seq (.block 1 (.seq (.region [qo 34 (.fieldAddr 2) [.t 2], qo 35 (.load 1 false) [.t 34], qm 36 5, qo 37 (.indexAddr 3) [.t 35, .t 36], qo 38 (.load 3 true) [.t 37], qo 39 (.fieldAddr 2) [.t 3],
qo 40 (.load 1 false) [.t 39], qm 41 5, qo 42 (.indexAddr 3) [.t 40, .t 41], qo 43 (.load 3 true) [.t 42], qt 44 (.call .wr) [qf 10, .t 38, .t 43] [38, 43], qo 45 .not [.t 44]] [2, 3, 5, 45])
 (.cond (.t 45)
 (.seq (.region [qo 4 .mv [qb false]] [4])
 (.ret))
 (.skip))))
 (.region [qm 32 5, qo 33 (.bin .add) [.t 32, qi 1], qm 5 33] [2, 3, 5]))))))
 (.seq (.region [qo 4 .mv [qb true]] [4])
 (.ret)))), [.tmp 4]⟩
def v_l19_known : VFunc := ⟨32, .seq (.region [qo 0 .mv [qb false]] [])
 (.seq (.region [qo 6 (.call .wr) [qf 12, .c (.str [67, 32, 40, 45, 49, 41, 32, 78])], qt 5 .mv [.t 6] [6], qo 7 (.extract 0) [.t 5], qt 8 (.extract 1) [.t 5] [5],
qo 1 (.alloc [.str [], .int .i64 0, .nilh 3]) [], qo 2 (.alloc [.int .i64 0, .int .i64 0, .int .i64 0]) [], qn (.store 3) [.t 1, .t 7] [7], qn (.store 3) [.t 2, .t 8] []] [1, 2])
 (.seq (.region [qo 10 (.call .wr) [qf 12, .c (.str [102, 32, 120])], qt 9 .mv [.t 10] [10], qo 11 (.extract 0) [.t 9], qt 12 (.extract 1) [.t 9] [9], qo 3 (.alloc [.str [], .int .i64 0, .nilh 3]) [],
qo 4 (.alloc [.int .i64 0, .int .i64 0, .int .i64 0]) [], qn (.store 3) [.t 3, .t 11] [11], qn (.store 3) [.t 4, .t 12] []] [1, 2, 4])
 (.seq (.region [qo 13 (.fieldAddr 0) [.t 2], qo 14 (.load 1 false) [.t 13], qo 15 (.bin .eql) [.t 14, qi 0], qm 16 15, qg 17 (.load 3 true) [.t 1] [] 16 true, qg 18 (.call .wr) [qf 19, .t 17] [17] 16 true,
qg 19 (.bin .eql) [.t 18, qi 4] [] 16 true, qo 20 .pick [.t 16, .t 19, qb false], qm 21 20, qg 22 (.loadT 3 true) [.t 1] [] 21 true, qg 23 (.call .wr) [qf 17, .t 22] [22] 21 true,
qg 24 (.bin .eql) [.t 23, .c (.str [67, 32, 40, 45, 49, 41, 32, 78])] [] 21 true, qo 25 .pick [.t 21, .t 24, qb false], qm 26 25, qg 27 (.load 3 true) [.t 4] [] 26 true,
qg 28 (.build [.int .i64 0, .int .i64 0] [(0, 1), (1, 1)]) [qi 1, qi 1] [] 26 true, qg 29 (.build [.int .i64 0, .int .i64 0, .int .i64 0] [(0, 1), (1, 2)]) [qi 190, .t 28] [] 26 true,
qg 30 (.eqc false true [.i, .i, .i]) [.t 27, .t 29] [] 26 true, qo 31 .pick [.t 26, .t 30, qb false], qm 0 31] [0])
 (.ret)))), [.tmp 0]⟩
def v_term_Read : VFunc := ⟨31, .seq (.region [qo 2 (.alloc [.str [], .int .i64 0, .nilh 3]) [], qo 3 (.alloc [.int .i64 0, .int .i64 0, .int .i64 0]) []] [0, 2, 3])
 (.seq (.region [qm 9 0, qo 10 (.call .wr) [qf 27, .t 9, .c (.sl true 5 [])], qt 8 .mv [.t 10] [10], qo 11 (.extract 0) [.t 8], qt 12 (.extract 1) [.t 8] [8],
qo 4 (.alloc [.int .i64 0, .str [], .int .i64 0, .sl true 1 [], .sl true 9 [], .sl true 7 [], .nilh 4, .int .i64 0, .int .i64 0]) [], qo 5 (.alloc [.int .i64 0, .int .i64 0, .int .i64 0]) [],
qn (.store 9) [.t 4, .t 11] [11], qn (.store 3) [.t 5, .t 12] []] [2, 3, 4, 5])
 (.seq (.seq (.region [qo 13 (.fieldAddr 0) [.t 5], qo 14 (.load 1 false) [.t 13], qo 15 (.bin .neq) [.t 14, qi 0]] [2, 3, 4, 5, 15])
 (.cond (.t 15)
 (.seq (.regionD [] [qo 16 (.build [.str [], .int .i64 0, .nilh 3] []) [], qo 17 (.load 3 true) [.t 5], qn (.storeP 3) [.t 2, .t 16] [16], qn (.store 3) [.t 3, .t 17] []] [(5, 2)] [2, 3])
 (.ret))
 (.skip)))
 (.seq (.region [qo 19 (.load 9 true) [.t 4], qt 20 (.call .wr) [qf 8, .t 19] [19], qt 18 .mv [.t 20] [20], qo 21 (.extract 0) [.t 18], qt 22 (.extract 1) [.t 18] [18],
qo 6 (.alloc [.str [], .int .i64 0, .nilh 3]) [], qn (.store 3) [.t 6, .t 21] [21], qm 7 22] [2, 3, 4, 6, 7])
 (.seq (.seq (.region [qm 23 7, qo 24 .not [.t 23]] [2, 3, 4, 6, 24])
 (.cond (.t 24)
 (.seq (.regionD [] [qo 25 (.build [.str [], .int .i64 0, .nilh 3] []) [], qo 26 (.fieldAddr 7) [.t 4], qo 27 (.load 2 true) [.t 26],
qo 28 (.build [.int .i64 0, .int .i64 0, .int .i64 0] [(0, 1), (1, 2)]) [qi 190, .t 27], qn (.storeP 3) [.t 2, .t 25] [25], qn (.store 3) [.t 3, .t 28] []] [(26, 2)] [2, 3])
 (.ret))
 (.skip)))
 (.seq (.region [qo 29 (.loadT 3 true) [.t 6], qo 30 (.build [.int .i64 0, .int .i64 0, .int .i64 0] []) [], qn (.store 3) [.t 2, .t 29] [29], qn (.store 3) [.t 3, .t 30] []] [2, 3])
 (.ret)))))), [.cell 2 3 true, .cell 3 3 true]⟩
def v_l19_small : VFunc := ⟨6, .seq (.region [qt 1 .box [.t 0] [0], qo 2 .mv [qb false]] [1])
 (.seq (.region [qo 3 (.loadT 3 true) [.t 1], qt 4 (.call .wr) [qf 29, .t 3, qi 400] [3], qo 5 (.bin .leq) [.t 4, qi 400], qm 2 5] [2])
 (.ret)), [.tmp 2]⟩
def v_term_Expr : VFunc := ⟨9, .seq (.region [qt 1 .box [.t 0] [0], qo 2 (.alloc [.int .i64 0, .str [], .int .i64 0, .sl true 1 [], .sl true 9 [], .sl true 7 [], .nilh 4, .int .i64 0, .int .i64 0]) []] [1, 2])
 (.seq (.seq (.region [qo 3 (.load 3 true) [.t 1], qt 4 (.call .wr) [qf 18, .t 3] [3], qo 5 .not [.t 4]] [1, 2, 5])
 (.cond (.t 5)
 (.seq (.region [qo 6 (.build [.int .i64 0, .str [], .int .i64 0, .sl true 1 [], .sl true 9 [], .sl true 7 [], .nilh 4, .int .i64 0, .int .i64 0] []) [], qn (.store 9) [.t 2, .t 6] [6]] [2])
 (.ret))
 (.skip)))
 (.seq (.region [qo 7 (.loadT 3 true) [.t 1], qt 8 (.call .wr) [qf 30, .t 7] [7], qn (.store 9) [.t 2, .t 8] [8]] [2])
 (.ret))), [.cell 2 9 true]⟩
def v_r19_Right : VFunc := ⟨37, .seq (.region [qt 1 .box [.t 0] [0], qo 2 .mv [qb false]] [1])
 (.seq (.seq (.region [qo 3 .mv [qi 0]] [1, 3])
 (.block 0 (.loop (.seq (.seq (.region [qm 4 3, qo 5 (.fieldAddr 2) [.t 1], qo 6 (.load 1 false) [.t 5], qo 7 .len [.t 6], qo 8 (.bin .lss) [.t 4, .t 7]] [1, 3, 8])
 (.cond (.t 8)
 (.skip)
 (.exit 0)))
 (.seq (.block 1 (.seq (.region [qo 11 (.fieldAddr 2) [.t 1], qo 12 (.load 1 false) [.t 11], qm 13 3, qo 14 (.indexAddr 3) [.t 12, .t 13], qo 15 (.load 3 true) [.t 14], qt 16 (.call .wr) [qf 16, .t 15] [15],
qo 17 .not [.t 16]] [1, 3, 17])
 (.cond (.t 17)
 (.seq (.region [qo 2 .mv [qb false]] [2])
 (.ret))
 (.skip))))
 (.region [qm 9 3, qo 10 (.bin .add) [.t 9, qi 1], qm 3 10] [1, 3]))))))
 (.seq (.region [qo 18 (.fieldAddr 0) [.t 1], qo 19 (.load 1 false) [.t 18], qo 20 (.bin .eql) [.t 19, .c (.str [])], qm 21 20, qg 22 (.fieldAddr 2) [.t 1] [] 21 true,
qg 23 (.load 1 false) [.t 22] [] 21 true, qg 24 .len [.t 23] [] 21 true, qg 25 (.bin .eql) [.t 24, qi 0] [] 21 true, qo 26 .pick [.t 21, .t 25, qb false], qm 27 26,
qg 28 (.fieldAddr 1) [.t 1] [] 27 false, qg 29 (.load 1 false) [.t 28] [] 27 false, qg 30 (.bin .eql) [.t 29, qi 0] [] 27 false, qv 31 30 27 false, qg 32 (.fieldAddr 0) [.t 1] [] 31 true,
qg 33 (.load 1 false) [.t 32] [] 31 true, qg 34 (.call .wr) [qf 31, .t 33, qi 2] [] 31 true, qg 35 .pick [.t 31, .t 34, qb false] [] 27 false, qo 36 .pick [.t 27, qb true, .t 35], qm 2 36] [2])
 (.ret))), [.tmp 2]⟩
def v_term_Text : VFunc := ⟨6, .seq (.region [qt 1 .box [.t 0] [0], qo 2 .mv [.c (.str [])]] [1])
 (.seq (.region [qo 3 (.loadT 3 true) [.t 1], qt 4 (.call .wr) [qf 15, .t 3] [3], qt 5 (.call .wr) [qf 32, .t 4] [4], qm 2 5] [2])
 (.ret)), [.tmp 2]⟩
def v_term_Right : VFunc := ⟨33, .seq (.region [qt 1 .box [.t 0] [0], qo 2 .mv [qb false]] [1])
 (.seq (.seq (.region [qo 5 (.fieldAddr 0) [.t 1], qo 6 (.load 1 false) [.t 5], qo 7 (.bin .eql) [.t 6, .c (.str [])]] [1, 7])
 (.cond (.t 7)
 (.seq (.region [qo 8 (.fieldAddr 2) [.t 1], qo 9 (.load 1 false) [.t 8], qo 10 .len [.t 9], qo 11 (.bin .eql) [.t 10, qi 0], qm 2 11] [2])
 (.ret))
 (.skip)))
 (.seq (.seq (.region [qo 12 (.fieldAddr 1) [.t 1], qo 13 (.load 1 false) [.t 12], qo 14 (.bin .neq) [.t 13, qi 0], qm 15 14, qg 16 (.fieldAddr 0) [.t 1] [] 15 false, qg 17 (.load 1 false) [.t 16] [] 15 false,
qg 18 (.build [.int .i64 0, .str [], .int .i64 0, .sl true 1 [], .sl true 9 [], .sl true 7 [], .nilh 4, .int .i64 0, .int .i64 0] [(0, 1), (1, 1)]) [qi 2, .t 17] [] 15 false,
qg 19 (.call .wr) [qf 24, .t 18] [18] 15 false, qg 20 .not [.t 19] [] 15 false, qo 21 .pick [.t 15, qb true, .t 20]] [1, 21])
 (.cond (.t 21)
 (.seq (.region [qo 2 .mv [qb false]] [2])
 (.ret))
 (.skip)))
 (.seq (.seq (.region [qo 22 (.fieldAddr 2) [.t 1], qo 23 (.load 1 false) [.t 22], qo 24 .len [.t 23], qo 25 .mv [qi 0]] [23, 24, 25])
 (.block 0 (.loop (.seq (.region [qo 26 (.bin .lss) [.t 25, .t 24]] [23, 24, 25, 26])
 (.seq (.cond (.t 26)
 (.skip)
 (.exit 0))
 (.seq (.block 1 (.seq (.region [qo 27 (.indexAddr 3) [.t 23, .t 25], qo 28 (.load 3 true) [.t 27], qo 4 (.alloc [.str [], .int .i64 0, .nilh 3]) [], qn (.store 3) [.t 4, .t 28] [28]] [4, 23, 24, 25])
 (.seq (.region [qo 29 (.loadT 3 true) [.t 4], qt 30 (.call .wr) [qf 18, .t 29] [29], qo 31 .not [.t 30]] [23, 24, 25, 31])
 (.cond (.t 31)
 (.seq (.region [qo 2 .mv [qb false]] [2])
 (.ret))
 (.skip)))))
 (.region [qo 32 (.bin .add) [.t 25, qi 1], qm 25 32] [23, 24, 25])))))))
 (.seq (.region [qo 2 .mv [qb true]] [2])
 (.ret))))), [.tmp 2]⟩
def v_term_Size : VFunc := ⟨8, .seq (.region [qt 1 .box [.t 0] [0], qo 2 .mv [qi 0]] [1])
 (.seq (.seq (.region [qo 3 (.load 3 true) [.t 1], qt 4 (.call .wr) [qf 18, .t 3] [3], qo 5 .not [.t 4]] [1, 5])
 (.cond (.t 5)
 (.seq (.region [qo 2 .mv [qi 0]] [2])
 (.ret))
 (.skip)))
 (.seq (.region [qo 6 (.loadT 3 true) [.t 1], qt 7 (.call .wr) [qf 33, .t 6] [6], qm 2 7] [2])
 (.ret))), [.tmp 2]⟩
def v_r19_Size : VFunc := ⟨38, .seq (.region [qt 1 .box [.t 0] [0], qo 2 .mv [qi 0]] [1])
 (.seq (.seq (.region [qo 5 (.load 3 true) [.t 1], qt 6 (.call .wr) [qf 16, .t 5] [5], qo 7 .not [.t 6]] [1, 7])
 (.cond (.t 7)
 (.seq (.region [qo 2 .mv [qi 0]] [2])
 (.ret))
 (.skip)))
 (.seq (.region [qo 3 .mv [.c (.int .u64 1)]] [1, 3])
 (.seq (.seq (.region [qo 8 (.fieldAddr 0) [.t 1], qo 9 (.load 1 false) [.t 8], qo 10 (.bin .eql) [.t 9, .c (.str [])]] [1, 3, 10])
 (.cond (.t 10)
 (.region [qm 11 3, qo 12 (.fieldAddr 1) [.t 1], qo 13 (.load 1 false) [.t 12], qo 14 (.call .wr) [qf 34, .t 13], qo 15 (.bin .add) [.t 11, .t 14], qm 3 15] [1, 3])
 (.skip)))
 (.seq (.seq (.region [qo 4 .mv [qi 0]] [1, 3, 4])
 (.block 0 (.loop (.seq (.seq (.region [qm 16 4, qo 17 (.fieldAddr 2) [.t 1], qo 18 (.load 1 false) [.t 17], qo 19 .len [.t 18], qo 20 (.bin .lss) [.t 16, .t 19]] [1, 3, 4, 20])
 (.cond (.t 20)
 (.skip)
 (.exit 0)))
 (.seq (.block 1 (.seq (.region [qm 23 3, qo 24 (.fieldAddr 2) [.t 1], qo 25 (.load 1 false) [.t 24], qm 26 4, qo 27 (.indexAddr 3) [.t 25, .t 26], qo 28 (.load 3 true) [.t 27], qt 29 (.call .wr) [qf 20, .t 28] [28],
qo 30 (.conv .u64) [.t 29], qo 31 (.bin .add) [.t 23, .t 30], qm 3 31] [1, 3, 4])
 (.seq (.region [qm 32 3, qo 33 (.bin .gtr) [.t 32, .c (.int .u64 1073741824)]] [1, 3, 4, 33])
 (.cond (.t 33)
 (.seq (.region [qo 2 .mv [qi 1073741824]] [2])
 (.ret))
 (.skip)))))
 (.region [qm 21 4, qo 22 (.bin .add) [.t 21, qi 1], qm 4 22] [1, 3, 4]))))))
 (.seq (.seq (.region [qm 34 3, qo 35 (.bin .gtr) [.t 34, .c (.int .u64 1073741824)]] [3, 35])
 (.cond (.t 35)
 (.seq (.region [qo 2 .mv [qi 1073741824]] [2])
 (.ret))
 (.skip)))
 (.seq (.region [qm 36 3, qo 37 (.conv .i64) [.t 36], qm 2 37] [2])
 (.ret))))))), [.tmp 2]⟩
def v_r06_SameExpr : VFunc := ⟨129, .seq (.region [qt 3 .box [.t 0] [0], qt 4 .box [.t 1] [1], qo 6 .mv [qb false]] [2, 3, 4])
 (.seq (.seq (.region [qo 9 (.fieldAddr 0) [.t 3], qo 10 (.load 1 false) [.t 9], qo 11 (.fieldAddr 0) [.t 4], qo 12 (.load 1 false) [.t 11], qo 13 (.bin .neq) [.t 10, .t 12], qm 14 13,
qg 15 (.fieldAddr 1) [.t 3] [] 14 false, qg 16 (.load 1 false) [.t 15] [] 14 false, qg 17 (.fieldAddr 1) [.t 4] [] 14 false, qg 18 (.load 1 false) [.t 17] [] 14 false,
qg 19 (.bin .neq) [.t 16, .t 18] [] 14 false, qo 20 .pick [.t 14, qb true, .t 19], qm 21 20, qg 22 (.fieldAddr 2) [.t 3] [] 21 false, qg 23 (.load 1 false) [.t 22] [] 21 false,
qg 24 (.fieldAddr 2) [.t 4] [] 21 false, qg 25 (.load 1 false) [.t 24] [] 21 false, qg 26 (.bin .neq) [.t 23, .t 25] [] 21 false, qo 27 .pick [.t 21, qb true, .t 26], qm 28 27,
qv 29 2 28 false, qv 30 29 28 false, qg 31 (.fieldAddr 7) [.t 3] [] 30 true, qg 32 (.load 2 true) [.t 31] [] 30 true, qg 33 (.fieldAddr 7) [.t 4] [] 30 true,
qg 34 (.load 2 true) [.t 33] [] 30 true, qg 35 (.eqc true true [.i, .i]) [.t 32, .t 34] [] 30 true, qg 36 .pick [.t 30, .t 35, qb false] [] 28 false, qo 37 .pick [.t 28, qb true, .t 36],
qm 38 37, qg 39 (.fieldAddr 3) [.t 3] [] 38 false, qg 40 (.load 1 false) [.t 39] [] 38 false, qg 41 .len [.t 40] [] 38 false, qg 42 (.fieldAddr 3) [.t 4] [] 38 false,
qg 43 (.load 1 false) [.t 42] [] 38 false, qg 44 .len [.t 43] [] 38 false, qg 45 (.bin .neq) [.t 41, .t 44] [] 38 false, qo 46 .pick [.t 38, qb true, .t 45], qm 47 46,
qg 48 (.fieldAddr 5) [.t 3] [] 47 false, qg 49 (.load 1 false) [.t 48] [] 47 false, qg 50 .len [.t 49] [] 47 false, qg 51 (.fieldAddr 5) [.t 4] [] 47 false,
qg 52 (.load 1 false) [.t 51] [] 47 false, qg 53 .len [.t 52] [] 47 false, qg 54 (.bin .neq) [.t 50, .t 53] [] 47 false, qo 55 .pick [.t 47, qb true, .t 54]] [2, 3, 4, 55])
 (.cond (.t 55)
 (.seq (.region [qo 6 .mv [qb false]] [6])
 (.ret))
 (.skip)))
 (.seq (.seq (.region [qo 7 .mv [qi 0]] [2, 3, 4, 7])
 (.block 0 (.loop (.seq (.seq (.region [qm 56 7, qo 57 (.fieldAddr 3) [.t 3], qo 58 (.load 1 false) [.t 57], qo 59 .len [.t 58], qo 60 (.bin .lss) [.t 56, .t 59]] [2, 3, 4, 7, 60])
 (.cond (.t 60)
 (.skip)
 (.exit 0)))
 (.seq (.block 1 (.seq (.region [qo 63 (.fieldAddr 3) [.t 3], qo 64 (.load 1 false) [.t 63], qm 65 7, qo 66 (.indexAddr 1) [.t 64, .t 65], qo 67 (.load 1 false) [.t 66], qo 68 (.fieldAddr 3) [.t 4],
qo 69 (.load 1 false) [.t 68], qm 70 7, qo 71 (.indexAddr 1) [.t 69, .t 70], qo 72 (.load 1 false) [.t 71], qo 73 (.bin .neq) [.t 67, .t 72]] [2, 3, 4, 7, 73])
 (.cond (.t 73)
 (.seq (.region [qo 6 .mv [qb false]] [6])
 (.ret))
 (.skip))))
 (.region [qm 61 7, qo 62 (.bin .add) [.t 61, qi 1], qm 7 62] [2, 3, 4, 7]))))))
 (.seq (.seq (.region [qo 8 .mv [qi 0]] [2, 3, 4, 8])
 (.block 2 (.loop (.seq (.seq (.region [qm 74 8, qo 75 (.fieldAddr 5) [.t 3], qo 76 (.load 1 false) [.t 75], qo 77 .len [.t 76], qo 78 (.bin .lss) [.t 74, .t 77]] [2, 3, 4, 8, 78])
 (.cond (.t 78)
 (.skip)
 (.exit 2)))
 (.seq (.block 3 (.seq (.region [qo 81 (.fieldAddr 5) [.t 3], qo 82 (.load 1 false) [.t 81], qm 83 8, qo 84 (.indexAddr 7) [.t 82, .t 83], qo 85 (.fieldAddr 0) [.t 84], qo 86 (.load 6 true) [.t 85],
qt 87 (.buildSl 6) [.t 86] [86], qo 88 (.fieldAddr 5) [.t 4], qo 89 (.load 1 false) [.t 88], qm 90 8, qo 91 (.indexAddr 7) [.t 89, .t 90], qo 92 (.fieldAddr 0) [.t 91],
qo 93 (.load 6 true) [.t 92], qt 94 (.buildSl 6) [.t 93] [93], qm 95 2, qt 96 (.call .wr) [qf 35, .t 87, .t 94, .t 95] [87, 94], qo 97 .not [.t 96], qm 98 97,
qg 99 (.fieldAddr 5) [.t 3] [] 98 false, qg 100 (.load 1 false) [.t 99] [] 98 false, qv 101 8 98 false, qg 102 (.indexAddr 7) [.t 100, .t 101] [] 98 false,
qg 103 (.fieldAddr 6) [.t 102] [] 98 false, qg 104 (.load 1 false) [.t 103] [] 98 false, qg 105 (.fieldAddr 5) [.t 4] [] 98 false, qg 106 (.load 1 false) [.t 105] [] 98 false,
qv 107 8 98 false, qg 108 (.indexAddr 7) [.t 106, .t 107] [] 98 false, qg 109 (.fieldAddr 6) [.t 108] [] 98 false, qg 110 (.load 1 false) [.t 109] [] 98 false, qv 111 2 98 false,
qg 112 (.call .wr) [qf 36, .t 104, .t 110, .t 111] [104, 110] 98 false, qg 113 .not [.t 112] [] 98 false, qo 114 .pick [.t 98, qb true, .t 113]] [2, 3, 4, 8, 114])
 (.cond (.t 114)
 (.seq (.region [qo 6 .mv [qb false]] [6])
 (.ret))
 (.skip))))
 (.region [qm 79 8, qo 80 (.bin .add) [.t 79, qi 1], qm 8 80] [2, 3, 4, 8]))))))
 (.seq (.region [qo 115 (.fieldAddr 4) [.t 3], qo 116 (.load 1 false) [.t 115], qo 117 (.fieldAddr 4) [.t 4], qo 118 (.load 1 false) [.t 117], qm 119 2,
qt 120 (.call .wr) [qf 37, .t 116, .t 118, .t 119] [116, 118], qm 121 120, qg 122 (.fieldAddr 6) [.t 3] [] 121 true, qg 123 (.load 1 false) [.t 122] [] 121 true,
qg 124 (.fieldAddr 6) [.t 4] [] 121 true, qg 125 (.load 1 false) [.t 124] [] 121 true, qv 126 2 121 true, qg 127 (.call .wr) [qf 38, .t 123, .t 125, .t 126] [123, 125] 121 true,
qo 128 .pick [.t 121, .t 127, qb false], qm 6 128] [6])
 (.ret))))), [.tmp 6]⟩
def v_r19_Expr : VFunc := ⟨40, .seq (.region [qt 1 .box [.t 0] [0], qo 2 (.alloc [.int .i64 0, .str [], .int .i64 0, .sl true 1 [], .sl true 9 [], .sl true 7 [], .nilh 4, .int .i64 0, .int .i64 0]) []] [1, 2])
 (.seq (.seq (.region [qo 4 (.load 3 true) [.t 1], qt 5 (.call .wr) [qf 16, .t 4] [4], qo 6 .not [.t 5]] [1, 2, 6])
 (.cond (.t 6)
 (.seq (.region [qo 7 (.build [.int .i64 0, .str [], .int .i64 0, .sl true 1 [], .sl true 9 [], .sl true 7 [], .nilh 4, .int .i64 0, .int .i64 0] []) [], qn (.store 9) [.t 2, .t 7] [7]] [2])
 (.ret))
 (.skip)))
 (.seq (.seq (.region [qo 8 (.fieldAddr 0) [.t 1], qo 9 (.load 1 false) [.t 8], qo 10 (.bin .eql) [.t 9, .c (.str [])]] [1, 2, 10])
 (.cond (.t 10)
 (.seq (.region [qo 11 (.fieldAddr 1) [.t 1], qo 12 (.load 1 false) [.t 11],
qo 13 (.build [.int .i64 0, .str [], .int .i64 0, .sl true 1 [], .sl true 9 [], .sl true 7 [], .nilh 4, .int .i64 0, .int .i64 0] [(0, 1), (2, 1)]) [qi 3, .t 12],
qn (.store 9) [.t 2, .t 13] [13]] [2])
 (.ret))
 (.skip)))
 (.seq (.region [qo 14 (.fieldAddr 2) [.t 1], qo 15 (.load 1 false) [.t 14], qo 16 .len [.t 15], qm 3 16] [1, 2, 3])
 (.seq (.seq (.region [qm 17 3, qo 18 (.bin .eql) [.t 17, qi 0]] [1, 2, 3, 18])
 (.cond (.t 18)
 (.seq (.region [qo 19 (.fieldAddr 0) [.t 1], qo 20 (.load 1 false) [.t 19],
qo 21 (.build [.int .i64 0, .str [], .int .i64 0, .sl true 1 [], .sl true 9 [], .sl true 7 [], .nilh 4, .int .i64 0, .int .i64 0] [(0, 1), (1, 1)]) [qi 2, .t 20],
qn (.store 9) [.t 2, .t 21] [21]] [2])
 (.ret))
 (.skip)))
 (.seq (.region [qo 22 (.fieldAddr 0) [.t 1], qo 23 (.load 1 false) [.t 22], qo 24 (.fieldAddr 2) [.t 1], qo 25 (.load 1 false) [.t 24], qm 26 3, qo 27 (.bin .sub) [.t 26, qi 1],
qo 28 (.slice false true 3) [.t 25, .t 27], qt 29 (.build [.str [], .int .i64 0, .nilh 3] [(0, 1), (2, 1)]) [.t 23, .t 28] [28], qt 30 (.call .al) [qf 22, .t 29] [29],
qo 31 (.fieldAddr 2) [.t 1], qo 32 (.load 1 false) [.t 31], qm 33 3, qo 34 (.bin .sub) [.t 33, qi 1], qo 35 (.indexAddr 3) [.t 32, .t 34], qo 36 (.load 3 true) [.t 35],
qt 37 (.call .al) [qf 22, .t 36] [36], qt 38 (.buildSl 9) [.t 30, .t 37] [30, 37],
qt 39 (.build [.int .i64 0, .str [], .int .i64 0, .sl true 1 [], .sl true 9 [], .sl true 7 [], .nilh 4, .int .i64 0, .int .i64 0] [(0, 1), (4, 1)]) [qi 4, .t 38] [38],
qn (.store 9) [.t 2, .t 39] [39]] [2])
 (.ret)))))), [.cell 2 9 true]⟩
def v_term_Same : VFunc := ⟨46, .seq (.region [qt 2 .box [.t 0] [0], qt 3 .box [.t 1] [1], qo 4 .mv [qb false]] [2, 3])
 (.seq (.seq (.region [qo 6 (.fieldAddr 0) [.t 2], qo 7 (.load 1 false) [.t 6], qo 8 (.fieldAddr 0) [.t 3], qo 9 (.load 1 false) [.t 8], qo 10 (.bin .neq) [.t 7, .t 9], qm 11 10,
qg 12 (.fieldAddr 1) [.t 2] [] 11 false, qg 13 (.load 1 false) [.t 12] [] 11 false, qg 14 (.fieldAddr 1) [.t 3] [] 11 false, qg 15 (.load 1 false) [.t 14] [] 11 false,
qg 16 (.bin .neq) [.t 13, .t 15] [] 11 false, qo 17 .pick [.t 11, qb true, .t 16], qm 18 17, qg 19 (.fieldAddr 2) [.t 2] [] 18 false, qg 20 (.load 1 false) [.t 19] [] 18 false,
qg 21 .len [.t 20] [] 18 false, qg 22 (.fieldAddr 2) [.t 3] [] 18 false, qg 23 (.load 1 false) [.t 22] [] 18 false, qg 24 .len [.t 23] [] 18 false,
qg 25 (.bin .neq) [.t 21, .t 24] [] 18 false, qo 26 .pick [.t 18, qb true, .t 25]] [2, 3, 26])
 (.cond (.t 26)
 (.seq (.region [qo 4 .mv [qb false]] [4])
 (.ret))
 (.skip)))
 (.seq (.seq (.region [qo 27 (.fieldAddr 2) [.t 2], qo 28 (.load 1 false) [.t 27], qo 29 .len [.t 28], qo 30 .mv [qi 0]] [2, 3, 29, 30])
 (.block 0 (.loop (.seq (.region [qo 31 (.bin .lss) [.t 30, .t 29]] [2, 3, 29, 30, 31])
 (.seq (.cond (.t 31)
 (.skip)
 (.exit 0))
 (.seq (.block 1 (.seq (.region [qm 32 30, qm 5 32] [2, 3, 5, 29, 30])
 (.seq (.region [qo 33 (.fieldAddr 2) [.t 2], qo 34 (.load 1 false) [.t 33], qm 35 5, qo 36 (.indexAddr 3) [.t 34, .t 35], qo 37 (.load 3 true) [.t 36], qo 38 (.fieldAddr 2) [.t 3],
qo 39 (.load 1 false) [.t 38], qm 40 5, qo 41 (.indexAddr 3) [.t 39, .t 40], qo 42 (.load 3 true) [.t 41], qt 43 (.call .wr) [qf 23, .t 37, .t 42] [37, 42], qo 44 .not [.t 43]] [2, 3, 29, 30, 44])
 (.cond (.t 44)
 (.seq (.region [qo 4 .mv [qb false]] [4])
 (.ret))
 (.skip)))))
 (.region [qo 45 (.bin .add) [.t 30, qi 1], qm 30 45] [2, 3, 29, 30])))))))
 (.seq (.region [qo 4 .mv [qb true]] [4])
 (.ret)))), [.tmp 4]⟩
def v_show_RightExpr : VFunc := ⟨137, .seq (.region [qt 1 .box [.t 0] [0], qo 2 .mv [qb false]] [1])
 (.seq (.region [qo 5 (.fieldAddr 3) [.t 1], qo 6 (.load 1 false) [.t 5], qo 7 .len [.t 6], qo 8 (.fieldAddr 4) [.t 1], qo 9 (.load 1 false) [.t 8], qo 10 .len [.t 9], qo 11 (.fieldAddr 5) [.t 1],
qo 12 (.load 1 false) [.t 11], qo 13 .len [.t 12], qo 14 (.fieldAddr 6) [.t 1], qo 15 (.load 1 false) [.t 14], qo 16 .len [.t 15],
qo 17 (.build [.int .i64 0, .int .i64 0, .int .i64 0, .int .i64 0] [(0, 1), (1, 1), (2, 1), (3, 1)]) [.t 7, .t 10, .t 13, .t 16],
qo 3 (.alloc [.int .i64 0, .int .i64 0, .int .i64 0, .int .i64 0]) [], qn (.store 4) [.t 3, .t 17] []] [1, 3])
 (.seq (.region [qo 18 (.fieldAddr 0) [.t 1], qo 19 (.load 1 false) [.t 18], qo 20 (.bin .eql) [.t 19, qi 1], qm 21 20, qg 22 (.fieldAddr 0) [.t 1] [] 21 false, qg 23 (.load 1 false) [.t 22] [] 21 false,
qg 24 (.bin .eql) [.t 23, qi 2] [] 21 false, qo 25 .pick [.t 21, qb true, .t 24], qm 4 25] [1, 3, 4])
 (.seq (.seq (.region [qm 26 4, qo 27 .not [.t 26], qm 28 27, qg 29 (.fieldAddr 1) [.t 1] [] 28 true, qg 30 (.load 1 false) [.t 29] [] 28 true, qg 31 (.bin .neq) [.t 30, .c (.str [])] [] 28 true,
qo 32 .pick [.t 28, .t 31, qb false], qm 33 32, qg 34 (.fieldAddr 0) [.t 1] [] 33 false, qg 35 (.load 1 false) [.t 34] [] 33 false, qg 36 (.bin .neq) [.t 35, qi 3] [] 33 false,
qv 37 36 33 false, qg 38 (.fieldAddr 2) [.t 1] [] 37 true, qg 39 (.load 1 false) [.t 38] [] 37 true, qg 40 (.bin .neq) [.t 39, qi 0] [] 37 true,
qg 41 .pick [.t 37, .t 40, qb false] [] 33 false, qo 42 .pick [.t 33, qb true, .t 41], qm 43 42, qg 44 (.fieldAddr 4) [.t 1] [] 43 false, qg 45 (.load 1 false) [.t 44] [] 43 false,
qg 46 (.call .wr) [qf 39, .t 45, qf 24] [45] 43 false, qg 47 .not [.t 46] [] 43 false, qo 48 .pick [.t 43, qb true, .t 47]] [1, 3, 48])
 (.cond (.t 48)
 (.seq (.region [qo 2 .mv [qb false]] [2])
 (.ret))
 (.skip)))
 (.seq (.seq (.region [qo 49 (.fieldAddr 0) [.t 1], qo 50 (.load 1 false) [.t 49]] [1, 3, 50])
 (.block 0 (.seq (.region [qo 52 (.bin .eql) [.t 50, qi 1], qm 51 52] [1, 3, 50, 51])
 (.cond (.t 51)
 (.seq (.region [qo 53 (.load 4 true) [.t 3], qo 54 (.build [.int .i64 0, .int .i64 0, .int .i64 0, .int .i64 0] []) [], qo 55 (.eqc false true [.i, .i, .i, .i]) [.t 53, .t 54], qm 56 55,
qg 57 (.fieldAddr 1) [.t 1] [] 56 true, qg 58 (.load 1 false) [.t 57] [] 56 true, qg 59 (.call .wr) [qf 40, .t 58] [] 56 true, qo 60 .pick [.t 56, .t 59, qb false], qm 2 60] [2])
 (.ret))
 (.seq (.region [qo 62 (.bin .eql) [.t 50, qi 2], qm 61 62] [1, 3, 50, 61])
 (.cond (.t 61)
 (.seq (.region [qo 63 (.load 4 true) [.t 3], qo 64 (.build [.int .i64 0, .int .i64 0, .int .i64 0, .int .i64 0] []) [], qo 65 (.eqc false true [.i, .i, .i, .i]) [.t 63, .t 64], qm 66 65,
qg 67 (.fieldAddr 1) [.t 1] [] 66 true, qg 68 (.load 1 false) [.t 67] [] 66 true, qg 69 (.call .wr) [qf 41, .t 68, qi 2] [] 66 true, qo 70 .pick [.t 66, .t 69, qb false], qm 2 70] [2])
 (.ret))
 (.seq (.region [qo 72 (.bin .eql) [.t 50, qi 3], qm 71 72] [1, 3, 50, 71])
 (.cond (.t 71)
 (.seq (.region [qo 73 (.load 4 true) [.t 3], qo 74 (.build [.int .i64 0, .int .i64 0, .int .i64 0, .int .i64 0] []) [], qo 75 (.eqc false true [.i, .i, .i, .i]) [.t 73, .t 74], qm 2 75] [2])
 (.ret))
 (.seq (.region [qo 77 (.bin .eql) [.t 50, qi 4], qm 76 77] [1, 3, 50, 76])
 (.cond (.t 76)
 (.seq (.region [qo 78 (.load 4 true) [.t 3], qo 79 (.build [.int .i64 0, .int .i64 0, .int .i64 0, .int .i64 0] [(1, 1)]) [qi 2], qo 80 (.eqc false true [.i, .i, .i, .i]) [.t 78, .t 79], qm 2 80] [2])
 (.ret))
 (.seq (.region [qo 82 (.bin .eql) [.t 50, qi 5], qm 81 82] [1, 3, 50, 81])
 (.cond (.t 81)
 (.seq (.region [qo 83 (.fieldAddr 0) [.t 3], qo 84 (.load 1 false) [.t 83], qo 85 (.bin .gtr) [.t 84, qi 0], qm 86 85, qg 87 (.load 4 true) [.t 3] [] 86 true, qg 88 (.fieldAddr 0) [.t 3] [] 86 true,
qg 89 (.load 1 false) [.t 88] [] 86 true, qg 90 (.build [.int .i64 0, .int .i64 0, .int .i64 0, .int .i64 0] [(0, 1), (1, 1)]) [.t 89, qi 1] [] 86 true,
qg 91 (.eqc false true [.i, .i, .i, .i]) [.t 87, .t 90] [] 86 true, qo 92 .pick [.t 86, .t 91, qb false], qm 93 92, qg 94 (.fieldAddr 3) [.t 1] [] 93 true,
qg 95 (.load 1 false) [.t 94] [] 93 true, qg 96 (.call .wr) [qf 42, .t 95, qf 43] [95] 93 true, qo 97 .pick [.t 93, .t 96, qb false], qm 2 97] [2])
 (.ret))
 (.seq (.region [qo 99 (.bin .eql) [.t 50, qi 6], qm 98 99] [1, 3, 50, 98])
 (.cond (.t 98)
 (.seq (.region [qo 100 (.fieldAddr 3) [.t 3], qo 101 (.load 1 false) [.t 100], qo 102 (.bin .gtr) [.t 101, qi 0], qm 103 102, qg 104 (.load 4 true) [.t 3] [] 103 true,
qg 105 (.fieldAddr 3) [.t 3] [] 103 true, qg 106 (.load 1 false) [.t 105] [] 103 true,
qg 107 (.build [.int .i64 0, .int .i64 0, .int .i64 0, .int .i64 0] [(1, 1), (3, 1)]) [qi 1, .t 106] [] 103 true, qg 108 (.eqc false true [.i, .i, .i, .i]) [.t 104, .t 107] [] 103 true,
qo 109 .pick [.t 103, .t 108, qb false], qm 110 109, qg 111 (.fieldAddr 6) [.t 1] [] 110 true, qg 112 (.load 1 false) [.t 111] [] 110 true, qg 113 (.call .wr) [qf 44, .t 112] [112] 110 true,
qo 114 .pick [.t 110, .t 113, qb false], qm 2 114] [2])
 (.ret))
 (.seq (.region [qo 116 (.bin .eql) [.t 50, qi 7], qm 115 116] [1, 3, 50, 115])
 (.cond (.t 115)
 (.seq (.region [qo 117 (.fieldAddr 2) [.t 3], qo 118 (.load 1 false) [.t 117], qo 119 (.bin .gtr) [.t 118, qi 0], qm 120 119, qg 121 (.load 4 true) [.t 3] [] 120 true,
qg 122 (.fieldAddr 2) [.t 3] [] 120 true, qg 123 (.load 1 false) [.t 122] [] 120 true,
qg 124 (.build [.int .i64 0, .int .i64 0, .int .i64 0, .int .i64 0] [(1, 1), (2, 1)]) [qi 1, .t 123] [] 120 true, qg 125 (.eqc false true [.i, .i, .i, .i]) [.t 121, .t 124] [] 120 true,
qo 126 .pick [.t 120, .t 125, qb false], qm 127 126, qg 128 (.fieldAddr 5) [.t 1] [] 127 true, qg 129 (.load 1 false) [.t 128] [] 127 true,
qg 130 (.call .wr) [qf 45, .t 129, qf 46] [129] 127 true, qo 131 .pick [.t 127, .t 130, qb false], qm 2 131] [2])
 (.ret))
 (.seq (.region [qo 133 (.bin .eql) [.t 50, qi 8], qm 132 133] [3, 132])
 (.cond (.t 132)
 (.seq (.region [qo 134 (.load 4 true) [.t 3], qo 135 (.build [.int .i64 0, .int .i64 0, .int .i64 0, .int .i64 0] [(1, 1)]) [qi 3], qo 136 (.eqc false true [.i, .i, .i, .i]) [.t 134, .t 135], qm 2 136] [2])
 (.ret))
 (.skip)))))))))))))))))))
 (.seq (.region [qo 2 .mv [qb false]] [2])
 (.ret)))))), [.tmp 2]⟩
def v_term_of : VFunc := ⟨69, .seq (.region [qt 1 .box [.t 0] [0], qo 2 (.alloc [.str [], .int .i64 0, .nilh 3]) [], qo 3 .mv [qb false]] [1, 2])
 (.scope (.seq (.seq (.region [qo 9 (.fieldAddr 0) [.t 1], qo 10 (.load 1 false) [.t 9], qo 11 (.bin .eql) [.t 10, qi 3]] [1, 2, 11])
 (.cond (.t 11)
 (.seq (.region [qo 12 (.fieldAddr 2) [.t 1], qo 13 (.load 1 false) [.t 12], qo 14 (.build [.str [], .int .i64 0, .nilh 3] [(1, 1)]) [.t 13], qn (.store 3) [.t 2, .t 14] [14], qo 3 .mv [qb true]] [2, 3])
 (.ret))
 (.skip)))
 (.seq (.region [qo 4 .mv [.c (.nilh 3)]] [1, 2, 4])
 (.seq (.label)
 (.seq (.block 0 (.loop (.block 1 (.seq (.region [qo 15 (.fieldAddr 0) [.t 1], qo 16 (.load 1 false) [.t 15]] [1, 2, 4, 16])
 (.block 2 (.seq (.region [qo 19 (.bin .eql) [.t 16, qi 4], qm 18 19] [1, 2, 4, 16, 18])
 (.cond (.t 18)
 (.seq (.region [qo 21 (.fieldAddr 4) [.t 1], qo 22 (.load 1 false) [.t 21], qo 23 (.indexAddr 9) [.t 22, qi 1], qo 24 (.load 9 true) [.t 23], qt 25 (.call .wr) [qf 25, .t 24] [24], qt 20 .mv [.t 25] [25],
qo 26 (.extract 0) [.t 20], qt 27 (.extract 1) [.t 20] [20], qo 5 (.alloc [.str [], .int .i64 0, .nilh 3]) [], qn (.store 3) [.t 5, .t 26] [26], qm 6 27] [1, 2, 4, 5, 6])
 (.seq (.seq (.region [qm 28 6, qo 29 .not [.t 28]] [1, 2, 4, 5, 29])
 (.cond (.t 29)
 (.seq (.region [qo 30 (.build [.str [], .int .i64 0, .nilh 3] []) [], qn (.store 3) [.t 2, .t 30] [30], qo 3 .mv [qb false]] [2, 3])
 (.ret))
 (.skip)))
 (.seq (.region [qt 31 .mv [.t 4] [4], qo 32 (.loadT 3 true) [.t 5], qt 33 (.buildSl 3) [.t 32] [32], qo 34 (.appendH 3 48) [.t 31, .t 33], qt 4 .thaw [.t 34] [34]] [1, 2, 4])
 (.region [qo 35 (.fieldAddr 4) [.t 1], qo 36 (.load 1 false) [.t 35], qo 37 (.indexAddr 9) [.t 36, qi 0], qo 38 (.load 9 true) [.t 37], qn (.store 9) [.t 1, .t 38] [38]] [1, 2, 4]))))
 (.seq (.region [qo 40 (.bin .eql) [.t 16, qi 2], qm 39 40] [1, 2, 4, 39])
 (.cond (.t 39)
 (.exit 0)
 (.seq (.region [qo 17 (.build [.str [], .int .i64 0, .nilh 3] []) [], qn (.store 3) [.t 2, .t 17] [17], qo 3 .mv [qb false]] [2, 3])
 (.ret)))))))))))
 (.seq (.seq (.region [qm 41 4, qo 42 .len [.t 41], qo 43 (.bin .sub) [.t 42, qi 1], qo 7 .mv [qi 0], qm 8 43] [1, 2, 4, 7, 8])
 (.block 3 (.loop (.seq (.seq (.region [qm 44 7, qm 45 8, qo 46 (.bin .lss) [.t 44, .t 45]] [1, 2, 4, 7, 8, 46])
 (.cond (.t 46)
 (.skip)
 (.exit 3)))
 (.seq (.block 4 (.region [qm 51 4, qm 52 7, qm 53 4, qm 54 8, qm 55 4, qm 56 8, qo 57 (.indexAddr 3) [.t 55, .t 56], qo 58 (.load 3 true) [.t 57], qm 59 4, qm 60 7, qo 61 (.indexAddr 3) [.t 59, .t 60],
qo 62 (.load 3 true) [.t 61], qo 63 (.indexAddr 3) [.t 51, .t 52], qn (.store 3) [.t 63, .t 58] [58], qo 64 (.indexAddr 3) [.t 53, .t 54], qn (.store 3) [.t 64, .t 62] [62]] [1, 2, 4, 7, 8]))
 (.region [qm 47 7, qo 48 (.bin .add) [.t 47, qi 1], qm 49 8, qo 50 (.bin .sub) [.t 49, qi 1], qm 7 48, qm 8 50] [1, 2, 4, 7, 8]))))))
 (.seq (.region [qo 65 (.fieldAddr 1) [.t 1], qo 66 (.load 1 false) [.t 65], qt 67 .mv [.t 4] [4], qt 68 (.build [.str [], .int .i64 0, .nilh 3] [(0, 1), (2, 1)]) [.t 66, .t 67] [67],
qn (.store 3) [.t 2, .t 68] [68], qo 3 .mv [qb true]] [2, 3])
 (.ret)))))))), [.cell 2 3 true, .tmp 3]⟩
def v_r07_RightExpr : VFunc := ⟨157, .seq (.region [qt 1 .box [.t 0] [0], qo 2 .mv [qb false]] [1])
 (.seq (.seq (.region [qo 5 (.fieldAddr 4) [.t 1], qo 6 (.load 1 false) [.t 5], qt 7 (.call .wr) [qf 47, .t 6] [6], qo 8 .not [.t 7], qm 9 8, qg 10 (.fieldAddr 1) [.t 1] [] 9 false,
qg 11 (.load 1 false) [.t 10] [] 9 false, qg 12 (.bin .neq) [.t 11, .c (.str [])] [] 9 false, qv 13 12 9 false, qg 14 (.fieldAddr 0) [.t 1] [] 13 true,
qg 15 (.load 1 false) [.t 14] [] 13 true, qg 16 (.bin .neq) [.t 15, qi 1] [] 13 true, qg 17 .pick [.t 13, .t 16, qb false] [] 9 false, qv 18 17 9 false,
qg 19 (.fieldAddr 0) [.t 1] [] 18 true, qg 20 (.load 1 false) [.t 19] [] 18 true, qg 21 (.bin .neq) [.t 20, qi 2] [] 18 true, qg 22 .pick [.t 18, .t 21, qb false] [] 9 false,
qo 23 .pick [.t 9, qb true, .t 22], qm 24 23, qg 25 (.fieldAddr 2) [.t 1] [] 24 false, qg 26 (.load 1 false) [.t 25] [] 24 false, qg 27 (.bin .neq) [.t 26, qi 0] [] 24 false,
qv 28 27 24 false, qg 29 (.fieldAddr 0) [.t 1] [] 28 true, qg 30 (.load 1 false) [.t 29] [] 28 true, qg 31 (.bin .neq) [.t 30, qi 3] [] 28 true,
qg 32 .pick [.t 28, .t 31, qb false] [] 24 false, qo 33 .pick [.t 24, qb true, .t 32]] [1, 33])
 (.cond (.t 33)
 (.seq (.region [qo 2 .mv [qb false]] [2])
 (.ret))
 (.skip)))
 (.seq (.seq (.region [qo 34 (.fieldAddr 0) [.t 1], qo 35 (.load 1 false) [.t 34]] [1, 35])
 (.block 0 (.seq (.region [qo 37 (.bin .eql) [.t 35, qi 1], qm 36 37] [1, 35, 36])
 (.cond (.t 36)
 (.seq (.region [qo 38 (.load 9 true) [.t 1], qt 39 (.call .wr) [qf 48, .t 38, qi 0, qi 0, qi 0, qi 0] [38], qm 40 39, qg 41 (.fieldAddr 1) [.t 1] [] 40 true, qg 42 (.load 1 false) [.t 41] [] 40 true,
qg 43 (.call .wr) [qf 49, .t 42] [] 40 true, qo 44 .pick [.t 40, .t 43, qb false], qm 2 44] [2])
 (.ret))
 (.seq (.region [qo 46 (.bin .eql) [.t 35, qi 2], qm 45 46] [1, 35, 45])
 (.cond (.t 45)
 (.seq (.region [qo 47 (.load 9 true) [.t 1], qt 48 (.call .wr) [qf 48, .t 47, qi 0, qi 0, qi 0, qi 0] [47], qm 49 48, qg 50 (.fieldAddr 1) [.t 1] [] 49 true, qg 51 (.load 1 false) [.t 50] [] 49 true,
qg 52 (.call .wr) [qf 31, .t 51, qi 2] [] 49 true, qo 53 .pick [.t 49, .t 52, qb false], qm 2 53] [2])
 (.ret))
 (.seq (.region [qo 55 (.bin .eql) [.t 35, qi 3], qm 54 55] [1, 35, 54])
 (.cond (.t 54)
 (.seq (.region [qo 56 (.loadT 9 true) [.t 1], qt 57 (.call .wr) [qf 48, .t 56, qi 0, qi 0, qi 0, qi 0] [56], qm 2 57] [2])
 (.ret))
 (.seq (.region [qo 59 (.bin .eql) [.t 35, qi 4], qm 58 59] [1, 35, 58])
 (.cond (.t 58)
 (.seq (.region [qo 60 (.loadT 9 true) [.t 1], qt 61 (.call .wr) [qf 48, .t 60, qi 0, qi 2, qi 0, qi 0] [60], qm 2 61] [2])
 (.ret))
 (.seq (.region [qo 63 (.bin .eql) [.t 35, qi 8], qm 62 63] [1, 35, 62])
 (.cond (.t 62)
 (.seq (.region [qo 64 (.loadT 9 true) [.t 1], qt 65 (.call .wr) [qf 48, .t 64, qi 0, qi 3, qi 0, qi 0] [64], qm 2 65] [2])
 (.ret))
 (.seq (.region [qo 67 (.bin .eql) [.t 35, qi 5], qm 66 67] [1, 35, 66])
 (.cond (.t 66)
 (.seq (.seq (.region [qo 3 .mv [qi 0]] [1, 3])
 (.block 1 (.loop (.seq (.seq (.region [qm 68 3, qo 69 (.fieldAddr 3) [.t 1], qo 70 (.load 1 false) [.t 69], qo 71 .len [.t 70], qo 72 (.bin .lss) [.t 68, .t 71]] [1, 3, 72])
 (.cond (.t 72)
 (.skip)
 (.exit 1)))
 (.seq (.block 2 (.seq (.region [qo 75 (.fieldAddr 3) [.t 1], qo 76 (.load 1 false) [.t 75], qm 77 3, qo 78 (.indexAddr 1) [.t 76, .t 77], qo 79 (.load 1 false) [.t 78], qo 80 (.bin .neq) [.t 79, .c (.str [95])], qm 81 80,
qg 82 (.fieldAddr 3) [.t 1] [] 81 true, qg 83 (.load 1 false) [.t 82] [] 81 true, qv 84 3 81 true, qg 85 (.indexAddr 1) [.t 83, .t 84] [] 81 true, qg 86 (.load 1 false) [.t 85] [] 81 true,
qg 87 (.call .wr) [qf 31, .t 86, qi 1] [] 81 true, qg 88 .not [.t 87] [] 81 true, qo 89 .pick [.t 81, .t 88, qb false]] [1, 3, 89])
 (.cond (.t 89)
 (.seq (.region [qo 2 .mv [qb false]] [2])
 (.ret))
 (.skip))))
 (.region [qm 73 3, qo 74 (.bin .add) [.t 73, qi 1], qm 3 74] [1, 3]))))))
 (.seq (.region [qo 90 (.fieldAddr 3) [.t 1], qo 91 (.load 1 false) [.t 90], qo 92 .len [.t 91], qo 93 (.bin .gtr) [.t 92, qi 0], qm 94 93, qg 95 (.load 9 true) [.t 1] [] 94 true,
qg 96 (.fieldAddr 3) [.t 1] [] 94 true, qg 97 (.load 1 false) [.t 96] [] 94 true, qg 98 .len [.t 97] [] 94 true, qg 99 (.call .wr) [qf 48, .t 95, .t 98, qi 1, qi 0, qi 0] [95] 94 true,
qo 100 .pick [.t 94, .t 99, qb false], qm 2 100] [2])
 (.ret)))
 (.seq (.region [qo 102 (.bin .eql) [.t 35, qi 6], qm 101 102] [1, 35, 101])
 (.cond (.t 101)
 (.seq (.region [qo 103 (.fieldAddr 6) [.t 1], qo 104 (.load 1 false) [.t 103], qo 105 .len [.t 104], qo 106 (.bin .gtr) [.t 105, qi 0], qm 107 106, qg 108 (.load 9 true) [.t 1] [] 107 true,
qg 109 (.fieldAddr 6) [.t 1] [] 107 true, qg 110 (.load 1 false) [.t 109] [] 107 true, qg 111 .len [.t 110] [] 107 true,
qg 112 (.call .wr) [qf 48, .t 108, qi 0, qi 1, qi 0, .t 111] [108] 107 true, qo 113 .pick [.t 107, .t 112, qb false], qm 114 113, qg 115 (.fieldAddr 6) [.t 1] [] 114 true,
qg 116 (.load 1 false) [.t 115] [] 114 true, qg 117 (.call .wr) [qf 50, .t 116] [116] 114 true, qo 118 .pick [.t 114, .t 117, qb false], qm 2 118] [2])
 (.ret))
 (.seq (.region [qo 120 (.bin .eql) [.t 35, qi 7], qm 119 120] [1, 119])
 (.cond (.t 119)
 (.seq (.seq (.region [qo 4 .mv [qi 0]] [1, 4])
 (.block 3 (.loop (.seq (.seq (.region [qm 121 4, qo 122 (.fieldAddr 5) [.t 1], qo 123 (.load 1 false) [.t 122], qo 124 .len [.t 123], qo 125 (.bin .lss) [.t 121, .t 124]] [1, 4, 125])
 (.cond (.t 125)
 (.skip)
 (.exit 3)))
 (.seq (.block 4 (.seq (.region [qo 128 (.fieldAddr 5) [.t 1], qo 129 (.load 1 false) [.t 128], qm 130 4, qo 131 (.indexAddr 7) [.t 129, .t 130], qo 132 (.fieldAddr 0) [.t 131], qo 133 (.load 6 true) [.t 132],
qt 134 (.call .wr) [qf 51, .t 133] [133], qo 135 .not [.t 134], qm 136 135, qg 137 (.fieldAddr 5) [.t 1] [] 136 false, qg 138 (.load 1 false) [.t 137] [] 136 false, qv 139 4 136 false,
qg 140 (.indexAddr 7) [.t 138, .t 139] [] 136 false, qg 141 (.fieldAddr 6) [.t 140] [] 136 false, qg 142 (.load 1 false) [.t 141] [] 136 false,
qg 143 (.call .wr) [qf 52, .t 142] [142] 136 false, qg 144 .not [.t 143] [] 136 false, qo 145 .pick [.t 136, qb true, .t 144]] [1, 4, 145])
 (.cond (.t 145)
 (.seq (.region [qo 2 .mv [qb false]] [2])
 (.ret))
 (.skip))))
 (.region [qm 126 4, qo 127 (.bin .add) [.t 126, qi 1], qm 4 127] [1, 4]))))))
 (.seq (.region [qo 146 (.fieldAddr 5) [.t 1], qo 147 (.load 1 false) [.t 146], qo 148 .len [.t 147], qo 149 (.bin .gtr) [.t 148, qi 0], qm 150 149, qg 151 (.load 9 true) [.t 1] [] 150 true,
qg 152 (.fieldAddr 5) [.t 1] [] 150 true, qg 153 (.load 1 false) [.t 152] [] 150 true, qg 154 .len [.t 153] [] 150 true,
qg 155 (.call .wr) [qf 48, .t 151, qi 0, qi 1, .t 154, qi 0] [151] 150 true, qo 156 .pick [.t 150, .t 155, qb false], qm 2 156] [2])
 (.ret)))
 (.skip)))))))))))))))))))
 (.seq (.region [qo 2 .mv [qb false]] [2])
 (.ret)))), [.tmp 2]⟩
def v_parse_Expr : VFunc := ⟨55, .seq (.region [qo 4 (.alloc [.int .i64 0, .str [], .int .i64 0, .sl true 1 [], .sl true 9 [], .sl true 7 [], .nilh 4, .int .i64 0, .int .i64 0]) [], qo 5 (.alloc [.int .i64 0, .int .i64 0, .int .i64 0]) []] [0, 1, 4, 5])
 (.seq (.region [qm 9 0, qo 10 (.call .wr) [qf 53, .t 9], qm 6 10] [1, 4, 5, 6])
 (.seq (.region [qm 11 6, qo 12 (.call .wr) [qf 54, .t 11, .c (.str [123])]] [1, 4, 5, 6])
 (.seq (.region [qm 13 6, qo 14 (.call .wr) [qf 55, .t 13], qo 7 (.alloc [.int .i64 0, .str [], .int .i64 0, .sl true 1 [], .sl true 9 [], .sl true 7 [], .nilh 4, .int .i64 0, .int .i64 0]) [],
qn (.store 9) [.t 7, .t 14] [14]] [1, 4, 5, 6, 7])
 (.seq (.region [qm 15 6, qo 16 (.call .wr) [qf 54, .t 15, .c (.str [125])]] [1, 4, 5, 6, 7])
 (.seq (.region [qm 17 6, qo 18 (.call .wr) [qf 56, .t 17]] [1, 4, 5, 6, 7])
 (.seq (.region [qt 19 .mv [.t 1] [1], qt 20 (.build [.sl true 5 [], .bool false, .int .i64 0, .int .i64 0, .int .i64 0] [(0, 1)]) [.t 19] [19], qt 21 .box [.t 20] [20], qm 8 21] [4, 5, 6, 7, 8])
 (.seq (.seq (.region [qm 22 6, qo 23 .nilCheck [.t 22], qo 24 (.fieldAddr 2) [.t 23], qo 25 (.load 1 false) [.t 24], qo 26 .not [.t 25]] [4, 5, 6, 7, 8, 26])
 (.cond (.t 26)
 (.seq (.region [qm 27 8, qo 28 (.loadT 9 true) [.t 7], qt 29 (.call .wr) [qf 57, .t 27, .t 28] [28], qn (.store 9) [.t 7, .t 29] [29]] [4, 5, 6, 7, 8])
 (.region [qm 30 6, qm 31 6, qm 32 8, qo 33 .nilCheck [.t 32], qo 34 (.fieldAddr 1) [.t 33], qo 35 (.load 1 false) [.t 34], qm 36 8, qo 37 .nilCheck [.t 36], qo 38 (.fieldAddr 2) [.t 37],
qo 39 (.load 3 true) [.t 38], qo 40 .nilCheck [.t 30], qo 41 (.fieldAddr 2) [.t 40], qn (.store 1) [.t 41, .t 35] [], qo 42 .nilCheck [.t 31], qo 43 (.fieldAddr 3) [.t 42],
qn (.store 3) [.t 43, .t 39] []] [4, 5, 6, 7]))
 (.skip)))
 (.seq (.seq (.region [qm 44 6, qo 45 .nilCheck [.t 44], qo 46 (.fieldAddr 2) [.t 45], qo 47 (.load 1 false) [.t 46]] [4, 5, 6, 7, 47])
 (.cond (.t 47)
 (.seq (.regionD [] [qo 48 (.build [.int .i64 0, .str [], .int .i64 0, .sl true 1 [], .sl true 9 [], .sl true 7 [], .nilh 4, .int .i64 0, .int .i64 0] []) [], qm 49 6, qo 50 .nilCheck [.t 49],
qo 51 (.fieldAddr 3) [.t 50], qo 52 (.load 3 true) [.t 51], qn (.storeP 9) [.t 4, .t 48] [48], qn (.store 3) [.t 5, .t 52] []] [(51, 4)] [4, 5])
 (.ret))
 (.skip)))
 (.seq (.region [qo 53 (.loadT 9 true) [.t 7], qo 54 (.build [.int .i64 0, .int .i64 0, .int .i64 0] []) [], qn (.store 9) [.t 4, .t 53] [53], qn (.store 3) [.t 5, .t 54] []] [4, 5])
 (.ret)))))))))), [.cell 4 9 true, .cell 5 3 true]⟩
def v_r19_Wide : VFunc := ⟨31, .seq (.region [qt 2 .box [.t 0] [0], qo 4 .mv [qi 0]] [1, 2])
 (.seq (.region [qo 5 .mv [qi 1]] [1, 2, 5])
 (.seq (.seq (.region [qo 6 .mv [qi 0]] [1, 2, 5, 6])
 (.block 0 (.loop (.seq (.seq (.region [qm 7 6, qo 8 (.fieldAddr 2) [.t 2], qo 9 (.load 1 false) [.t 8], qo 10 .len [.t 9], qo 11 (.bin .lss) [.t 7, .t 10], qm 12 11, qv 13 5 12 true, qv 14 1 12 true,
qg 15 (.bin .leq) [.t 13, .t 14] [] 12 true, qo 16 .pick [.t 12, .t 15, qb false]] [1, 2, 5, 6, 16])
 (.cond (.t 16)
 (.skip)
 (.exit 0)))
 (.seq (.block 1 (.region [qm 19 5, qo 20 (.fieldAddr 2) [.t 2], qo 21 (.load 1 false) [.t 20], qm 22 6, qo 23 (.indexAddr 3) [.t 21, .t 22], qo 24 (.load 3 true) [.t 23], qm 25 1, qm 26 5,
qo 27 (.bin .sub) [.t 25, .t 26], qt 28 (.call .wr) [qf 29, .t 24, .t 27] [24], qo 29 (.bin .add) [.t 19, .t 28], qm 5 29] [1, 2, 5, 6]))
 (.region [qm 17 6, qo 18 (.bin .add) [.t 17, qi 1], qm 6 18] [1, 2, 5, 6]))))))
 (.seq (.region [qm 30 5, qm 4 30] [4])
 (.ret)))), [.tmp 4]⟩
def v_term_expr : VFunc := ⟨31, .seq (.region [qt 1 .box [.t 0] [0], qo 2 (.alloc [.int .i64 0, .str [], .int .i64 0, .sl true 1 [], .sl true 9 [], .sl true 7 [], .nilh 4, .int .i64 0, .int .i64 0]) []] [1, 2])
 (.seq (.seq (.region [qo 7 (.fieldAddr 0) [.t 1], qo 8 (.load 1 false) [.t 7], qo 9 (.bin .eql) [.t 8, .c (.str [])]] [1, 2, 9])
 (.cond (.t 9)
 (.seq (.region [qo 10 (.fieldAddr 1) [.t 1], qo 11 (.load 1 false) [.t 10],
qo 12 (.build [.int .i64 0, .str [], .int .i64 0, .sl true 1 [], .sl true 9 [], .sl true 7 [], .nilh 4, .int .i64 0, .int .i64 0] [(0, 1), (2, 1)]) [qi 3, .t 11],
qn (.store 9) [.t 2, .t 12] [12]] [2])
 (.ret))
 (.skip)))
 (.seq (.region [qo 13 (.fieldAddr 0) [.t 1], qo 14 (.load 1 false) [.t 13],
qo 15 (.build [.int .i64 0, .str [], .int .i64 0, .sl true 1 [], .sl true 9 [], .sl true 7 [], .nilh 4, .int .i64 0, .int .i64 0] [(0, 1), (1, 1)]) [qi 2, .t 14],
qo 3 (.alloc [.int .i64 0, .str [], .int .i64 0, .sl true 1 [], .sl true 9 [], .sl true 7 [], .nilh 4, .int .i64 0, .int .i64 0]) [], qn (.store 9) [.t 3, .t 15] [15]] [1, 2, 3])
 (.seq (.seq (.region [qo 16 (.fieldAddr 2) [.t 1], qo 17 (.load 1 false) [.t 16], qo 18 .len [.t 17], qo 19 .mv [qi 0]] [2, 3, 17, 18, 19])
 (.block 0 (.loop (.seq (.region [qo 20 (.bin .lss) [.t 19, .t 18]] [2, 3, 17, 18, 19, 20])
 (.seq (.cond (.t 20)
 (.skip)
 (.exit 0))
 (.seq (.block 1 (.seq (.region [qo 21 (.indexAddr 3) [.t 17, .t 19], qo 22 (.load 3 true) [.t 21], qo 5 (.alloc [.str [], .int .i64 0, .nilh 3]) [], qn (.store 3) [.t 5, .t 22] [22]] [2, 3, 5, 17, 18, 19])
 (.seq (.region [qo 23 (.load 9 true) [.t 3], qo 6 (.alloc [.int .i64 0, .str [], .int .i64 0, .sl true 1 [], .sl true 9 [], .sl true 7 [], .nilh 4, .int .i64 0, .int .i64 0]) [],
qn (.store 9) [.t 6, .t 23] [23]] [2, 3, 5, 6, 17, 18, 19])
 (.region [qo 24 (.load 9 true) [.t 6], qo 25 (.load 3 true) [.t 5], qt 26 (.call .al) [qf 30, .t 25] [25], qt 27 (.buildSl 9) [.t 24, .t 26] [24, 26],
qt 28 (.build [.int .i64 0, .str [], .int .i64 0, .sl true 1 [], .sl true 9 [], .sl true 7 [], .nilh 4, .int .i64 0, .int .i64 0] [(0, 1), (4, 1)]) [qi 4, .t 27] [27],
qn (.store 9) [.t 3, .t 28] [28]] [2, 3, 17, 18, 19]))))
 (.region [qo 29 (.bin .add) [.t 19, qi 1], qm 19 29] [2, 3, 17, 18, 19])))))))
 (.seq (.region [qo 30 (.loadT 9 true) [.t 3], qn (.store 9) [.t 2, .t 30] [30]] [2])
 (.ret))))), [.cell 2 9 true]⟩
def v_r07_Is : VFunc := ⟨19, .seq (.region [qo 4 .mv [qb false]] [0, 1])
 (.seq (.region [qm 8 0, qo 9 (.call .wr) [qf 64, .t 8], qm 7 9, qo 10 (.extract 0) [.t 7], qo 11 (.extract 1) [.t 7],
qo 5 (.alloc [.int .i64 0, .str [], .int .i64 0, .int .i64 0, .int .i64 0, .bool false]) [], qn (.store 6) [.t 5, .t 10] [], qm 6 11] [1, 5, 6])
 (.seq (.region [qm 12 6, qm 13 12, qg 14 (.fieldAddr 0) [.t 5] [] 13 true, qg 15 (.load 1 false) [.t 14] [] 13 true, qv 16 1 13 true, qg 17 (.bin .eql) [.t 15, .t 16] [] 13 true,
qo 18 .pick [.t 13, .t 17, qb false], qm 4 18] [4])
 (.ret))), [.tmp 4]⟩
def v_show_Expr : VFunc := ⟨16, .seq (.region [qt 1 .box [.t 0] [0], qo 2 .mv [.c (.str [])]] [1])
 (.seq (.seq (.region [qo 4 (.load 9 true) [.t 1], qt 5 (.call .wr) [qf 24, .t 4] [4], qo 6 .not [.t 5]] [1, 6])
 (.cond (.t 6)
 (.seq (.region [qo 2 .mv [.c (.str [])]] [2])
 (.ret))
 (.skip)))
 (.seq (.region [qo 7 (.build [.nilp, .nilh 1] []) [], qt 8 (.boxB 109 5) [.t 7] [7], qm 3 8] [1, 3])
 (.seq (.region [qm 9 3, qo 10 (.loadT 9 true) [.t 1], qt 11 (.call .wr) [qf 65, .t 9, .t 10] [10]] [3])
 (.seq (.region [qm 12 3, qo 13 .nilCheck [.t 12], qo 14 (.fieldAddr 0) [.t 13], qo 15 (.call .wr) [qf 66, .t 14], qm 2 15] [2])
 (.ret))))), [.tmp 2]⟩
def v_term_size : VFunc := ⟨29, .seq (.region [qt 1 .box [.t 0] [0], qo 2 .mv [qi 0]] [1])
 (.seq (.region [qo 3 .mv [qi 1]] [1, 3])
 (.seq (.seq (.region [qo 6 (.fieldAddr 0) [.t 1], qo 7 (.load 1 false) [.t 6], qo 8 (.bin .eql) [.t 7, .c (.str [])]] [1, 3, 8])
 (.cond (.t 8)
 (.region [qm 9 3, qo 10 (.fieldAddr 1) [.t 1], qo 11 (.load 1 false) [.t 10], qo 12 (.call .wr) [qf 67, .t 11], qo 13 (.bin .add) [.t 9, .t 12], qm 3 13] [1, 3])
 (.skip)))
 (.seq (.seq (.region [qo 14 (.fieldAddr 2) [.t 1], qo 15 (.load 1 false) [.t 14], qo 16 .len [.t 15], qo 17 .mv [qi 0]] [3, 15, 16, 17])
 (.block 0 (.loop (.seq (.region [qo 18 (.bin .lss) [.t 17, .t 16]] [3, 15, 16, 17, 18])
 (.seq (.cond (.t 18)
 (.skip)
 (.exit 0))
 (.seq (.block 1 (.seq (.region [qo 19 (.indexAddr 3) [.t 15, .t 17], qo 20 (.load 3 true) [.t 19], qo 5 (.alloc [.str [], .int .i64 0, .nilh 3]) [], qn (.store 3) [.t 5, .t 20] [20]] [3, 5, 15, 16, 17])
 (.region [qm 21 3, qo 22 (.loadT 3 true) [.t 5], qt 23 (.call .wr) [qf 33, .t 22] [22], qo 24 (.bin .add) [.t 21, .t 23], qo 25 .min [qi 1073741824, .t 24], qm 3 25] [3, 15, 16, 17])))
 (.region [qo 26 (.bin .add) [.t 17, qi 1], qm 17 26] [3, 15, 16, 17])))))))
 (.seq (.region [qm 27 3, qo 28 .min [qi 1073741824, .t 27], qm 2 28] [2])
 (.ret))))), [.tmp 2]⟩
def v_r01_Size : VFunc := ⟨10, .seq (.region [qo 2 .mv [.c (.int .u64 0)]] [0])
 (.seq (.seq (.region [qm 3 0, qo 4 (.bin .lss) [.t 3, qi 0]] [0, 4])
 (.cond (.t 4)
 (.seq (.region [qm 5 0, qo 6 (.conv .u64) [.t 5], qo 7 (.bin .sub) [.c (.int .u64 0), .t 6], qm 2 7] [2])
 (.ret))
 (.skip)))
 (.seq (.region [qm 8 0, qo 9 (.conv .u64) [.t 8], qm 2 9] [2])
 (.ret))), [.tmp 2]⟩
def v_r06_SamePats : VFunc := ⟨67, .seq (.region [qo 6 .mv [qb false]] [0, 1, 2])
 (.seq (.seq (.region [qm 10 0, qo 11 .len [.t 10], qm 12 1, qo 13 .len [.t 12], qo 14 (.bin .neq) [.t 11, .t 13]] [0, 1, 2, 14])
 (.cond (.t 14)
 (.seq (.region [qo 6 .mv [qb false]] [6])
 (.ret))
 (.skip)))
 (.seq (.seq (.region [qo 7 .mv [qi 0]] [0, 1, 2, 7])
 (.block 0 (.loop (.seq (.seq (.region [qm 15 7, qm 16 0, qo 17 .len [.t 16], qo 18 (.bin .lss) [.t 15, .t 17]] [0, 1, 2, 7, 18])
 (.cond (.t 18)
 (.skip)
 (.exit 0)))
 (.seq (.block 1 (.seq (.regionD [8, 9] [qm 21 0, qm 22 7, qo 23 (.indexAddr 6) [.t 21, .t 22], qo 24 (.load 6 true) [.t 23], qm 25 1, qm 26 7, qo 27 (.indexAddr 6) [.t 25, .t 26], qo 28 (.loadC 6 true) [.t 27],
qo 8 (.allocR 8 [.int .i64 0, .str [], .int .i64 0, .sl true 6 [], .int .i64 0, .int .i64 0]) [],
qo 9 (.allocR 9 [.int .i64 0, .str [], .int .i64 0, .sl true 6 [], .int .i64 0, .int .i64 0]) [], qn (.storeP 6) [.t 8, .t 24] [24], qn (.storeP 6) [.t 9, .t 28] [28]] [(23, 8), (23, 9), (8, 9)] [0, 1, 2, 7, 8, 9])
 (.seq (.region [qo 29 (.fieldAddr 0) [.t 8], qo 30 (.load 1 false) [.t 29], qo 31 (.fieldAddr 0) [.t 9], qo 32 (.load 1 false) [.t 31], qo 33 (.bin .neq) [.t 30, .t 32], qm 34 33,
qg 35 (.fieldAddr 1) [.t 8] [] 34 false, qg 36 (.load 1 false) [.t 35] [] 34 false, qg 37 (.fieldAddr 1) [.t 9] [] 34 false, qg 38 (.load 1 false) [.t 37] [] 34 false,
qg 39 (.bin .neq) [.t 36, .t 38] [] 34 false, qo 40 .pick [.t 34, qb true, .t 39], qm 41 40, qg 42 (.fieldAddr 2) [.t 8] [] 41 false, qg 43 (.load 1 false) [.t 42] [] 41 false,
qg 44 (.fieldAddr 2) [.t 9] [] 41 false, qg 45 (.load 1 false) [.t 44] [] 41 false, qg 46 (.bin .neq) [.t 43, .t 45] [] 41 false, qo 47 .pick [.t 41, qb true, .t 46], qm 48 47,
qv 49 2 48 false, qv 50 49 48 false, qg 51 (.fieldAddr 4) [.t 8] [] 50 true, qg 52 (.load 2 true) [.t 51] [] 50 true, qg 53 (.fieldAddr 4) [.t 9] [] 50 true,
qg 54 (.load 2 true) [.t 53] [] 50 true, qg 55 (.eqc true true [.i, .i]) [.t 52, .t 54] [] 50 true, qg 56 .pick [.t 50, .t 55, qb false] [] 48 false, qo 57 .pick [.t 48, qb true, .t 56],
qm 58 57, qg 59 (.fieldAddr 3) [.t 8] [] 58 false, qg 60 (.load 1 false) [.t 59] [] 58 false, qg 61 (.fieldAddr 3) [.t 9] [] 58 false, qg 62 (.load 1 false) [.t 61] [] 58 false,
qv 63 2 58 false, qg 64 (.call .wr) [qf 35, .t 60, .t 62, .t 63] [60, 62] 58 false, qg 65 .not [.t 64] [] 58 false, qo 66 .pick [.t 58, qb true, .t 65]] [0, 1, 2, 7, 66])
 (.cond (.t 66)
 (.seq (.region [qo 6 .mv [qb false]] [6])
 (.ret))
 (.skip)))))
 (.region [qm 19 7, qo 20 (.bin .add) [.t 19, qi 1], qm 7 20] [0, 1, 2, 7]))))))
 (.seq (.region [qo 6 .mv [qb true]] [6])
 (.ret)))), [.tmp 6]⟩
def v_r06_SameRhs : VFunc := ⟨47, .seq (.region [qo 6 .mv [qb false]] [0, 1, 2])
 (.seq (.seq (.region [qm 8 0, qo 9 .len [.t 8], qm 10 1, qo 11 .len [.t 10], qo 12 (.bin .neq) [.t 9, .t 11]] [0, 1, 2, 12])
 (.cond (.t 12)
 (.seq (.region [qo 6 .mv [qb false]] [6])
 (.ret))
 (.skip)))
 (.seq (.seq (.region [qo 7 .mv [qi 0]] [0, 1, 2, 7])
 (.block 0 (.loop (.seq (.seq (.region [qm 13 7, qm 14 0, qo 15 .len [.t 14], qo 16 (.bin .lss) [.t 13, .t 15]] [0, 1, 2, 7, 16])
 (.cond (.t 16)
 (.skip)
 (.exit 0)))
 (.seq (.block 1 (.seq (.region [qm 19 0, qm 20 7, qo 21 (.indexAddr 10) [.t 19, .t 20], qo 22 (.fieldAddr 0) [.t 21], qo 23 (.load 1 false) [.t 22], qm 24 1, qm 25 7, qo 26 (.indexAddr 10) [.t 24, .t 25],
qo 27 (.fieldAddr 0) [.t 26], qo 28 (.load 1 false) [.t 27], qm 29 2, qt 30 (.call .wr) [qf 37, .t 23, .t 28, .t 29] [23, 28], qo 31 .not [.t 30], qm 32 31, qv 33 0 32 false,
qv 34 7 32 false, qg 35 (.indexAddr 10) [.t 33, .t 34] [] 32 false, qg 36 (.fieldAddr 1) [.t 35] [] 32 false, qg 37 (.load 9 true) [.t 36] [] 32 false, qv 38 1 32 false, qv 39 7 32 false,
qg 40 (.indexAddr 10) [.t 38, .t 39] [] 32 false, qg 41 (.fieldAddr 1) [.t 40] [] 32 false, qg 42 (.load 9 true) [.t 41] [] 32 false, qv 43 2 32 false,
qg 44 (.call .wr) [qf 21, .t 37, .t 42, .t 43] [37, 42] 32 false, qg 45 .not [.t 44] [] 32 false, qo 46 .pick [.t 32, qb true, .t 45]] [0, 1, 2, 7, 46])
 (.cond (.t 46)
 (.seq (.region [qo 6 .mv [qb false]] [6])
 (.ret))
 (.skip))))
 (.region [qm 17 7, qo 18 (.bin .add) [.t 17, qi 1], qm 7 18] [0, 1, 2, 7]))))))
 (.seq (.region [qo 6 .mv [qb true]] [6])
 (.ret)))), [.tmp 6]⟩
def v_r06_SameExprs : VFunc := ⟨30, .seq (.region [qo 6 .mv [qb false]] [0, 1, 2])
 (.seq (.seq (.region [qm 8 0, qo 9 .len [.t 8], qm 10 1, qo 11 .len [.t 10], qo 12 (.bin .neq) [.t 9, .t 11]] [0, 1, 2, 12])
 (.cond (.t 12)
 (.seq (.region [qo 6 .mv [qb false]] [6])
 (.ret))
 (.skip)))
 (.seq (.seq (.region [qo 7 .mv [qi 0]] [0, 1, 2, 7])
 (.block 0 (.loop (.seq (.seq (.region [qm 13 7, qm 14 0, qo 15 .len [.t 14], qo 16 (.bin .lss) [.t 13, .t 15]] [0, 1, 2, 7, 16])
 (.cond (.t 16)
 (.skip)
 (.exit 0)))
 (.seq (.block 1 (.seq (.region [qm 19 0, qm 20 7, qo 21 (.indexAddr 9) [.t 19, .t 20], qo 22 (.load 9 true) [.t 21], qm 23 1, qm 24 7, qo 25 (.indexAddr 9) [.t 23, .t 24], qo 26 (.load 9 true) [.t 25], qm 27 2,
qt 28 (.call .wr) [qf 21, .t 22, .t 26, .t 27] [22, 26], qo 29 .not [.t 28]] [0, 1, 2, 7, 29])
 (.cond (.t 29)
 (.seq (.region [qo 6 .mv [qb false]] [6])
 (.ret))
 (.skip))))
 (.region [qm 17 7, qo 18 (.bin .add) [.t 17, qi 1], qm 7 18] [0, 1, 2, 7]))))))
 (.seq (.region [qo 6 .mv [qb true]] [6])
 (.ret)))), [.tmp 6]⟩
def v_r06_SameBinds : VFunc := ⟨93, .seq (.region [qo 6 .mv [qb false]] [0, 1, 2])
 (.seq (.seq (.region [qm 11 0, qo 12 .len [.t 11], qm 13 1, qo 14 .len [.t 13], qo 15 (.bin .neq) [.t 12, .t 14]] [0, 1, 2, 15])
 (.cond (.t 15)
 (.seq (.region [qo 6 .mv [qb false]] [6])
 (.ret))
 (.skip)))
 (.seq (.seq (.region [qo 7 .mv [qi 0]] [0, 1, 2, 7])
 (.block 0 (.loop (.seq (.seq (.region [qm 16 7, qm 17 0, qo 18 .len [.t 17], qo 19 (.bin .lss) [.t 16, .t 18]] [0, 1, 2, 7, 19])
 (.cond (.t 19)
 (.skip)
 (.exit 0)))
 (.seq (.block 1 (.seq (.regionD [8, 9] [qm 22 0, qm 23 7, qo 24 (.indexAddr 4) [.t 22, .t 23], qo 25 (.load 4 true) [.t 24], qm 26 1, qm 27 7, qo 28 (.indexAddr 4) [.t 26, .t 27], qo 29 (.loadC 4 true) [.t 28],
qo 8 (.allocR 8 [.str [], .sl true 2 [], .int .i64 0, .int .i64 0]) [], qo 9 (.allocR 9 [.str [], .sl true 2 [], .int .i64 0, .int .i64 0]) [], qn (.storeP 4) [.t 8, .t 25] [25],
qn (.storeP 4) [.t 9, .t 29] [29]] [(24, 8), (24, 9), (8, 9)] [0, 1, 2, 7, 8, 9])
 (.seq (.seq (.region [qo 30 (.fieldAddr 0) [.t 8], qo 31 (.load 1 false) [.t 30], qo 32 (.fieldAddr 0) [.t 9], qo 33 (.load 1 false) [.t 32], qo 34 (.bin .neq) [.t 31, .t 33], qm 35 34, qv 36 2 35 false,
qv 37 36 35 false, qg 38 (.fieldAddr 2) [.t 8] [] 37 true, qg 39 (.load 2 true) [.t 38] [] 37 true, qg 40 (.fieldAddr 2) [.t 9] [] 37 true, qg 41 (.load 2 true) [.t 40] [] 37 true,
qg 42 (.eqc true true [.i, .i]) [.t 39, .t 41] [] 37 true, qg 43 .pick [.t 37, .t 42, qb false] [] 35 false, qo 44 .pick [.t 35, qb true, .t 43], qm 45 44,
qg 46 (.fieldAddr 1) [.t 8] [] 45 false, qg 47 (.load 1 false) [.t 46] [] 45 false, qg 48 .len [.t 47] [] 45 false, qg 49 (.fieldAddr 1) [.t 9] [] 45 false,
qg 50 (.load 1 false) [.t 49] [] 45 false, qg 51 .len [.t 50] [] 45 false, qg 52 (.bin .neq) [.t 48, .t 51] [] 45 false, qo 53 .pick [.t 45, qb true, .t 52]] [0, 1, 2, 7, 8, 9, 53])
 (.cond (.t 53)
 (.seq (.region [qo 6 .mv [qb false]] [6])
 (.ret))
 (.skip)))
 (.seq (.region [qo 10 .mv [qi 0]] [0, 1, 2, 7, 8, 9, 10])
 (.block 2 (.loop (.seq (.seq (.region [qm 54 10, qo 55 (.fieldAddr 1) [.t 8], qo 56 (.load 1 false) [.t 55], qo 57 .len [.t 56], qo 58 (.bin .lss) [.t 54, .t 57]] [0, 1, 2, 7, 8, 9, 10, 58])
 (.cond (.t 58)
 (.skip)
 (.exit 2)))
 (.seq (.block 3 (.seq (.region [qo 61 (.fieldAddr 1) [.t 8], qo 62 (.load 1 false) [.t 61], qm 63 10, qo 64 (.indexAddr 2) [.t 62, .t 63], qo 65 (.fieldAddr 0) [.t 64], qo 66 (.load 1 false) [.t 65],
qo 67 (.fieldAddr 1) [.t 9], qo 68 (.load 1 false) [.t 67], qm 69 10, qo 70 (.indexAddr 2) [.t 68, .t 69], qo 71 (.fieldAddr 0) [.t 70], qo 72 (.load 1 false) [.t 71], qm 73 2,
qt 74 (.call .wr) [qf 35, .t 66, .t 72, .t 73] [66, 72], qo 75 .not [.t 74], qm 76 75, qg 77 (.fieldAddr 1) [.t 8] [] 76 false, qg 78 (.load 1 false) [.t 77] [] 76 false, qv 79 10 76 false,
qg 80 (.indexAddr 2) [.t 78, .t 79] [] 76 false, qg 81 (.fieldAddr 1) [.t 80] [] 76 false, qg 82 (.load 1 false) [.t 81] [] 76 false, qg 83 (.fieldAddr 1) [.t 9] [] 76 false,
qg 84 (.load 1 false) [.t 83] [] 76 false, qv 85 10 76 false, qg 86 (.indexAddr 2) [.t 84, .t 85] [] 76 false, qg 87 (.fieldAddr 1) [.t 86] [] 76 false,
qg 88 (.load 1 false) [.t 87] [] 76 false, qv 89 2 76 false, qg 90 (.call .wr) [qf 36, .t 82, .t 88, .t 89] [82, 88] 76 false, qg 91 .not [.t 90] [] 76 false,
qo 92 .pick [.t 76, qb true, .t 91]] [0, 1, 2, 7, 8, 9, 10, 92])
 (.cond (.t 92)
 (.seq (.region [qo 6 .mv [qb false]] [6])
 (.ret))
 (.skip))))
 (.region [qm 59 10, qo 60 (.bin .add) [.t 59, qi 1], qm 10 60] [0, 1, 2, 7, 8, 9, 10])))))))))
 (.region [qm 20 7, qo 21 (.bin .add) [.t 20, qi 1], qm 7 21] [0, 1, 2, 7]))))))
 (.seq (.region [qo 6 .mv [qb true]] [6])
 (.ret)))), [.tmp 6]⟩
def v_show_all_api_Expr_ : VFunc := ⟨18, .seq (.region [qo 4 .mv [qb false]] [0, 1])
 (.seq (.seq (.region [qt 7 .mv [.t 0] [0], qo 8 .len [.t 7], qo 9 .mv [qi 0]] [1, 7, 8, 9])
 (.block 0 (.loop (.seq (.region [qo 10 (.bin .lss) [.t 9, .t 8]] [1, 7, 8, 9, 10])
 (.seq (.cond (.t 10)
 (.skip)
 (.exit 0))
 (.seq (.block 1 (.seq (.region [qo 11 (.indexAddr 9) [.t 7, .t 9], qo 12 (.load 9 true) [.t 11],
qo 6 (.alloc [.int .i64 0, .str [], .int .i64 0, .sl true 1 [], .sl true 9 [], .sl true 7 [], .nilh 4, .int .i64 0, .int .i64 0]) [], qn (.store 9) [.t 6, .t 12] [12]] [1, 6, 7, 8, 9])
 (.seq (.region [qm 13 1, qo 14 (.loadT 9 true) [.t 6], qt 15 (.call .wr) [.t 13, .t 14] [14], qo 16 .not [.t 15]] [1, 7, 8, 9, 16])
 (.cond (.t 16)
 (.seq (.region [qo 4 .mv [qb false]] [4])
 (.ret))
 (.skip)))))
 (.region [qo 17 (.bin .add) [.t 9, qi 1], qm 9 17] [1, 7, 8, 9])))))))
 (.seq (.region [qo 4 .mv [qb true]] [4])
 (.ret))), [.tmp 4]⟩
def v_show_variable : VFunc := ⟨9, .seq (.region [qo 2 .mv [qb false]] [0])
 (.seq (.region [qm 3 0, qo 4 (.call .wr) [qf 41, .t 3, qi 1], qm 5 4, qv 6 0 5 false, qg 7 (.call .wr) [qf 41, .t 6, qi 3] [] 5 false, qo 8 .pick [.t 5, qb true, .t 7], qm 2 8] [2])
 (.ret)), [.tmp 2]⟩
def v_show_is : VFunc := ⟨19, .seq (.region [qo 4 .mv [qb false]] [0, 1])
 (.seq (.region [qm 8 0, qo 9 (.call .wr) [qf 68, .t 8], qm 7 9, qo 10 (.extract 0) [.t 7], qo 11 (.extract 1) [.t 7],
qo 5 (.alloc [.int .i64 0, .str [], .int .i64 0, .int .i64 0, .int .i64 0, .bool false]) [], qn (.store 6) [.t 5, .t 10] [], qm 6 11] [1, 5, 6])
 (.seq (.region [qm 12 6, qm 13 12, qg 14 (.fieldAddr 0) [.t 5] [] 13 true, qg 15 (.load 1 false) [.t 14] [] 13 true, qv 16 1 13 true, qg 17 (.bin .eql) [.t 15, .t 16] [] 13 true,
qo 18 .pick [.t 13, .t 17, qb false], qm 4 18] [4])
 (.ret))), [.tmp 4]⟩
def v_show_all_string_ : VFunc := ⟨18, .seq (.region [qo 4 .mv [qb false]] [0, 1])
 (.seq (.seq (.region [qt 7 .mv [.t 0] [0], qo 8 .len [.t 7], qo 9 .mv [qi 0]] [1, 7, 8, 9])
 (.block 0 (.loop (.seq (.region [qo 10 (.bin .lss) [.t 9, .t 8]] [1, 7, 8, 9, 10])
 (.seq (.cond (.t 10)
 (.skip)
 (.exit 0))
 (.seq (.block 1 (.seq (.region [qo 11 (.indexAddr 1) [.t 7, .t 9], qo 12 (.load 1 false) [.t 11], qm 6 12] [1, 6, 7, 8, 9])
 (.seq (.region [qm 13 1, qm 14 6, qo 15 (.call .wr) [.t 13, .t 14], qo 16 .not [.t 15]] [1, 7, 8, 9, 16])
 (.cond (.t 16)
 (.seq (.region [qo 4 .mv [qb false]] [4])
 (.ret))
 (.skip)))))
 (.region [qo 17 (.bin .add) [.t 9, qi 1], qm 9 17] [1, 7, 8, 9])))))))
 (.seq (.region [qo 4 .mv [qb true]] [4])
 (.ret))), [.tmp 4]⟩
def v_show_param : VFunc := ⟨9, .seq (.region [qo 2 .mv [qb false]] [0])
 (.seq (.region [qm 3 0, qo 4 (.bin .eql) [.t 3, .c (.str [95])], qm 5 4, qv 6 0 5 false, qg 7 (.call .wr) [qf 41, .t 6, qi 1] [] 5 false, qo 8 .pick [.t 5, qb true, .t 7], qm 2 8] [2])
 (.ret)), [.tmp 2]⟩
def v_show_rightBinds : VFunc := ⟨58, .seq (.region [qo 2 .mv [qb false]] [0])
 (.seq (.seq (.region [qm 7 0, qo 8 .len [.t 7], qo 9 .mv [qi 0]] [0, 7, 8, 9])
 (.block 0 (.loop (.seq (.region [qo 10 (.bin .lss) [.t 9, .t 8]] [0, 7, 8, 9, 10])
 (.seq (.cond (.t 10)
 (.skip)
 (.exit 0))
 (.seq (.block 1 (.seq (.region [qm 11 9, qo 12 (.indexAddr 4) [.t 7, .t 9], qo 13 (.load 4 true) [.t 12], qo 4 (.alloc [.str [], .sl true 2 [], .int .i64 0, .int .i64 0]) [], qm 3 11, qn (.store 4) [.t 4, .t 13] [13]] [0, 3, 4, 7, 8, 9])
 (.seq (.seq (.region [qm 14 3, qo 15 (.bin .gtr) [.t 14, qi 0], qm 16 15, qv 17 0 16 true, qv 18 3 16 true, qg 19 (.bin .sub) [.t 18, qi 1] [] 16 true, qg 20 (.indexAddr 4) [.t 17, .t 19] [] 16 true,
qg 21 (.fieldAddr 0) [.t 20] [] 16 true, qg 22 (.load 1 false) [.t 21] [] 16 true, qg 23 (.fieldAddr 0) [.t 4] [] 16 true, qg 24 (.load 1 false) [.t 23] [] 16 true,
qg 25 (.bin .eql) [.t 22, .t 24] [] 16 true, qo 26 .pick [.t 16, .t 25, qb false], qm 27 26, qg 28 (.fieldAddr 0) [.t 4] [] 27 false, qg 29 (.load 1 false) [.t 28] [] 27 false,
qg 30 (.call .wr) [qf 40, .t 29] [] 27 false, qg 31 .not [.t 30] [] 27 false, qo 32 .pick [.t 27, qb true, .t 31], qm 33 32, qg 34 (.fieldAddr 1) [.t 4] [] 33 false,
qg 35 (.load 1 false) [.t 34] [] 33 false, qg 36 .len [.t 35] [] 33 false, qg 37 (.bin .eql) [.t 36, qi 0] [] 33 false, qo 38 .pick [.t 33, qb true, .t 37]] [0, 4, 7, 8, 9, 38])
 (.cond (.t 38)
 (.seq (.region [qo 2 .mv [qb false]] [2])
 (.ret))
 (.skip)))
 (.seq (.region [qo 39 (.fieldAddr 1) [.t 4], qo 40 (.load 1 false) [.t 39], qo 41 .len [.t 40], qo 42 .mv [qi 0]] [0, 7, 8, 9, 40, 41, 42])
 (.block 2 (.loop (.seq (.region [qo 43 (.bin .lss) [.t 42, .t 41]] [0, 7, 8, 9, 40, 41, 42, 43])
 (.seq (.cond (.t 43)
 (.skip)
 (.exit 2))
 (.seq (.block 3 (.seq (.region [qo 44 (.indexAddr 2) [.t 40, .t 42], qo 45 (.load 2 true) [.t 44], qo 6 (.alloc [.sl true 6 [], .sl true 10 []]) [], qn (.store 2) [.t 6, .t 45] [45]] [0, 6, 7, 8, 9, 40, 41, 42])
 (.seq (.region [qo 46 (.fieldAddr 0) [.t 6], qo 47 (.load 1 false) [.t 46], qt 48 (.call .wr) [qf 69, .t 47, qf 70] [47], qo 49 .not [.t 48], qm 50 49, qg 51 (.fieldAddr 1) [.t 6] [] 50 false,
qg 52 (.load 1 false) [.t 51] [] 50 false, qg 53 (.call .wr) [qf 71, .t 52] [52] 50 false, qg 54 .not [.t 53] [] 50 false, qo 55 .pick [.t 50, qb true, .t 54]] [0, 7, 8, 9, 40, 41, 42, 55])
 (.cond (.t 55)
 (.seq (.region [qo 2 .mv [qb false]] [2])
 (.ret))
 (.skip)))))
 (.region [qo 56 (.bin .add) [.t 42, qi 1], qm 42 56] [0, 7, 8, 9, 40, 41, 42]))))))))))
 (.region [qo 57 (.bin .add) [.t 9, qi 1], qm 9 57] [0, 7, 8, 9])))))))
 (.seq (.region [qo 2 .mv [qb true]] [2])
 (.ret))), [.tmp 2]⟩
def v_show_all_api_Alt_ : VFunc := ⟨18, .seq (.region [qo 4 .mv [qb false]] [0, 1])
 (.seq (.seq (.region [qt 7 .mv [.t 0] [0], qo 8 .len [.t 7], qo 9 .mv [qi 0]] [1, 7, 8, 9])
 (.block 0 (.loop (.seq (.region [qo 10 (.bin .lss) [.t 9, .t 8]] [1, 7, 8, 9, 10])
 (.seq (.cond (.t 10)
 (.skip)
 (.exit 0))
 (.seq (.block 1 (.seq (.region [qo 11 (.indexAddr 7) [.t 7, .t 9], qo 12 (.load 7 true) [.t 11], qo 6 (.alloc [.int .i64 0, .str [], .int .i64 0, .sl true 6 [], .int .i64 0, .int .i64 0, .sl true 10 []]) [],
qn (.store 7) [.t 6, .t 12] [12]] [1, 6, 7, 8, 9])
 (.seq (.region [qm 13 1, qo 14 (.loadT 7 true) [.t 6], qt 15 (.call .wr) [.t 13, .t 14] [14], qo 16 .not [.t 15]] [1, 7, 8, 9, 16])
 (.cond (.t 16)
 (.seq (.region [qo 4 .mv [qb false]] [4])
 (.ret))
 (.skip)))))
 (.region [qo 17 (.bin .add) [.t 9, qi 1], qm 9 17] [1, 7, 8, 9])))))))
 (.seq (.region [qo 4 .mv [qb true]] [4])
 (.ret))), [.tmp 4]⟩
def v_show_rightAlt : VFunc := ⟨11, .seq (.region [qt 1 .box [.t 0] [0], qo 2 .mv [qb false]] [1])
 (.seq (.region [qo 3 (.fieldAddr 0) [.t 1], qo 4 (.load 6 true) [.t 3], qt 5 (.call .wr) [qf 70, .t 4] [4], qm 6 5, qg 7 (.fieldAddr 6) [.t 1] [] 6 true, qg 8 (.load 1 false) [.t 7] [] 6 true,
qg 9 (.call .wr) [qf 71, .t 8] [8] 6 true, qo 10 .pick [.t 6, .t 9, qb false], qm 2 10] [2])
 (.ret)), [.tmp 2]⟩
def v_r07_rightExprs : VFunc := ⟨16, .seq (.region [qo 2 .mv [qb false]] [0])
 (.seq (.seq (.region [qo 3 .mv [qi 0]] [0, 3])
 (.block 0 (.loop (.seq (.seq (.region [qm 4 3, qm 5 0, qo 6 .len [.t 5], qo 7 (.bin .lss) [.t 4, .t 6]] [0, 3, 7])
 (.cond (.t 7)
 (.skip)
 (.exit 0)))
 (.seq (.block 1 (.seq (.region [qm 10 0, qm 11 3, qo 12 (.indexAddr 9) [.t 10, .t 11], qo 13 (.load 9 true) [.t 12], qt 14 (.call .wr) [qf 26, .t 13] [13], qo 15 .not [.t 14]] [0, 3, 15])
 (.cond (.t 15)
 (.seq (.region [qo 2 .mv [qb false]] [2])
 (.ret))
 (.skip))))
 (.region [qm 8 3, qo 9 (.bin .add) [.t 8, qi 1], qm 3 9] [0, 3]))))))
 (.seq (.region [qo 2 .mv [qb true]] [2])
 (.ret))), [.tmp 2]⟩
def v_r07_has : VFunc := ⟨37, .seq (.region [qt 5 .box [.t 0] [0], qo 10 .mv [qb false]] [1, 2, 3, 4, 5])
 (.seq (.region [qo 11 (.fieldAddr 3) [.t 5], qo 12 (.load 1 false) [.t 11], qo 13 .len [.t 12], qm 14 1, qo 15 (.bin .eql) [.t 13, .t 14], qm 16 15, qg 17 (.fieldAddr 4) [.t 5] [] 16 true,
qg 18 (.load 1 false) [.t 17] [] 16 true, qg 19 .len [.t 18] [] 16 true, qv 20 2 16 true, qg 21 (.bin .eql) [.t 19, .t 20] [] 16 true, qo 22 .pick [.t 16, .t 21, qb false], qm 23 22,
qg 24 (.fieldAddr 5) [.t 5] [] 23 true, qg 25 (.load 1 false) [.t 24] [] 23 true, qg 26 .len [.t 25] [] 23 true, qv 27 3 23 true, qg 28 (.bin .eql) [.t 26, .t 27] [] 23 true,
qo 29 .pick [.t 23, .t 28, qb false], qm 30 29, qg 31 (.fieldAddr 6) [.t 5] [] 30 true, qg 32 (.load 1 false) [.t 31] [] 30 true, qg 33 .len [.t 32] [] 30 true, qv 34 4 30 true,
qg 35 (.bin .eql) [.t 33, .t 34] [] 30 true, qo 36 .pick [.t 30, .t 35, qb false], qm 10 36] [10])
 (.ret)), [.tmp 10]⟩
def v_r07_Named : VFunc := ⟨9, .seq (.region [qo 2 .mv [qb false]] [0])
 (.seq (.region [qm 3 0, qo 4 (.call .wr) [qf 31, .t 3, qi 1], qm 5 4, qv 6 0 5 false, qg 7 (.call .wr) [qf 31, .t 6, qi 3] [] 5 false, qo 8 .pick [.t 5, qb true, .t 7], qm 2 8] [2])
 (.ret)), [.tmp 2]⟩
def v_r07_rightBinds : VFunc := ⟨79, .seq (.region [qo 2 .mv [qb false]] [0])
 (.seq (.seq (.region [qo 3 .mv [qi 0]] [0, 3])
 (.block 0 (.loop (.seq (.seq (.region [qm 5 3, qm 6 0, qo 7 .len [.t 6], qo 8 (.bin .lss) [.t 5, .t 7]] [0, 3, 8])
 (.cond (.t 8)
 (.skip)
 (.exit 0)))
 (.seq (.block 1 (.seq (.seq (.region [qm 11 0, qm 12 3, qo 13 (.indexAddr 4) [.t 11, .t 12], qo 14 (.fieldAddr 0) [.t 13], qo 15 (.load 1 false) [.t 14], qo 16 (.call .wr) [qf 49, .t 15], qo 17 .not [.t 16], qm 18 17,
qv 19 0 18 false, qv 20 3 18 false, qg 21 (.indexAddr 4) [.t 19, .t 20] [] 18 false, qg 22 (.fieldAddr 1) [.t 21] [] 18 false, qg 23 (.load 1 false) [.t 22] [] 18 false,
qg 24 .len [.t 23] [] 18 false, qg 25 (.bin .eql) [.t 24, qi 0] [] 18 false, qo 26 .pick [.t 18, qb true, .t 25], qm 27 26, qv 28 3 27 false, qg 29 (.bin .gtr) [.t 28, qi 0] [] 27 false,
qv 30 29 27 false, qv 31 0 30 true, qv 32 3 30 true, qg 33 (.indexAddr 4) [.t 31, .t 32] [] 30 true, qg 34 (.fieldAddr 0) [.t 33] [] 30 true, qg 35 (.load 1 false) [.t 34] [] 30 true,
qv 36 0 30 true, qv 37 3 30 true, qg 38 (.bin .sub) [.t 37, qi 1] [] 30 true, qg 39 (.indexAddr 4) [.t 36, .t 38] [] 30 true, qg 40 (.fieldAddr 0) [.t 39] [] 30 true,
qg 41 (.load 1 false) [.t 40] [] 30 true, qg 42 (.bin .eql) [.t 35, .t 41] [] 30 true, qg 43 .pick [.t 30, .t 42, qb false] [] 27 false, qo 44 .pick [.t 27, qb true, .t 43]] [0, 3, 44])
 (.cond (.t 44)
 (.seq (.region [qo 2 .mv [qb false]] [2])
 (.ret))
 (.skip)))
 (.seq (.region [qo 4 .mv [qi 0]] [0, 3, 4])
 (.block 2 (.loop (.seq (.seq (.region [qm 45 4, qm 46 0, qm 47 3, qo 48 (.indexAddr 4) [.t 46, .t 47], qo 49 (.fieldAddr 1) [.t 48], qo 50 (.load 1 false) [.t 49], qo 51 .len [.t 50], qo 52 (.bin .lss) [.t 45, .t 51]] [0, 3, 4, 52])
 (.cond (.t 52)
 (.skip)
 (.exit 2)))
 (.seq (.block 3 (.seq (.region [qm 55 0, qm 56 3, qo 57 (.indexAddr 4) [.t 55, .t 56], qo 58 (.fieldAddr 1) [.t 57], qo 59 (.load 1 false) [.t 58], qm 60 4, qo 61 (.indexAddr 2) [.t 59, .t 60], qo 62 (.fieldAddr 0) [.t 61],
qo 63 (.load 1 false) [.t 62], qt 64 (.call .wr) [qf 72, .t 63] [63], qo 65 .not [.t 64], qm 66 65, qv 67 0 66 false, qv 68 3 66 false, qg 69 (.indexAddr 4) [.t 67, .t 68] [] 66 false,
qg 70 (.fieldAddr 1) [.t 69] [] 66 false, qg 71 (.load 1 false) [.t 70] [] 66 false, qv 72 4 66 false, qg 73 (.indexAddr 2) [.t 71, .t 72] [] 66 false,
qg 74 (.fieldAddr 1) [.t 73] [] 66 false, qg 75 (.load 1 false) [.t 74] [] 66 false, qg 76 (.call .wr) [qf 52, .t 75] [75] 66 false, qg 77 .not [.t 76] [] 66 false,
qo 78 .pick [.t 66, qb true, .t 77]] [0, 3, 4, 78])
 (.cond (.t 78)
 (.seq (.region [qo 2 .mv [qb false]] [2])
 (.ret))
 (.skip))))
 (.region [qm 53 4, qo 54 (.bin .add) [.t 53, qi 1], qm 4 54] [0, 3, 4]))))))))
 (.region [qm 9 3, qo 10 (.bin .add) [.t 9, qi 1], qm 3 10] [0, 3]))))))
 (.seq (.region [qo 2 .mv [qb true]] [2])
 (.ret))), [.tmp 2]⟩
def v_r07_RightPat : VFunc := ⟨52, .seq (.region [qt 1 .box [.t 0] [0], qo 2 .mv [qb false]] [1])
 (.seq (.seq (.region [qo 3 (.fieldAddr 0) [.t 1], qo 4 (.load 1 false) [.t 3], qo 5 (.bin .eql) [.t 4, qi 4]] [1, 5])
 (.cond (.t 5)
 (.seq (.region [qo 6 (.fieldAddr 1) [.t 1], qo 7 (.load 1 false) [.t 6], qo 8 (.call .wr) [qf 31, .t 7, qi 2], qm 9 8, qg 10 (.fieldAddr 2) [.t 1] [] 9 true, qg 11 (.load 1 false) [.t 10] [] 9 true,
qg 12 (.bin .eql) [.t 11, qi 0] [] 9 true, qo 13 .pick [.t 9, .t 12, qb false], qm 14 13, qg 15 (.fieldAddr 3) [.t 1] [] 14 true, qg 16 (.load 1 false) [.t 15] [] 14 true,
qg 17 (.call .wr) [qf 72, .t 16] [16] 14 true, qo 18 .pick [.t 14, .t 17, qb false], qm 2 18] [2])
 (.ret))
 (.skip)))
 (.seq (.seq (.region [qo 19 (.fieldAddr 3) [.t 1], qo 20 (.load 1 false) [.t 19], qo 21 .len [.t 20], qo 22 (.bin .gtr) [.t 21, qi 0], qm 23 22, qg 24 (.fieldAddr 2) [.t 1] [] 23 false,
qg 25 (.load 1 false) [.t 24] [] 23 false, qg 26 (.bin .neq) [.t 25, qi 0] [] 23 false, qv 27 26 23 false, qg 28 (.fieldAddr 0) [.t 1] [] 27 true, qg 29 (.load 1 false) [.t 28] [] 27 true,
qg 30 (.bin .neq) [.t 29, qi 3] [] 27 true, qg 31 .pick [.t 27, .t 30, qb false] [] 23 false, qo 32 .pick [.t 23, qb true, .t 31]] [1, 32])
 (.cond (.t 32)
 (.seq (.region [qo 2 .mv [qb false]] [2])
 (.ret))
 (.skip)))
 (.seq (.seq (.region [qo 33 (.fieldAddr 0) [.t 1], qo 34 (.load 1 false) [.t 33], qo 35 (.bin .eql) [.t 34, qi 2]] [1, 35])
 (.cond (.t 35)
 (.seq (.region [qo 36 (.fieldAddr 1) [.t 1], qo 37 (.load 1 false) [.t 36], qo 38 (.call .wr) [qf 31, .t 37, qi 1], qm 2 38] [2])
 (.ret))
 (.skip)))
 (.seq (.region [qo 39 (.fieldAddr 0) [.t 1], qo 40 (.load 1 false) [.t 39], qo 41 (.bin .eql) [.t 40, qi 1], qm 42 41, qg 43 (.fieldAddr 0) [.t 1] [] 42 false, qg 44 (.load 1 false) [.t 43] [] 42 false,
qg 45 (.bin .eql) [.t 44, qi 3] [] 42 false, qo 46 .pick [.t 42, qb true, .t 45], qm 47 46, qg 48 (.fieldAddr 1) [.t 1] [] 47 true, qg 49 (.load 1 false) [.t 48] [] 47 true,
qg 50 (.bin .eql) [.t 49, .c (.str [])] [] 47 true, qo 51 .pick [.t 47, .t 50, qb false], qm 2 51] [2])
 (.ret))))), [.tmp 2]⟩
def v_r07_rightRhs : VFunc := ⟨52, .seq (.region [qo 2 .mv [qb false]] [0])
 (.seq (.seq (.region [qo 3 .mv [qi 0]] [0, 3])
 (.block 0 (.loop (.seq (.seq (.region [qm 4 3, qm 5 0, qo 6 .len [.t 5], qo 7 (.bin .lss) [.t 4, .t 6]] [0, 3, 7])
 (.cond (.t 7)
 (.skip)
 (.exit 0)))
 (.seq (.block 1 (.seq (.region [qm 10 0, qm 11 3, qo 12 (.indexAddr 10) [.t 10, .t 11], qo 13 (.fieldAddr 0) [.t 12], qo 14 (.load 1 false) [.t 13], qo 15 .len [.t 14], qo 16 (.bin .gtr) [.t 15, qi 1], qm 17 16,
qv 18 0 17 false, qv 19 3 17 false, qg 20 (.indexAddr 10) [.t 18, .t 19] [] 17 false, qg 21 (.fieldAddr 0) [.t 20] [] 17 false, qg 22 (.load 1 false) [.t 21] [] 17 false,
qg 23 .len [.t 22] [] 17 false, qg 24 (.bin .eql) [.t 23, qi 0] [] 17 false, qv 25 24 17 false, qv 26 0 25 true, qg 27 .len [.t 26] [] 25 true, qg 28 (.bin .gtr) [.t 27, qi 1] [] 25 true,
qg 29 .pick [.t 25, .t 28, qb false] [] 17 false, qo 30 .pick [.t 17, qb true, .t 29], qm 31 30, qv 32 0 31 false, qv 33 3 31 false, qg 34 (.indexAddr 10) [.t 32, .t 33] [] 31 false,
qg 35 (.fieldAddr 0) [.t 34] [] 31 false, qg 36 (.load 1 false) [.t 35] [] 31 false, qg 37 (.call .wr) [qf 47, .t 36] [36] 31 false, qg 38 .not [.t 37] [] 31 false,
qo 39 .pick [.t 31, qb true, .t 38], qm 40 39, qv 41 0 40 false, qv 42 3 40 false, qg 43 (.indexAddr 10) [.t 41, .t 42] [] 40 false, qg 44 (.fieldAddr 1) [.t 43] [] 40 false,
qg 45 (.load 9 true) [.t 44] [] 40 false, qg 46 (.call .wr) [qf 26, .t 45] [45] 40 false, qg 47 .not [.t 46] [] 40 false, qo 48 .pick [.t 40, qb true, .t 47]] [0, 3, 48])
 (.cond (.t 48)
 (.seq (.region [qo 2 .mv [qb false]] [2])
 (.ret))
 (.skip))))
 (.region [qm 8 3, qo 9 (.bin .add) [.t 8, qi 1], qm 3 9] [0, 3]))))))
 (.seq (.region [qt 49 .mv [.t 0] [0], qo 50 .len [.t 49], qo 51 (.bin .gtr) [.t 50, qi 0], qm 2 51] [2])
 (.ret))), [.tmp 2]⟩
def v_parse_begin : VFunc := ⟨28, .seq (.region [qo 2 .mv [.c (.nilp)]] [0])
 (.seq (.region [qm 7 0, qo 8 (.call .wr) [qf 73, .t 7], qt 6 .mv [.t 8] [8], qo 9 (.extract 0) [.t 6], qt 10 (.extract 1) [.t 6] [6], qo 4 (.alloc [.int .i64 0, .int .i64 0, .int .i64 0]) [],
qt 3 .mv [.t 9] [9], qn (.store 3) [.t 4, .t 10] []] [3, 4])
 (.seq (.region [qo 11 (.fieldAddr 0) [.t 4], qo 12 (.load 1 false) [.t 11], qo 13 (.bin .neq) [.t 12, qi 0], qo 14 (.load 3 true) [.t 4],
qo 15 (.build [.sl true 6 [], .int .i64 0, .bool false, .int .i64 0, .int .i64 0, .int .i64 0] [(2, 1), (3, 3)]) [.t 13, .t 14], qt 16 .box [.t 15] [15], qm 5 16] [3, 5])
 (.seq (.seq (.region [qm 17 5, qo 18 .nilCheck [.t 17], qo 19 (.fieldAddr 2) [.t 18], qo 20 (.load 1 false) [.t 19], qo 21 .not [.t 20]] [3, 5, 21])
 (.cond (.t 21)
 (.region [qm 22 5, qt 23 .mv [.t 3] [3], qt 24 (.call .wr) [qf 74, .t 23] [23], qo 25 .nilCheck [.t 22], qo 26 (.fieldAddr 0) [.t 25], qn (.store 1) [.t 26, .t 24] [24]] [5])
 (.skip)))
 (.seq (.region [qm 27 5, qm 2 27] [2])
 (.ret))))), [.tmp 2]⟩
def v_parse_parser_text : VFunc := ⟨13, .seq (.region [qo 4 (.alloc [.int .i64 0, .str [], .int .i64 0, .int .i64 0, .int .i64 0, .bool false]) []] [0, 1, 4])
 (.seq (.seq (.region [qm 5 0, qm 6 1, qo 7 (.call .wr) [qf 75, .t 5, .t 6], qo 8 .not [.t 7]] [0, 4, 8])
 (.cond (.t 8)
 (.region [qm 9 0, qo 10 (.call .wr) [qf 76, .t 9, qi 60]] [0, 4])
 (.skip)))
 (.seq (.region [qm 11 0, qo 12 (.call .wr) [qf 77, .t 11], qn (.store 6) [.t 4, .t 12] []] [4])
 (.ret))), [.cell 4 6 true]⟩
def v_parse_parser_expr : VFunc := ⟨37, .seq (.region [qo 2 (.alloc [.int .i64 0, .str [], .int .i64 0, .sl true 1 [], .sl true 9 [], .sl true 7 [], .nilh 4, .int .i64 0, .int .i64 0]) []] [0, 2])
 (.seq (.region [qm 6 0, qo 7 (.call .wr) [qf 78, .t 6], qo 3 (.alloc [.int .i64 0, .str [], .int .i64 0, .sl true 1 [], .sl true 9 [], .sl true 7 [], .nilh 4, .int .i64 0, .int .i64 0]) [],
qn (.store 9) [.t 3, .t 7] [7]] [0, 2, 3])
 (.seq (.seq (.region [qm 8 0, qo 9 (.call .wr) [qf 79, .t 8, qi 3], qo 10 .not [.t 9]] [0, 2, 3, 10])
 (.cond (.t 10)
 (.seq (.region [qo 11 (.loadT 9 true) [.t 3], qn (.store 9) [.t 2, .t 11] [11]] [2])
 (.ret))
 (.skip)))
 (.seq (.region [qo 12 (.loadT 9 true) [.t 3], qt 13 (.buildSl 9) [.t 12] [12],
qt 14 (.build [.int .i64 0, .str [], .int .i64 0, .sl true 1 [], .sl true 9 [], .sl true 7 [], .nilh 4, .int .i64 0, .int .i64 0] [(0, 1), (4, 1)]) [qi (-1), .t 13] [13],
qo 4 (.alloc [.int .i64 0, .str [], .int .i64 0, .sl true 1 [], .sl true 9 [], .sl true 7 [], .nilh 4, .int .i64 0, .int .i64 0]) [], qn (.store 9) [.t 4, .t 14] [14]] [0, 2, 4])
 (.seq (.block 0 (.loop (.seq (.seq (.region [qm 15 0, qo 16 (.call .wr) [qf 79, .t 15, qi 3]] [0, 2, 4, 16])
 (.cond (.t 16)
 (.skip)
 (.exit 0)))
 (.block 1 (.seq (.region [qm 17 0, qo 18 (.call .wr) [qf 77, .t 17], qo 5 (.alloc [.int .i64 0, .str [], .int .i64 0, .int .i64 0, .int .i64 0, .bool false]) [], qn (.store 6) [.t 5, .t 18] []] [0, 2, 4, 5])
 (.seq (.region [qo 19 (.fieldAddr 6) [.t 4], qo 20 (.load 1 false) [.t 19], qo 21 (.fieldAddr 1) [.t 5], qo 22 (.load 1 false) [.t 21], qo 23 (.fieldAddr 3) [.t 5], qo 24 (.load 2 true) [.t 23],
qo 25 (.build [.str [], .sl true 2 [], .int .i64 0, .int .i64 0] [(0, 1), (2, 2)]) [.t 22, .t 24], qt 26 (.buildSl 4) [.t 25] [25], qo 27 (.appendH 4 56) [.t 20, .t 26],
qo 28 (.fieldAddr 6) [.t 4], qn (.store 1) [.t 28, .t 27] [27]] [0, 2, 4])
 (.region [qo 29 (.fieldAddr 4) [.t 4], qo 30 (.loadTL 2 1 false) [.t 29], qm 31 0, qo 32 (.call (.fr 2)) [qf 78, .t 31], qt 33 (.buildSl 9) [.t 32] [32], qt 34 (.append 9 144) [.t 30, .t 33] [30],
qo 35 (.fieldAddr 4) [.t 4], qn (.store 1) [.t 35, .t 34] [34]] [0, 2, 4])))))))
 (.seq (.region [qo 36 (.loadT 9 true) [.t 4], qn (.store 9) [.t 2, .t 36] [36]] [2])
 (.ret)))))), [.cell 2 9 true]⟩
def v_parse_parser_ends : VFunc := ⟨21, .seq (.region [qm 2 0, qo 3 .nilCheck [.t 2], qo 4 (.fieldAddr 2) [.t 3], qo 5 (.load 1 false) [.t 4], qo 6 .not [.t 5], qm 7 6, qv 8 0 7 true, qg 9 .nilCheck [.t 8] [] 7 true,
qg 10 (.fieldAddr 1) [.t 9] [] 7 true, qg 11 (.load 1 false) [.t 10] [] 7 true, qv 12 0 7 true, qg 13 .nilCheck [.t 12] [] 7 true, qg 14 (.fieldAddr 0) [.t 13] [] 7 true,
qg 15 (.load 1 false) [.t 14] [] 7 true, qg 16 .len [.t 15] [] 7 true, qg 17 (.bin .lss) [.t 11, .t 16] [] 7 true, qo 18 .pick [.t 7, .t 17, qb false]] [0, 18])
 (.cond (.t 18)
 (.region [qm 19 0, qo 20 (.call .wr) [qf 76, .t 19, qi 60]] [])
 (.skip)), []⟩
def v_parse_grower_expr : VFunc := ⟨71, .seq (.region [qt 3 .box [.t 1] [1], qo 4 (.alloc [.int .i64 0, .str [], .int .i64 0, .sl true 1 [], .sl true 9 [], .sl true 7 [], .nilh 4, .int .i64 0, .int .i64 0]) []] [0, 3, 4])
 (.seq (.seq (.region [qm 11 0, qo 12 .nilCheck [.t 11], qo 13 (.fieldAddr 1) [.t 12], qo 14 (.load 1 false) [.t 13]] [0, 3, 4, 14])
 (.cond (.t 14)
 (.seq (.region [qo 15 (.loadT 9 true) [.t 3], qn (.store 9) [.t 4, .t 15] [15]] [4])
 (.ret))
 (.skip)))
 (.seq (.seq (.region [qo 16 (.fieldAddr 0) [.t 3], qo 17 (.load 1 false) [.t 16], qo 18 (.bin .eql) [.t 17, qi (-1)]] [0, 3, 4, 18])
 (.cond (.t 18)
 (.seq (.region [qm 19 0, qo 20 (.loadT 9 true) [.t 3], qt 21 (.call .wr) [qf 80, .t 19, .t 20] [20], qn (.store 9) [.t 4, .t 21] [21]] [4])
 (.ret))
 (.skip)))
 (.seq (.region [qm 22 0, qo 23 (.fieldAddr 6) [.t 3], qo 24 (.load 1 false) [.t 23], qt 25 (.call .wr) [qf 81, .t 22, .t 24] [24], qo 26 (.fieldAddr 6) [.t 3], qn (.store 1) [.t 26, .t 25] [25]] [0, 3, 4])
 (.seq (.region [qo 5 .mv [.c (.sl true 9 [])]] [0, 3, 4, 5])
 (.seq (.seq (.region [qo 27 (.fieldAddr 4) [.t 3], qo 28 (.load 1 false) [.t 27], qo 29 .len [.t 28], qo 30 .mv [qi 0]] [0, 3, 4, 5, 28, 29, 30])
 (.block 0 (.loop (.seq (.region [qo 31 (.bin .lss) [.t 30, .t 29]] [0, 3, 4, 5, 28, 29, 30, 31])
 (.seq (.cond (.t 31)
 (.skip)
 (.exit 0))
 (.seq (.block 1 (.seq (.region [qo 32 (.indexAddr 9) [.t 28, .t 30], qo 33 (.load 9 true) [.t 32],
qo 7 (.alloc [.int .i64 0, .str [], .int .i64 0, .sl true 1 [], .sl true 9 [], .sl true 7 [], .nilh 4, .int .i64 0, .int .i64 0]) [], qn (.store 9) [.t 7, .t 33] [33]] [0, 3, 4, 5, 7, 28, 29, 30])
 (.region [qt 34 .mv [.t 5] [5], qm 35 0, qo 36 (.loadT 9 true) [.t 7], qt 37 (.call .wr) [qf 57, .t 35, .t 36] [36], qt 38 (.buildSl 9) [.t 37] [37], qt 39 (.append 9 144) [.t 34, .t 38] [34],
qt 5 .mv [.t 39] [39]] [0, 3, 4, 5, 28, 29, 30])))
 (.region [qo 40 (.bin .add) [.t 30, qi 1], qm 30 40] [0, 3, 4, 5, 28, 29, 30])))))))
 (.seq (.region [qm 41 5, qo 42 (.fieldAddr 4) [.t 3], qn (.store 1) [.t 42, .t 41] [41]] [0, 3, 4, 5])
 (.seq (.seq (.region [qo 43 (.fieldAddr 0) [.t 3], qo 44 (.load 1 false) [.t 43], qo 45 (.bin .eql) [.t 44, qi 4]] [0, 3, 4, 5, 45])
 (.cond (.t 45)
 (.region [qt 46 .mv [.t 5] [5], qo 47 (.indexAddr 9) [.t 46, qi 0], qo 48 (.fieldAddr 7) [.t 47], qo 49 (.load 2 true) [.t 48], qo 50 (.fieldAddr 7) [.t 3], qn (.store 2) [.t 50, .t 49] []] [0, 3, 4])
 (.skip)))
 (.seq (.region [qo 8 .mv [.c (.sl true 7 [])]] [0, 3, 4, 8])
 (.seq (.seq (.region [qo 51 (.fieldAddr 5) [.t 3], qo 52 (.load 1 false) [.t 51], qo 53 .len [.t 52], qo 54 .mv [qi 0]] [0, 3, 4, 8, 52, 53, 54])
 (.block 2 (.loop (.seq (.region [qo 55 (.bin .lss) [.t 54, .t 53]] [0, 3, 4, 8, 52, 53, 54, 55])
 (.seq (.cond (.t 55)
 (.skip)
 (.exit 2))
 (.seq (.block 3 (.seq (.region [qo 56 (.indexAddr 7) [.t 52, .t 54], qo 57 (.load 7 true) [.t 56], qo 10 (.alloc [.int .i64 0, .str [], .int .i64 0, .sl true 6 [], .int .i64 0, .int .i64 0, .sl true 10 []]) [],
qn (.store 7) [.t 10, .t 57] [57]] [0, 3, 4, 8, 10, 52, 53, 54])
 (.seq (.region [qm 58 0, qo 59 (.fieldAddr 6) [.t 10], qo 60 (.load 1 false) [.t 59], qt 61 (.call .wr) [qf 82, .t 58, .t 60] [60], qo 62 (.fieldAddr 6) [.t 10], qn (.store 1) [.t 62, .t 61] [61]] [0, 3, 4, 8, 10, 52, 53, 54])
 (.region [qt 63 .mv [.t 8] [8], qo 64 (.loadT 7 true) [.t 10], qt 65 (.buildSl 7) [.t 64] [64], qt 66 (.append 7 96) [.t 63, .t 65] [63], qt 8 .mv [.t 66] [66]] [0, 3, 4, 8, 52, 53, 54]))))
 (.region [qo 67 (.bin .add) [.t 54, qi 1], qm 54 67] [0, 3, 4, 8, 52, 53, 54])))))))
 (.seq (.region [qt 68 .mv [.t 8] [8], qo 69 (.fieldAddr 5) [.t 3], qn (.store 1) [.t 69, .t 68] [68]] [3, 4])
 (.seq (.region [qo 70 (.loadT 9 true) [.t 3], qn (.store 9) [.t 4, .t 70] [70]] [4])
 (.ret)))))))))))), [.cell 4 9 true]⟩
def v_r02_One : VFunc := ⟨31, .seq (.region [qo 2 (.alloc [.int .i64 0, .str [], .int .i64 0, .int .i64 0, .int .i64 0, .bool false]) [], qo 3 .mv [qb false]] [0, 2])
 (.seq (.region [qm 7 0, qo 8 (.call .wr) [qf 83, .t 7], qt 6 .mv [.t 8] [8], qo 9 (.extract 0) [.t 6], qt 10 (.extract 1) [.t 6] [6], qo 5 (.alloc [.int .i64 0, .int .i64 0, .int .i64 0]) [],
qt 4 .mv [.t 9] [9], qn (.store 3) [.t 5, .t 10] []] [0, 2, 4, 5])
 (.seq (.seq (.region [qo 11 (.fieldAddr 0) [.t 5], qo 12 (.load 1 false) [.t 11], qo 13 (.bin .neq) [.t 12, qi 0], qm 14 13, qv 15 4 14 false, qg 16 .len [.t 15] [] 14 false,
qg 17 (.bin .neq) [.t 16, qi 1] [] 14 false, qo 18 .pick [.t 14, qb true, .t 17], qm 19 18, qv 20 4 19 false, qg 21 (.indexAddr 6) [.t 20, qi 0] [] 19 false,
qg 22 (.fieldAddr 1) [.t 21] [] 19 false, qg 23 (.load 1 false) [.t 22] [] 19 false, qv 24 0 19 false, qg 25 (.bin .neq) [.t 23, .t 24] [] 19 false, qo 26 .pick [.t 19, qb true, .t 25]] [2, 4, 26])
 (.cond (.t 26)
 (.seq (.region [qo 27 (.build [.int .i64 0, .str [], .int .i64 0, .int .i64 0, .int .i64 0, .bool false] []) [], qn (.store 6) [.t 2, .t 27] [], qo 3 .mv [qb false]] [2, 3])
 (.ret))
 (.skip)))
 (.seq (.region [qt 28 .mv [.t 4] [4], qo 29 (.indexAddr 6) [.t 28, qi 0], qo 30 (.load 6 true) [.t 29], qn (.store 6) [.t 2, .t 30] [], qo 3 .mv [qb true]] [2, 3])
 (.ret)))), [.cell 2 6 true, .tmp 3]⟩
def v_show_writer_expr : VFunc := ⟨132, .seq (.region [qo 2 .box [.t 0], qt 3 .box [.t 1] [1]] [2, 3])
 (.seq (.region [qo 6 (.fieldAddr 0) [.t 3], qo 7 (.load 1 false) [.t 6]] [2, 3, 7])
 (.block 0 (.seq (.region [qo 12 (.bin .eql) [.t 7, qi 4], qm 11 12] [2, 3, 7, 11])
 (.cond (.t 11)
 (.seq (.seq (.region [qo 13 (.load 9 true) [.t 3], qt 14 (.call .wr) [qf 93, .t 13] [13]] [2, 3, 14])
 (.cond (.t 14)
 (.seq (.region [qo 15 (.load 1 false) [.t 2], qo 16 (.fieldAddr 4) [.t 3], qo 17 (.load 1 false) [.t 16], qo 18 (.indexAddr 9) [.t 17, qi 0], qo 19 (.fieldAddr 4) [.t 18], qo 20 (.load 1 false) [.t 19],
qo 21 (.indexAddr 9) [.t 20, qi 1], qo 22 (.load 9 true) [.t 21], qt 23 (.call .wr) [qf 94, .t 15, .t 22] [22]] [2, 3])
 (.seq (.region [qo 24 (.load 1 false) [.t 2], qo 25 (.fieldAddr 4) [.t 3], qo 26 (.load 1 false) [.t 25], qo 27 (.indexAddr 9) [.t 26, qi 0], qo 28 (.fieldAddr 4) [.t 27], qo 29 (.load 1 false) [.t 28],
qo 30 (.indexAddr 9) [.t 29, qi 0], qo 31 (.fieldAddr 1) [.t 30], qo 32 (.load 1 false) [.t 31], qo 33 (.buildSl 1) [.c (.str [32]), .t 32, .c (.str [32])],
qt 34 (.call .wr) [qf 95, .t 24, .t 33] [33]] [2, 3])
 (.seq (.region [qo 35 (.load 1 false) [.t 2], qo 36 (.fieldAddr 4) [.t 3], qo 37 (.load 1 false) [.t 36], qo 38 (.indexAddr 9) [.t 37, qi 1], qo 39 (.load 9 true) [.t 38],
qt 40 (.call .wr) [qf 94, .t 35, .t 39] [39]] [])
 (.ret))))
 (.skip)))
 (.seq (.region [qo 41 (.load 1 false) [.t 2], qo 42 (.fieldAddr 4) [.t 3], qo 43 (.load 1 false) [.t 42], qo 44 (.indexAddr 9) [.t 43, qi 0], qo 45 (.load 9 true) [.t 44],
qt 46 (.call .wr) [qf 96, .t 41, .t 45] [45]] [2, 3])
 (.seq (.region [qo 47 (.load 1 false) [.t 2], qo 48 (.buildSl 1) [.c (.str [32])], qt 49 (.call .wr) [qf 95, .t 47, .t 48] [48]] [2, 3])
 (.region [qo 50 (.load 1 false) [.t 2], qo 51 (.fieldAddr 4) [.t 3], qo 52 (.load 1 false) [.t 51], qo 53 (.indexAddr 9) [.t 52, qi 1], qo 54 (.load 9 true) [.t 53],
qt 55 (.call .wr) [qf 97, .t 50, .t 54] [54]] []))))
 (.seq (.region [qo 57 (.bin .eql) [.t 7, qi 5], qm 56 57] [2, 3, 7, 56])
 (.cond (.t 56)
 (.seq (.region [qo 58 (.load 1 false) [.t 2], qo 59 (.fieldAddr 3) [.t 3], qo 60 (.load 1 false) [.t 59], qt 61 (.call .al) [qf 98, .t 60, .c (.str [32])] [60],
qo 62 (.buildSl 1) [.c (.str [92]), .t 61, .c (.str [32, 45, 62, 32])], qt 63 (.call .wr) [qf 95, .t 58, .t 62] [62]] [2, 3])
 (.region [qo 64 (.load 1 false) [.t 2], qo 65 (.fieldAddr 4) [.t 3], qo 66 (.load 1 false) [.t 65], qo 67 (.indexAddr 9) [.t 66, qi 0], qo 68 (.load 9 true) [.t 67],
qt 69 (.call .wr) [qf 65, .t 64, .t 68] [68]] []))
 (.seq (.region [qo 71 (.bin .eql) [.t 7, qi 6], qm 70 71] [2, 3, 7, 70])
 (.cond (.t 70)
 (.seq (.region [qo 72 (.load 1 false) [.t 2], qo 73 (.buildSl 1) [.c (.str [108, 101, 116, 32, 123, 32])], qt 74 (.call .wr) [qf 95, .t 72, .t 73] [73]] [2, 3])
 (.seq (.region [qo 75 (.load 1 false) [.t 2], qo 76 (.fieldAddr 6) [.t 3], qo 77 (.load 1 false) [.t 76], qt 78 (.call .wr) [qf 99, .t 75, .t 77, .c (.str [59, 32]), .c (.str [])] [77]] [2, 3])
 (.seq (.region [qo 79 (.load 1 false) [.t 2], qo 80 (.buildSl 1) [.c (.str [32, 125, 32, 105, 110, 32])], qt 81 (.call .wr) [qf 95, .t 79, .t 80] [80]] [2, 3])
 (.region [qo 82 (.load 1 false) [.t 2], qo 83 (.fieldAddr 4) [.t 3], qo 84 (.load 1 false) [.t 83], qo 85 (.indexAddr 9) [.t 84, qi 0], qo 86 (.load 9 true) [.t 85],
qt 87 (.call .wr) [qf 65, .t 82, .t 86] [86]] []))))
 (.seq (.region [qo 89 (.bin .eql) [.t 7, qi 7], qm 88 89] [2, 3, 7, 88])
 (.cond (.t 88)
 (.seq (.region [qo 90 (.load 1 false) [.t 2], qo 91 (.buildSl 1) [.c (.str [99, 97, 115, 101, 32])], qt 92 (.call .wr) [qf 95, .t 90, .t 91] [91]] [2, 3])
 (.seq (.region [qo 93 (.load 1 false) [.t 2], qo 94 (.fieldAddr 4) [.t 3], qo 95 (.load 1 false) [.t 94], qo 96 (.indexAddr 9) [.t 95, qi 0], qo 97 (.load 9 true) [.t 96],
qt 98 (.call .wr) [qf 65, .t 93, .t 97] [97]] [2, 3])
 (.seq (.region [qo 99 (.load 1 false) [.t 2], qo 100 (.buildSl 1) [.c (.str [32, 111, 102, 32, 123, 32])], qt 101 (.call .wr) [qf 95, .t 99, .t 100] [100]] [2, 3])
 (.seq (.region [qo 102 (.load 1 false) [.t 2], qo 103 (.fieldAddr 5) [.t 3], qo 104 (.load 1 false) [.t 103], qo 105 .len [.t 104], qo 106 (.mkfn 101) [.t 2, .t 3],
qo 107 (.call .wr) [qf 100, .t 102, .t 105, .c (.str [59, 32]), .t 106]] [2])
 (.region [qo 108 (.load 1 false) [.t 2], qo 109 (.buildSl 1) [.c (.str [32, 125])], qt 110 (.call .wr) [qf 95, .t 108, .t 109] [109]] [])))))
 (.seq (.region [qo 112 (.bin .eql) [.t 7, qi 8], qm 111 112] [2, 3, 111])
 (.cond (.t 111)
 (.seq (.region [qo 113 (.buildSl 1) [.c (.str [105, 102, 32]), .c (.str [32, 116, 104, 101, 110, 32]), .c (.str [32, 101, 108, 115, 101, 32])], qo 114 .len [.t 113], qo 115 .mv [qi 0]] [2, 3, 113, 114, 115])
 (.block 1 (.loop (.seq (.region [qo 116 (.bin .lss) [.t 115, .t 114]] [2, 3, 113, 114, 115, 116])
 (.seq (.cond (.t 116)
 (.skip)
 (.exit 1))
 (.seq (.block 2 (.seq (.region [qm 117 115, qo 118 (.indexAddr 1) [.t 113, .t 115], qo 119 (.load 1 false) [.t 118], qm 4 117, qm 5 119] [2, 3, 4, 5, 113, 114, 115])
 (.seq (.region [qo 120 (.load 1 false) [.t 2], qm 121 5, qo 122 (.buildSl 1) [.t 121], qt 123 (.call .wr) [qf 95, .t 120, .t 122] [122]] [2, 3, 4, 113, 114, 115])
 (.region [qo 124 (.load 1 false) [.t 2], qo 125 (.fieldAddr 4) [.t 3], qo 126 (.load 1 false) [.t 125], qm 127 4, qo 128 (.indexAddr 9) [.t 126, .t 127], qo 129 (.load 9 true) [.t 128],
qt 130 (.call .wr) [qf 65, .t 124, .t 129] [129]] [2, 3, 113, 114, 115]))))
 (.region [qo 131 (.bin .add) [.t 115, qi 1], qm 115 131] [2, 3, 113, 114, 115])))))))
 (.region [qo 8 (.load 1 false) [.t 2], qo 9 (.loadT 9 true) [.t 3], qt 10 (.call .wr) [qf 97, .t 8, .t 9] [9]] []))))))))))))), []⟩
def v_term_magnitude : VFunc := ⟨14, .seq (.region [qo 2 .mv [qi 0]] [0])
 (.seq (.seq (.region [qm 3 0, qo 4 (.bin .leq) [.t 3, qi (-1073741824)], qm 5 4, qv 6 0 5 false, qg 7 (.bin .geq) [.t 6, qi 1073741824] [] 5 false, qo 8 .pick [.t 5, qb true, .t 7]] [0, 8])
 (.cond (.t 8)
 (.seq (.region [qo 2 .mv [qi 1073741824]] [2])
 (.ret))
 (.skip)))
 (.seq (.seq (.region [qm 9 0, qo 10 (.bin .lss) [.t 9, qi 0]] [0, 10])
 (.cond (.t 10)
 (.region [qm 11 0, qo 12 .neg [.t 11], qm 0 12] [0])
 (.skip)))
 (.seq (.region [qm 13 0, qm 2 13] [2])
 (.ret)))), [.tmp 2]⟩
def v_lex_One : VFunc := ⟨31, .seq (.region [qo 2 (.alloc [.int .i64 0, .str [], .int .i64 0, .int .i64 0, .int .i64 0, .bool false]) [], qo 3 .mv [qb false]] [0, 2])
 (.seq (.region [qm 7 0, qo 8 (.call .wr) [qf 73, .t 7], qt 6 .mv [.t 8] [8], qo 9 (.extract 0) [.t 6], qt 10 (.extract 1) [.t 6] [6], qo 5 (.alloc [.int .i64 0, .int .i64 0, .int .i64 0]) [],
qt 4 .mv [.t 9] [9], qn (.store 3) [.t 5, .t 10] []] [0, 2, 4, 5])
 (.seq (.seq (.region [qo 11 (.fieldAddr 0) [.t 5], qo 12 (.load 1 false) [.t 11], qo 13 (.bin .neq) [.t 12, qi 0], qm 14 13, qv 15 4 14 false, qg 16 .len [.t 15] [] 14 false,
qg 17 (.bin .neq) [.t 16, qi 1] [] 14 false, qo 18 .pick [.t 14, qb true, .t 17], qm 19 18, qv 20 4 19 false, qg 21 (.indexAddr 6) [.t 20, qi 0] [] 19 false,
qg 22 (.fieldAddr 1) [.t 21] [] 19 false, qg 23 (.load 1 false) [.t 22] [] 19 false, qv 24 0 19 false, qg 25 (.bin .neq) [.t 23, .t 24] [] 19 false, qo 26 .pick [.t 19, qb true, .t 25]] [2, 4, 26])
 (.cond (.t 26)
 (.seq (.region [qo 27 (.build [.int .i64 0, .str [], .int .i64 0, .int .i64 0, .int .i64 0, .bool false] []) [], qn (.store 6) [.t 2, .t 27] [], qo 3 .mv [qb false]] [2, 3])
 (.ret))
 (.skip)))
 (.seq (.region [qt 28 .mv [.t 4] [4], qo 29 (.indexAddr 6) [.t 28, qi 0], qo 30 (.load 6 true) [.t 29], qn (.store 6) [.t 2, .t 30] [], qo 3 .mv [qb true]] [2, 3])
 (.ret)))), [.cell 2 6 true, .tmp 3]⟩
def v_show_all_api_Pat_ : VFunc := ⟨18, .seq (.region [qo 4 .mv [qb false]] [0, 1])
 (.seq (.seq (.region [qt 7 .mv [.t 0] [0], qo 8 .len [.t 7], qo 9 .mv [qi 0]] [1, 7, 8, 9])
 (.block 0 (.loop (.seq (.region [qo 10 (.bin .lss) [.t 9, .t 8]] [1, 7, 8, 9, 10])
 (.seq (.cond (.t 10)
 (.skip)
 (.exit 0))
 (.seq (.block 1 (.seq (.region [qo 11 (.indexAddr 6) [.t 7, .t 9], qo 12 (.load 6 true) [.t 11], qo 6 (.alloc [.int .i64 0, .str [], .int .i64 0, .sl true 6 [], .int .i64 0, .int .i64 0]) [],
qn (.store 6) [.t 6, .t 12] [12]] [1, 6, 7, 8, 9])
 (.seq (.region [qm 13 1, qo 14 (.loadT 6 true) [.t 6], qt 15 (.call .wr) [.t 13, .t 14] [14], qo 16 .not [.t 15]] [1, 7, 8, 9, 16])
 (.cond (.t 16)
 (.seq (.region [qo 4 .mv [qb false]] [4])
 (.ret))
 (.skip)))))
 (.region [qo 17 (.bin .add) [.t 9, qi 1], qm 9 17] [1, 7, 8, 9])))))))
 (.seq (.region [qo 4 .mv [qb true]] [4])
 (.ret))), [.tmp 4]⟩
def v_show_RightPat : VFunc := ⟨63, .seq (.region [qt 1 .box [.t 0] [0], qo 2 .mv [qb false]] [1])
 (.seq (.seq (.region [qo 3 (.fieldAddr 0) [.t 1], qo 4 (.load 1 false) [.t 3]] [1, 4])
 (.block 0 (.seq (.region [qo 6 (.bin .eql) [.t 4, qi 1], qm 5 6] [1, 4, 5])
 (.cond (.t 5)
 (.seq (.region [qo 7 (.fieldAddr 1) [.t 1], qo 8 (.load 1 false) [.t 7], qo 9 (.bin .eql) [.t 8, .c (.str [])], qm 10 9, qg 11 (.fieldAddr 2) [.t 1] [] 10 true, qg 12 (.load 1 false) [.t 11] [] 10 true,
qg 13 (.bin .eql) [.t 12, qi 0] [] 10 true, qo 14 .pick [.t 10, .t 13, qb false], qm 15 14, qg 16 (.fieldAddr 3) [.t 1] [] 15 true, qg 17 (.load 1 false) [.t 16] [] 15 true,
qg 18 .len [.t 17] [] 15 true, qg 19 (.bin .eql) [.t 18, qi 0] [] 15 true, qo 20 .pick [.t 15, .t 19, qb false], qm 2 20] [2])
 (.ret))
 (.seq (.region [qo 22 (.bin .eql) [.t 4, qi 2], qm 21 22] [1, 4, 21])
 (.cond (.t 21)
 (.seq (.region [qo 23 (.fieldAddr 1) [.t 1], qo 24 (.load 1 false) [.t 23], qo 25 (.call .wr) [qf 41, .t 24, qi 1], qm 26 25, qg 27 (.fieldAddr 2) [.t 1] [] 26 true, qg 28 (.load 1 false) [.t 27] [] 26 true,
qg 29 (.bin .eql) [.t 28, qi 0] [] 26 true, qo 30 .pick [.t 26, .t 29, qb false], qm 31 30, qg 32 (.fieldAddr 3) [.t 1] [] 31 true, qg 33 (.load 1 false) [.t 32] [] 31 true,
qg 34 .len [.t 33] [] 31 true, qg 35 (.bin .eql) [.t 34, qi 0] [] 31 true, qo 36 .pick [.t 31, .t 35, qb false], qm 2 36] [2])
 (.ret))
 (.seq (.region [qo 38 (.bin .eql) [.t 4, qi 3], qm 37 38] [1, 4, 37])
 (.cond (.t 37)
 (.seq (.region [qo 39 (.fieldAddr 1) [.t 1], qo 40 (.load 1 false) [.t 39], qo 41 (.bin .eql) [.t 40, .c (.str [])], qm 42 41, qg 43 (.fieldAddr 3) [.t 1] [] 42 true,
qg 44 (.load 1 false) [.t 43] [] 42 true, qg 45 .len [.t 44] [] 42 true, qg 46 (.bin .eql) [.t 45, qi 0] [] 42 true, qo 47 .pick [.t 42, .t 46, qb false], qm 2 47] [2])
 (.ret))
 (.seq (.region [qo 49 (.bin .eql) [.t 4, qi 4], qm 48 49] [1, 48])
 (.cond (.t 48)
 (.seq (.region [qo 50 (.fieldAddr 1) [.t 1], qo 51 (.load 1 false) [.t 50], qo 52 (.call .wr) [qf 41, .t 51, qi 2], qm 53 52, qg 54 (.fieldAddr 2) [.t 1] [] 53 true, qg 55 (.load 1 false) [.t 54] [] 53 true,
qg 56 (.bin .eql) [.t 55, qi 0] [] 53 true, qo 57 .pick [.t 53, .t 56, qb false], qm 58 57, qg 59 (.fieldAddr 3) [.t 1] [] 58 true, qg 60 (.load 1 false) [.t 59] [] 58 true,
qg 61 (.call .wr) [qf 69, .t 60, qf 70] [60] 58 true, qo 62 .pick [.t 58, .t 61, qb false], qm 2 62] [2])
 (.ret))
 (.skip)))))))))))
 (.seq (.region [qo 2 .mv [qb false]] [2])
 (.ret))), [.tmp 2]⟩
def v_show_rightRhs : VFunc := ⟨26, .seq (.region [qo 2 .mv [qb false]] [0])
 (.seq (.seq (.region [qm 3 0, qo 4 .len [.t 3], qo 5 (.bin .eql) [.t 4, qi 1], qm 6 5, qv 7 0 6 true, qg 8 (.indexAddr 10) [.t 7, qi 0] [] 6 true, qg 9 (.fieldAddr 0) [.t 8] [] 6 true,
qg 10 (.load 1 false) [.t 9] [] 6 true, qg 11 .len [.t 10] [] 6 true, qg 12 (.bin .eql) [.t 11, qi 0] [] 6 true, qo 13 .pick [.t 6, .t 12, qb false]] [0, 13])
 (.cond (.t 13)
 (.seq (.region [qt 14 .mv [.t 0] [0], qo 15 (.indexAddr 10) [.t 14, qi 0], qo 16 (.fieldAddr 1) [.t 15], qo 17 (.load 9 true) [.t 16], qt 18 (.call .wr) [qf 24, .t 17] [17], qm 2 18] [2])
 (.ret))
 (.skip)))
 (.seq (.region [qm 19 0, qo 20 .len [.t 19], qo 21 (.bin .gtr) [.t 20, qi 0], qm 22 21, qg 23 .mv [.t 0] [0] 22 true, qg 24 (.call .wr) [qf 104, .t 23, qf 105] [23] 22 true,
qo 25 .pick [.t 22, .t 24, qb false], qm 2 25] [2])
 (.ret))), [.tmp 2]⟩
def v_r07_RightPats : VFunc := ⟨16, .seq (.region [qo 2 .mv [qb false]] [0])
 (.seq (.seq (.region [qo 3 .mv [qi 0]] [0, 3])
 (.block 0 (.loop (.seq (.seq (.region [qm 4 3, qm 5 0, qo 6 .len [.t 5], qo 7 (.bin .lss) [.t 4, .t 6]] [0, 3, 7])
 (.cond (.t 7)
 (.skip)
 (.exit 0)))
 (.seq (.block 1 (.seq (.region [qm 10 0, qm 11 3, qo 12 (.indexAddr 6) [.t 10, .t 11], qo 13 (.load 6 true) [.t 12], qt 14 (.call .wr) [qf 51, .t 13] [13], qo 15 .not [.t 14]] [0, 3, 15])
 (.cond (.t 15)
 (.seq (.region [qo 2 .mv [qb false]] [2])
 (.ret))
 (.skip))))
 (.region [qm 8 3, qo 9 (.bin .add) [.t 8, qi 1], qm 3 9] [0, 3]))))))
 (.seq (.region [qo 2 .mv [qb true]] [2])
 (.ret))), [.tmp 2]⟩
def v_lex_Tokens : VFunc := ⟨49, .seq (.region [qo 2 .mv [.c (.sl true 6 [])], qo 3 (.alloc [.int .i64 0, .int .i64 0, .int .i64 0]) []] [0, 3])
 (.seq (.region [qo 10 (.build [.int .i64 0, .int .i64 0] [(0, 1), (1, 1)]) [qi 1, qi 1], qo 4 (.alloc [.int .i64 0, .int .i64 0]) [], qn (.store 2) [.t 4, .t 10] []] [0, 3, 4])
 (.seq (.seq (.region [qm 11 0, qo 12 .lenStr [.t 11], qo 13 (.bin .gtr) [.t 12, qi 8192]] [0, 3, 4, 13])
 (.cond (.t 13)
 (.seq (.region [qo 14 (.load 2 true) [.t 4], qo 15 (.build [.int .i64 0, .int .i64 0, .int .i64 0] [(0, 1), (1, 2)]) [qi 2, .t 14], qo 2 .mv [.c (.sl true 6 [])], qn (.store 3) [.t 3, .t 15] []] [2, 3])
 (.ret))
 (.skip)))
 (.seq (.region [qm 16 0, qo 17 (.load 2 true) [.t 4], qo 18 (.build [.str [], .int .i64 0, .int .i64 0, .int .i64 0] [(0, 1), (2, 2)]) [.t 16, .t 17], qo 19 .box [.t 18], qm 5 19] [3, 5])
 (.seq (.region [qo 6 .mv [.c (.sl true 6 [])]] [3, 5, 6])
 (.seq (.block 0 (.loop (.seq (.seq (.region [qm 20 5, qo 21 (.call .wr) [qf 106, .t 20]] [3, 5, 6, 21])
 (.cond (.t 21)
 (.skip)
 (.exit 0)))
 (.block 1 (.seq (.region [qm 22 5, qo 23 .nilCheck [.t 22], qo 24 (.fieldAddr 2) [.t 23], qo 25 (.load 2 true) [.t 24], qo 7 (.alloc [.int .i64 0, .int .i64 0]) [], qn (.store 2) [.t 7, .t 25] []] [3, 5, 6, 7])
 (.seq (.region [qm 27 5, qo 28 (.call .wr) [qf 107, .t 27], qm 26 28, qo 29 (.extract 0) [.t 26], qo 30 (.extract 1) [.t 26],
qo 8 (.alloc [.int .i64 0, .str [], .int .i64 0, .int .i64 0, .int .i64 0, .bool false]) [], qn (.store 6) [.t 8, .t 29] [], qm 9 30] [3, 5, 6, 7, 8, 9])
 (.seq (.seq (.region [qm 31 9, qo 32 (.bin .eql) [.t 31, qi 0], qm 33 32, qv 34 6 33 true, qg 35 .len [.t 34] [] 33 true, qg 36 (.bin .geq) [.t 35, qi 2048] [] 33 true, qo 37 .pick [.t 33, .t 36, qb false]] [3, 5, 6, 7, 8, 9, 37])
 (.cond (.t 37)
 (.region [qo 9 .mv [qi 2]] [3, 5, 6, 7, 8, 9])
 (.skip)))
 (.seq (.seq (.region [qm 38 9, qo 39 (.bin .neq) [.t 38, qi 0]] [3, 5, 6, 7, 8, 9, 39])
 (.cond (.t 39)
 (.seq (.region [qm 40 9, qo 41 (.load 2 true) [.t 7], qo 42 (.build [.int .i64 0, .int .i64 0, .int .i64 0] [(0, 1), (1, 2)]) [.t 40, .t 41], qo 2 .mv [.c (.sl true 6 [])], qn (.store 3) [.t 3, .t 42] []] [2, 3])
 (.ret))
 (.skip)))
 (.region [qt 43 .mv [.t 6] [6], qo 44 (.load 6 true) [.t 8], qo 45 (.buildSl 6) [.t 44], qt 46 (.append 6 56) [.t 43, .t 45] [43], qt 6 .mv [.t 46] [46]] [3, 5, 6])))))))))
 (.seq (.region [qt 47 .mv [.t 6] [6], qo 48 (.build [.int .i64 0, .int .i64 0, .int .i64 0] []) [], qt 2 .mv [.t 47] [47], qn (.store 3) [.t 3, .t 48] []] [2, 3])
 (.ret))))))), [.tmp 2, .cell 3 3 true]⟩
def v_layout_Lay : VFunc := ⟨99, .seq (.region [qo 2 .mv [.c (.sl true 6 [])]] [0])
 (.seq (.region [qo 9 (.build [.int .i64 0, .int .i64 0] [(0, 1), (1, 1)]) [qi 1, qi 1], qo 10 (.build [.sl true 6 [], .nilh 2, .bool false, .int .i64 0, .int .i64 0] [(2, 1), (3, 2)]) [qb true, .t 9],
qt 11 .box [.t 10] [10], qm 3 11] [0, 3])
 (.seq (.region [qo 4 .mv [qi 0]] [0, 3, 4])
 (.seq (.seq (.region [qt 12 .mv [.t 0] [0], qo 13 .len [.t 12], qo 14 .mv [qi 0]] [3, 4, 12, 13, 14])
 (.block 0 (.loop (.seq (.region [qo 15 (.bin .lss) [.t 14, .t 13]] [3, 4, 12, 13, 14, 15])
 (.seq (.cond (.t 15)
 (.skip)
 (.exit 0))
 (.seq (.block 1 (.seq (.region [qm 16 14, qo 17 (.indexAddr 6) [.t 12, .t 14], qo 18 (.load 6 true) [.t 17], qo 6 (.alloc [.int .i64 0, .str [], .int .i64 0, .int .i64 0, .int .i64 0, .bool false]) [], qm 5 16,
qn (.store 6) [.t 6, .t 18] []] [3, 4, 5, 6, 12, 13, 14])
 (.seq (.region [qm 19 3, qo 20 (.fieldAddr 3) [.t 6], qo 21 (.load 2 true) [.t 20], qo 22 .nilCheck [.t 19], qo 23 (.fieldAddr 3) [.t 22], qn (.store 2) [.t 23, .t 21] []] [3, 4, 5, 6, 12, 13, 14])
 (.seq (.region [qm 24 5, qo 25 (.bin .eql) [.t 24, qi 0], qm 26 25, qg 27 (.fieldAddr 3) [.t 6] [] 26 false, qg 28 (.fieldAddr 0) [.t 27] [] 26 false, qg 29 (.load 1 false) [.t 28] [] 26 false,
qv 30 4 26 false, qg 31 (.bin .neq) [.t 29, .t 30] [] 26 false, qo 32 .pick [.t 26, qb true, .t 31], qm 7 32] [3, 6, 7, 12, 13, 14])
 (.seq (.region [qo 33 (.fieldAddr 3) [.t 6], qo 34 (.fieldAddr 0) [.t 33], qo 35 (.load 1 false) [.t 34], qm 4 35] [3, 4, 6, 7, 12, 13, 14])
 (.seq (.seq (.region [qm 36 3, qo 37 .nilCheck [.t 36], qo 38 (.fieldAddr 2) [.t 37], qo 39 (.load 1 false) [.t 38], qm 40 39, qv 41 3 40 true, qg 42 (.load 6 true) [.t 6] [] 40 true,
qg 43 (.call .wr) [qf 108, .t 41, .t 42] [] 40 true, qo 44 .pick [.t 40, .t 43, qb false]] [3, 4, 6, 7, 12, 13, 14, 44])
 (.cond (.t 44)
 (.region [qo 7 .mv [qb false]] [3, 4, 6, 7, 12, 13, 14])
 (.skip)))
 (.seq (.seq (.region [qm 45 7] [3, 4, 6, 12, 13, 14, 45])
 (.cond (.t 45)
 (.region [qm 46 3, qo 47 (.load 6 true) [.t 6], qo 48 (.call .wr) [qf 109, .t 46, .t 47]] [3, 4, 6, 12, 13, 14])
 (.skip)))
 (.seq (.region [qm 49 3, qo 50 (.load 6 true) [.t 6], qo 51 (.call .wr) [qf 110, .t 49, .t 50]] [3, 4, 6, 12, 13, 14])
 (.seq (.region [qm 52 3, qm 53 3, qo 54 .nilCheck [.t 53], qo 55 (.fieldAddr 0) [.t 54], qo 56 (.loadT 1 false) [.t 55], qo 57 (.load 6 true) [.t 6], qo 58 (.buildSl 6) [.t 57],
qt 59 (.append 6 56) [.t 56, .t 58] [56], qo 60 .nilCheck [.t 52], qo 61 (.fieldAddr 0) [.t 60], qn (.store 1) [.t 61, .t 59] [59]] [3, 4, 6, 12, 13, 14])
 (.region [qm 62 3, qo 63 (.load 6 true) [.t 6], qo 64 (.call .wr) [qf 111, .t 62, .t 63]] [3, 4, 12, 13, 14]))))))))))
 (.region [qo 65 (.bin .add) [.t 14, qi 1], qm 14 65] [3, 4, 12, 13, 14])))))))
 (.seq (.seq (.region [qm 66 3, qo 67 .nilCheck [.t 66], qo 68 (.fieldAddr 2) [.t 67], qo 69 (.load 1 false) [.t 68]] [3, 69])
 (.cond (.t 69)
 (.seq (.region [qm 70 3, qo 71 (.call .wr) [qf 112, .t 70, .c (.str [123])]] [3])
 (.region [qm 72 3, qo 73 (.call .wr) [qf 112, .t 72, .c (.str [125])]] [3]))
 (.skip)))
 (.seq (.seq (.region [qm 74 3, qo 75 .nilCheck [.t 74], qo 76 (.fieldAddr 1) [.t 75], qo 77 (.load 1 false) [.t 76], qo 78 .len [.t 77], qo 79 (.bin .sub) [.t 78, qi 1], qm 8 79] [3, 8])
 (.block 2 (.loop (.seq (.seq (.region [qm 80 8, qo 81 (.bin .geq) [.t 80, qi 0]] [3, 8, 81])
 (.cond (.t 81)
 (.skip)
 (.exit 2)))
 (.seq (.block 3 (.seq (.region [qm 84 3, qo 85 .nilCheck [.t 84], qo 86 (.fieldAddr 1) [.t 85], qo 87 (.load 1 false) [.t 86], qm 88 8, qo 89 (.indexAddr 2) [.t 87, .t 88], qo 90 (.fieldAddr 0) [.t 89],
qo 91 (.load 1 false) [.t 90], qo 92 (.bin .eql) [.t 91, qi 0]] [3, 8, 92])
 (.cond (.t 92)
 (.region [qm 93 3, qo 94 (.call .wr) [qf 112, .t 93, .c (.str [125])]] [3, 8])
 (.skip))))
 (.region [qm 82 8, qo 83 (.bin .sub) [.t 82, qi 1], qm 8 83] [3, 8]))))))
 (.seq (.region [qm 95 3, qo 96 .nilCheck [.t 95], qo 97 (.fieldAddr 0) [.t 96], qo 98 (.load 1 false) [.t 97], qt 2 .mv [.t 98] [98]] [2])
 (.ret))))))), [.tmp 2]⟩
def v_parse_parser_is : VFunc := ⟨22, .seq (.region [qo 4 .mv [qb false]] [0, 1])
 (.seq (.region [qm 6 0, qo 7 (.call .wr) [qf 113, .t 6], qo 5 (.alloc [.int .i64 0, .str [], .int .i64 0, .int .i64 0, .int .i64 0, .bool false]) [], qn (.store 6) [.t 5, .t 7] []] [1, 5])
 (.seq (.region [qo 8 (.fieldAddr 0) [.t 5], qo 9 (.load 1 false) [.t 8], qo 10 (.bin .eql) [.t 9, qi 5], qm 11 10, qg 12 (.fieldAddr 0) [.t 5] [] 11 false, qg 13 (.load 1 false) [.t 12] [] 11 false,
qg 14 (.bin .eql) [.t 13, qi 6] [] 11 false, qo 15 .pick [.t 11, qb true, .t 14], qm 16 15, qg 17 (.fieldAddr 1) [.t 5] [] 16 true, qg 18 (.load 1 false) [.t 17] [] 16 true, qv 19 1 16 true,
qg 20 (.bin .eql) [.t 18, .t 19] [] 16 true, qo 21 .pick [.t 16, .t 20, qb false], qm 4 21] [4])
 (.ret))), [.tmp 4]⟩
def v_parse_parser_fails : VFunc := ⟨41, .seq (.seq (.region [qm 6 0, qo 7 .nilCheck [.t 6], qo 8 (.fieldAddr 2) [.t 7], qo 9 (.load 1 false) [.t 8]] [0, 1, 9])
 (.cond (.t 9)
 (.ret)
 (.skip)))
 (.seq (.region [qo 10 (.build [.int .i64 0, .int .i64 0] [(0, 1), (1, 1)]) [qi 1, qi 1], qo 4 (.alloc [.int .i64 0, .int .i64 0]) [], qn (.store 2) [.t 4, .t 10] []] [0, 1, 4])
 (.seq (.seq (.region [qm 11 0, qo 12 .nilCheck [.t 11], qo 13 (.fieldAddr 0) [.t 12], qo 14 (.load 1 false) [.t 13], qo 15 .len [.t 14], qm 5 15] [0, 1, 4, 5])
 (.seq (.region [qm 16 5, qo 17 (.bin .gtr) [.t 16, qi 0]] [0, 1, 4, 5, 17])
 (.cond (.t 17)
 (.region [qm 18 0, qo 19 .nilCheck [.t 18], qo 20 (.fieldAddr 0) [.t 19], qo 21 (.load 1 false) [.t 20], qm 22 0, qo 23 .nilCheck [.t 22], qo 24 (.fieldAddr 1) [.t 23], qo 25 (.load 1 false) [.t 24],
qm 26 5, qo 27 (.bin .sub) [.t 26, qi 1], qo 28 .min [.t 25, .t 27], qo 29 (.indexAddr 6) [.t 21, .t 28], qo 30 (.fieldAddr 3) [.t 29], qo 31 (.load 2 true) [.t 30],
qn (.store 2) [.t 4, .t 31] []] [0, 1, 4])
 (.skip))))
 (.seq (.region [qm 32 0, qo 33 .nilCheck [.t 32], qo 34 (.fieldAddr 2) [.t 33], qn (.store 1) [.t 34, qb true] []] [0, 1, 4])
 (.region [qm 35 0, qm 36 1, qo 37 (.load 2 true) [.t 4], qo 38 (.build [.int .i64 0, .int .i64 0, .int .i64 0] [(0, 1), (1, 2)]) [.t 36, .t 37], qo 39 .nilCheck [.t 35], qo 40 (.fieldAddr 3) [.t 39],
qn (.store 3) [.t 40, .t 38] []] [])))), []⟩
def v_parse_parser_next : VFunc := ⟨31, .seq (.region [qo 2 (.alloc [.int .i64 0, .str [], .int .i64 0, .int .i64 0, .int .i64 0, .bool false]) []] [0, 2])
 (.seq (.region [qm 4 0, qo 5 (.call .wr) [qf 113, .t 4], qo 3 (.alloc [.int .i64 0, .str [], .int .i64 0, .int .i64 0, .int .i64 0, .bool false]) [], qn (.store 6) [.t 3, .t 5] []] [0, 2, 3])
 (.seq (.seq (.region [qm 6 0, qo 7 .nilCheck [.t 6], qo 8 (.fieldAddr 2) [.t 7], qo 9 (.load 1 false) [.t 8], qo 10 .not [.t 9], qm 11 10, qv 12 0 11 true, qg 13 .nilCheck [.t 12] [] 11 true,
qg 14 (.fieldAddr 1) [.t 13] [] 11 true, qg 15 (.load 1 false) [.t 14] [] 11 true, qv 16 0 11 true, qg 17 .nilCheck [.t 16] [] 11 true, qg 18 (.fieldAddr 0) [.t 17] [] 11 true,
qg 19 (.load 1 false) [.t 18] [] 11 true, qg 20 .len [.t 19] [] 11 true, qg 21 (.bin .lss) [.t 15, .t 20] [] 11 true, qo 22 .pick [.t 11, .t 21, qb false]] [0, 2, 3, 22])
 (.cond (.t 22)
 (.region [qm 23 0, qo 24 .nilCheck [.t 23], qo 25 (.fieldAddr 1) [.t 24], qo 26 (.load 1 false) [.t 25], qo 27 (.bin .add) [.t 26, qi 1], qo 28 .nilCheck [.t 23], qo 29 (.fieldAddr 1) [.t 28],
qn (.store 1) [.t 29, .t 27] []] [2, 3])
 (.skip)))
 (.seq (.region [qo 30 (.load 6 true) [.t 3], qn (.store 6) [.t 2, .t 30] []] [2])
 (.ret)))), [.cell 2 6 true]⟩
def v_parse_parser_operand : VFunc := ⟨96, .seq (.region [qo 1 .box [.t 0], qo 2 (.alloc [.int .i64 0, .str [], .int .i64 0, .sl true 1 [], .sl true 9 [], .sl true 7 [], .nilh 4, .int .i64 0, .int .i64 0]) []] [1, 2])
 (.seq (.region [qo 11 (.load 1 false) [.t 1], qo 12 (.call .wr) [qf 113, .t 11], qo 13 (.field 3 2 true) [.t 12], qo 3 (.alloc [.int .i64 0, .int .i64 0]) [], qn (.store 2) [.t 3, .t 13] []] [1, 2, 3])
 (.seq (.block 0 (.seq (.region [qo 15 (.load 1 false) [.t 1], qo 16 (.call .wr) [qf 75, .t 15, .c (.str [92])], qm 14 16] [1, 2, 3, 14])
 (.cond (.t 14)
 (.seq (.region [qo 17 (.load 1 false) [.t 1], qo 18 (.call .wr) [qf 114, .t 17], qn (.store 9) [.t 2, .t 18] [18]] [1, 2])
 (.ret))
 (.seq (.region [qo 20 (.load 1 false) [.t 1], qo 21 (.call .wr) [qf 75, .t 20, .c (.str [108, 101, 116])], qm 19 21] [1, 2, 3, 19])
 (.cond (.t 19)
 (.seq (.region [qo 22 (.load 1 false) [.t 1], qo 23 (.call .wr) [qf 77, .t 22]] [1, 2, 3])
 (.seq (.region [qo 24 (.load 2 true) [.t 3], qo 25 (.build [.int .i64 0, .str [], .int .i64 0, .sl true 1 [], .sl true 9 [], .sl true 7 [], .nilh 4, .int .i64 0, .int .i64 0] [(0, 1), (7, 2)]) [qi 6, .t 24],
qo 4 (.alloc [.int .i64 0, .str [], .int .i64 0, .sl true 1 [], .sl true 9 [], .sl true 7 [], .nilh 4, .int .i64 0, .int .i64 0]) [], qn (.store 9) [.t 4, .t 25] [25]] [1, 2, 4])
 (.seq (.seq (.region [qo 26 (.load 1 false) [.t 1], qo 27 (.mkfn 116) [.t 1, .t 4], qo 28 (.call .wr) [qf 115, .t 26, .t 27], qm 5 28] [1, 2, 4, 5])
 (.seq (.region [qm 29 5, qo 30 (.bin .eql) [.t 29, qi 0]] [1, 2, 4, 30])
 (.cond (.t 30)
 (.region [qo 31 (.load 1 false) [.t 1], qo 32 (.call .wr) [qf 76, .t 31, qi 60]] [1, 2, 4])
 (.skip))))
 (.seq (.region [qo 33 (.load 1 false) [.t 1], qo 34 (.call .wr) [qf 54, .t 33, .c (.str [125])]] [1, 2, 4])
 (.seq (.region [qo 35 (.load 1 false) [.t 1], qo 36 (.call .wr) [qf 54, .t 35, .c (.str [105, 110])]] [1, 2, 4])
 (.seq (.region [qo 37 (.load 1 false) [.t 1], qo 38 (.call .wr) [qf 55, .t 37], qt 39 (.buildSl 9) [.t 38] [38], qo 40 (.fieldAddr 4) [.t 4], qn (.store 1) [.t 40, .t 39] [39]] [1, 2, 4])
 (.seq (.region [qo 41 (.loadT 9 true) [.t 4], qn (.store 9) [.t 2, .t 41] [41]] [1, 2])
 (.ret))))))))
 (.seq (.region [qo 43 (.load 1 false) [.t 1], qo 44 (.call .wr) [qf 75, .t 43, .c (.str [105, 102])], qm 42 44] [1, 2, 3, 42])
 (.cond (.t 42)
 (.seq (.region [qo 45 (.load 1 false) [.t 1], qo 46 (.call .wr) [qf 77, .t 45]] [1, 2, 3])
 (.seq (.region [qo 47 (.load 1 false) [.t 1], qo 48 (.call .wr) [qf 55, .t 47],
qo 6 (.alloc [.int .i64 0, .str [], .int .i64 0, .sl true 1 [], .sl true 9 [], .sl true 7 [], .nilh 4, .int .i64 0, .int .i64 0]) [], qn (.store 9) [.t 6, .t 48] [48]] [1, 2, 3, 6])
 (.seq (.region [qo 49 (.load 1 false) [.t 1], qo 50 (.call .wr) [qf 54, .t 49, .c (.str [116, 104, 101, 110])]] [1, 2, 3, 6])
 (.seq (.region [qo 51 (.load 1 false) [.t 1], qo 52 (.call .wr) [qf 55, .t 51],
qo 7 (.alloc [.int .i64 0, .str [], .int .i64 0, .sl true 1 [], .sl true 9 [], .sl true 7 [], .nilh 4, .int .i64 0, .int .i64 0]) [], qn (.store 9) [.t 7, .t 52] [52]] [1, 2, 3, 6, 7])
 (.seq (.region [qo 53 (.load 1 false) [.t 1], qo 54 (.call .wr) [qf 54, .t 53, .c (.str [101, 108, 115, 101])]] [1, 2, 3, 6, 7])
 (.seq (.region [qo 55 (.loadL 1 9 true) [.t 6], qo 56 (.loadL 1 9 true) [.t 7], qo 57 (.loadL 1 1 false) [.t 1], qo 58 (.call (.fr 1)) [qf 55, .t 57], qt 59 (.buildSl 9) [.t 55, .t 56, .t 58] [55, 56, 58],
qo 60 (.loadL 1 2 true) [.t 3],
qt 61 (.build [.int .i64 0, .str [], .int .i64 0, .sl true 1 [], .sl true 9 [], .sl true 7 [], .nilh 4, .int .i64 0, .int .i64 0] [(0, 1), (4, 1), (7, 2)]) [qi 8, .t 59, .t 60] [59],
qn (.store 9) [.t 2, .t 61] [61]] [1, 2])
 (.ret)))))))
 (.seq (.region [qo 63 (.load 1 false) [.t 1], qo 64 (.call .wr) [qf 75, .t 63, .c (.str [99, 97, 115, 101])], qm 62 64] [1, 2, 3, 62])
 (.cond (.t 62)
 (.seq (.region [qo 65 (.load 1 false) [.t 1], qo 66 (.call .wr) [qf 77, .t 65]] [1, 2, 3])
 (.seq (.region [qo 67 (.loadL 1 1 false) [.t 1], qo 68 (.call (.fr 1)) [qf 55, .t 67], qt 69 (.buildSl 9) [.t 68] [68], qo 70 (.loadL 1 2 true) [.t 3],
qt 71 (.build [.int .i64 0, .str [], .int .i64 0, .sl true 1 [], .sl true 9 [], .sl true 7 [], .nilh 4, .int .i64 0, .int .i64 0] [(0, 1), (4, 1), (7, 2)]) [qi 7, .t 69, .t 70] [69],
qo 8 (.allocL 1 [.int .i64 0, .str [], .int .i64 0, .sl true 1 [], .sl true 9 [], .sl true 7 [], .nilh 4, .int .i64 0, .int .i64 0]) [], qn (.store 9) [.t 8, .t 71] [71]] [1, 2, 8])
 (.seq (.region [qo 72 (.load 1 false) [.t 1], qo 73 (.call .wr) [qf 54, .t 72, .c (.str [111, 102])]] [1, 2, 8])
 (.seq (.seq (.region [qo 74 (.load 1 false) [.t 1], qo 75 (.mkfn 118) [.t 8, .t 1], qo 76 (.call .wr) [qf 115, .t 74, .t 75], qm 9 76] [1, 2, 8, 9])
 (.seq (.region [qm 77 9, qo 78 (.bin .eql) [.t 77, qi 0]] [1, 2, 8, 78])
 (.cond (.t 78)
 (.region [qo 79 (.load 1 false) [.t 1], qo 80 (.call .wr) [qf 76, .t 79, qi 60]] [1, 2, 8])
 (.skip))))
 (.seq (.region [qo 81 (.load 1 false) [.t 1], qo 82 (.call .wr) [qf 54, .t 81, .c (.str [125])]] [1, 2, 8])
 (.seq (.region [qo 83 (.loadT 9 true) [.t 8], qn (.store 9) [.t 2, .t 83] [83]] [1, 2])
 (.ret)))))))
 (.skip))))))))))
 (.seq (.region [qo 84 (.load 1 false) [.t 1], qo 85 (.call .wr) [qf 120, .t 84],
qo 10 (.alloc [.int .i64 0, .str [], .int .i64 0, .sl true 1 [], .sl true 9 [], .sl true 7 [], .nilh 4, .int .i64 0, .int .i64 0]) [], qn (.store 9) [.t 10, .t 85] [85]] [1, 2, 10])
 (.seq (.block 1 (.loop (.seq (.seq (.region [qo 86 (.load 1 false) [.t 1], qo 87 (.call .wr) [qf 121, .t 86]] [1, 2, 10, 87])
 (.cond (.t 87)
 (.skip)
 (.exit 1)))
 (.block 2 (.region [qo 88 (.loadTL 1 9 true) [.t 10], qo 89 (.loadL 1 1 false) [.t 1], qo 90 (.call (.fr 1)) [qf 120, .t 89], qt 91 (.buildSl 9) [.t 88, .t 90] [88, 90], qo 92 (.fieldAddr 7) [.t 10],
qo 93 (.loadL 1 2 true) [.t 92],
qt 94 (.build [.int .i64 0, .str [], .int .i64 0, .sl true 1 [], .sl true 9 [], .sl true 7 [], .nilh 4, .int .i64 0, .int .i64 0] [(0, 1), (4, 1), (7, 2)]) [qi 4, .t 91, .t 93] [91],
qn (.store 9) [.t 10, .t 94] [94]] [1, 2, 10])))))
 (.seq (.region [qo 95 (.loadT 9 true) [.t 10], qn (.store 9) [.t 2, .t 95] [95]] [1, 2])
 (.ret)))))), [.cell 2 9 true]⟩
def v_parse_parser_kind : VFunc := ⟨10, .seq (.region [qo 4 .mv [qb false]] [0, 1])
 (.seq (.region [qm 5 0, qo 6 (.call .wr) [qf 113, .t 5], qo 7 (.field 0 1 false) [.t 6], qm 8 1, qo 9 (.bin .eql) [.t 7, .t 8], qm 4 9] [4])
 (.ret)), [.tmp 4]⟩
def v_parse_grower_grown : VFunc := ⟨40, .seq (.region [qt 3 .box [.t 1] [1], qo 4 (.alloc [.int .i64 0, .str [], .int .i64 0, .sl true 1 [], .sl true 9 [], .sl true 7 [], .nilh 4, .int .i64 0, .int .i64 0]) []] [0, 3, 4])
 (.seq (.region [qm 10 0, qo 11 (.load 9 true) [.t 3], qt 12 (.call .wr) [qf 122, .t 10, .t 11] [11], qo 5 (.alloc [.sl true 2 []]) [], qn (.store 1) [.t 5, .t 12] [12]] [0, 3, 4, 5])
 (.seq (.seq (.region [qm 13 0, qo 14 .nilCheck [.t 13], qo 15 (.fieldAddr 1) [.t 14], qo 16 (.load 1 false) [.t 15]] [0, 3, 4, 5, 16])
 (.cond (.t 16)
 (.seq (.region [qo 17 (.load 9 true) [.t 3], qn (.store 9) [.t 4, .t 17] [17]] [3, 4])
 (.ret))
 (.skip)))
 (.seq (.region [qo 6 (.alloc [.nilh 9]) []] [0, 3, 4, 5, 6])
 (.seq (.seq (.region [qo 18 (.fieldAddr 4) [.t 3], qo 19 (.load 1 false) [.t 18], qo 20 .len [.t 19], qo 21 .mv [qi 0]] [0, 3, 4, 5, 6, 19, 20, 21])
 (.block 0 (.loop (.seq (.region [qo 22 (.bin .lss) [.t 21, .t 20]] [0, 3, 4, 5, 6, 19, 20, 21, 22])
 (.seq (.cond (.t 22)
 (.skip)
 (.exit 0))
 (.seq (.block 1 (.seq (.region [qo 23 (.indexAddr 9) [.t 19, .t 21], qo 24 (.load 9 true) [.t 23],
qo 8 (.alloc [.int .i64 0, .str [], .int .i64 0, .sl true 1 [], .sl true 9 [], .sl true 7 [], .nilh 4, .int .i64 0, .int .i64 0]) [], qn (.store 9) [.t 8, .t 24] [24]] [0, 3, 4, 5, 6, 8, 19, 20, 21])
 (.regionD [] [qo 25 (.loadL 3 1 false) [.t 6], qm 26 0, qo 27 (.loadTL 3 9 true) [.t 8], qo 28 (.call (.fr 3)) [qf 57, .t 26, .t 27], qo 29 .len [.t 25],
qo 30 (.buildSl 9) [.c (.agg [.int .i64 0, .str [], .int .i64 0, .sl true 1 [], .sl true 9 [], .sl true 7 [], .sl true 4 [], .int .i64 0, .int .i64 0])],
qo 31 (.appendA 9 144) [.t 25, .t 30], qo 32 (.indexAddr 9) [.t 31, .t 29], qn (.storeP 9) [.t 32, .t 28] [], qn (.storeP 1) [.t 6, .t 31] []] [(32, 6)] [0, 3, 4, 5, 6, 19, 20, 21])))
 (.region [qo 33 (.bin .add) [.t 21, qi 1], qm 21 33] [0, 3, 4, 5, 6, 19, 20, 21])))))))
 (.seq (.region [qo 9 (.alloc [.nilfn]) []] [3, 4, 5, 6, 9])
 (.seq (.region [qo 34 (.mkfn 123) [.t 5, .t 3, .t 9, .t 6], qn (.store 1) [.t 9, .t 34] []] [3, 4, 6, 9])
 (.seq (.region [qo 35 (.load 1 false) [.t 9], qo 36 (.load 1 false) [.t 6], qo 37 .len [.t 36], qo 38 (.bin .sub) [.t 37, qi 1], qo 39 (.call .wr) [.t 35, qi 0, .t 38], qn (.store 9) [.t 4, .t 39] [39]] [3, 4])
 (.ret)))))))), [.cell 4 9 true]⟩
def v_parse_grower_binds : VFunc := ⟨42, .seq (.region [qo 4 .mv [.c (.sl true 4 [])]] [0, 1])
 (.seq (.region [qo 5 .mv [.c (.sl true 4 [])]] [0, 1, 5])
 (.seq (.seq (.region [qt 11 .mv [.t 1] [1], qo 12 .len [.t 11], qo 13 .mv [qi 0]] [0, 5, 11, 12, 13])
 (.block 0 (.loop (.seq (.region [qo 14 (.bin .lss) [.t 13, .t 12]] [0, 5, 11, 12, 13, 14])
 (.seq (.cond (.t 14)
 (.skip)
 (.exit 0))
 (.seq (.block 1 (.seq (.region [qo 15 (.indexAddr 4) [.t 11, .t 13], qo 16 (.load 4 true) [.t 15], qo 7 (.alloc [.str [], .sl true 2 [], .int .i64 0, .int .i64 0]) [], qn (.store 4) [.t 7, .t 16] [16]] [0, 5, 7, 11, 12, 13])
 (.seq (.region [qo 8 .mv [.c (.sl true 2 [])]] [0, 5, 7, 8, 11, 12, 13])
 (.seq (.seq (.region [qo 17 (.fieldAddr 1) [.t 7], qo 18 (.load 1 false) [.t 17], qo 19 .len [.t 18], qo 20 .mv [qi 0]] [0, 5, 7, 8, 11, 12, 13, 18, 19, 20])
 (.block 2 (.loop (.seq (.region [qo 21 (.bin .lss) [.t 20, .t 19]] [0, 5, 7, 8, 11, 12, 13, 18, 19, 20, 21])
 (.seq (.cond (.t 21)
 (.skip)
 (.exit 2))
 (.seq (.block 3 (.seq (.region [qo 22 (.indexAddr 2) [.t 18, .t 20], qo 23 (.load 2 true) [.t 22], qo 10 (.alloc [.sl true 6 [], .sl true 10 []]) [], qn (.store 2) [.t 10, .t 23] [23]] [0, 5, 7, 8, 10, 11, 12, 13, 18, 19, 20])
 (.seq (.region [qm 24 0, qo 25 (.fieldAddr 1) [.t 10], qo 26 (.load 1 false) [.t 25], qt 27 (.call .wr) [qf 82, .t 24, .t 26] [26], qo 28 (.fieldAddr 1) [.t 10], qn (.store 1) [.t 28, .t 27] [27]] [0, 5, 7, 8, 10, 11, 12, 13, 18, 19, 20])
 (.region [qt 29 .mv [.t 8] [8], qo 30 (.loadT 2 true) [.t 10], qt 31 (.buildSl 2) [.t 30] [30], qt 32 (.append 2 48) [.t 29, .t 31] [29], qt 8 .mv [.t 32] [32]] [0, 5, 7, 8, 11, 12, 13, 18, 19, 20]))))
 (.region [qo 33 (.bin .add) [.t 20, qi 1], qm 20 33] [0, 5, 7, 8, 11, 12, 13, 18, 19, 20])))))))
 (.seq (.region [qt 34 .mv [.t 8] [8], qo 35 (.fieldAddr 1) [.t 7], qn (.store 1) [.t 35, .t 34] [34]] [0, 5, 7, 11, 12, 13])
 (.region [qt 36 .mv [.t 5] [5], qo 37 (.loadT 4 true) [.t 7], qt 38 (.buildSl 4) [.t 37] [37], qt 39 (.append 4 56) [.t 36, .t 38] [36], qt 5 .mv [.t 39] [39]] [0, 5, 11, 12, 13]))))))
 (.region [qo 40 (.bin .add) [.t 13, qi 1], qm 13 40] [0, 5, 11, 12, 13])))))))
 (.seq (.region [qt 41 .mv [.t 5] [5], qt 4 .mv [.t 41] [41]] [4])
 (.ret)))), [.tmp 4]⟩
def v_parse_grower_rhs : VFunc := ⟨44, .seq (.region [qo 4 .mv [.c (.sl true 10 [])]] [0, 1])
 (.seq (.region [qo 5 .mv [.c (.sl true 10 [])]] [0, 1, 5])
 (.seq (.seq (.region [qt 11 .mv [.t 1] [1], qo 12 .len [.t 11], qo 13 .mv [qi 0]] [0, 5, 11, 12, 13])
 (.block 0 (.loop (.seq (.region [qo 14 (.bin .lss) [.t 13, .t 12]] [0, 5, 11, 12, 13, 14])
 (.seq (.cond (.t 14)
 (.skip)
 (.exit 0))
 (.seq (.block 1 (.seq (.region [qo 15 (.indexAddr 10) [.t 11, .t 13], qo 16 (.load 10 true) [.t 15],
qo 7 (.alloc [.sl true 9 [], .int .i64 0, .str [], .int .i64 0, .sl true 1 [], .sl true 9 [], .sl true 7 [], .nilh 4, .int .i64 0, .int .i64 0]) [], qn (.store 10) [.t 7, .t 16] [16]] [0, 5, 7, 11, 12, 13])
 (.seq (.region [qo 8 .mv [.c (.sl true 9 [])]] [0, 5, 7, 8, 11, 12, 13])
 (.seq (.seq (.region [qo 17 (.fieldAddr 0) [.t 7], qo 18 (.load 1 false) [.t 17], qo 19 .len [.t 18], qo 20 .mv [qi 0]] [0, 5, 7, 8, 11, 12, 13, 18, 19, 20])
 (.block 2 (.loop (.seq (.region [qo 21 (.bin .lss) [.t 20, .t 19]] [0, 5, 7, 8, 11, 12, 13, 18, 19, 20, 21])
 (.seq (.cond (.t 21)
 (.skip)
 (.exit 2))
 (.seq (.block 3 (.seq (.region [qo 22 (.indexAddr 9) [.t 18, .t 20], qo 23 (.load 9 true) [.t 22],
qo 10 (.alloc [.int .i64 0, .str [], .int .i64 0, .sl true 1 [], .sl true 9 [], .sl true 7 [], .nilh 4, .int .i64 0, .int .i64 0]) [], qn (.store 9) [.t 10, .t 23] [23]] [0, 5, 7, 8, 10, 11, 12, 13, 18, 19, 20])
 (.region [qt 24 .mv [.t 8] [8], qm 25 0, qo 26 (.loadT 9 true) [.t 10], qt 27 (.call .wr) [qf 57, .t 25, .t 26] [26], qt 28 (.buildSl 9) [.t 27] [27], qt 29 (.append 9 144) [.t 24, .t 28] [24],
qt 8 .mv [.t 29] [29]] [0, 5, 7, 8, 11, 12, 13, 18, 19, 20])))
 (.region [qo 30 (.bin .add) [.t 20, qi 1], qm 20 30] [0, 5, 7, 8, 11, 12, 13, 18, 19, 20])))))))
 (.seq (.region [qt 31 .mv [.t 8] [8], qo 32 (.fieldAddr 0) [.t 7], qn (.store 1) [.t 32, .t 31] [31]] [0, 5, 7, 11, 12, 13])
 (.seq (.region [qm 33 0, qo 34 (.fieldAddr 1) [.t 7], qo 35 (.load 9 true) [.t 34], qt 36 (.call .wr) [qf 57, .t 33, .t 35] [35], qo 37 (.fieldAddr 1) [.t 7], qn (.store 9) [.t 37, .t 36] [36]] [0, 5, 7, 11, 12, 13])
 (.region [qt 38 .mv [.t 5] [5], qo 39 (.loadT 10 true) [.t 7], qt 40 (.buildSl 10) [.t 39] [39], qt 41 (.append 10 168) [.t 38, .t 40] [38], qt 5 .mv [.t 41] [41]] [0, 5, 11, 12, 13])))))))
 (.region [qo 42 (.bin .add) [.t 13, qi 1], qm 13 42] [0, 5, 11, 12, 13])))))))
 (.seq (.region [qt 43 .mv [.t 5] [5], qt 4 .mv [.t 43] [43]] [4])
 (.ret)))), [.tmp 4]⟩
def v_r02_Tokens : VFunc := ⟨85, .seq (.region [qo 2 .mv [.c (.sl true 6 [])], qo 3 (.alloc [.int .i64 0, .int .i64 0, .int .i64 0]) []] [0, 3])
 (.seq (.seq (.region [qm 10 0, qo 11 .lenStr [.t 10], qo 12 (.bin .gtr) [.t 11, qi 8192]] [0, 3, 12])
 (.cond (.t 12)
 (.seq (.region [qo 13 (.build [.int .i64 0, .int .i64 0] [(0, 1), (1, 1)]) [qi 1, qi 1], qo 14 (.build [.int .i64 0, .int .i64 0, .int .i64 0] [(0, 1), (1, 2)]) [qi 2, .t 13], qo 2 .mv [.c (.sl true 6 [])],
qn (.store 3) [.t 3, .t 14] []] [2, 3])
 (.ret))
 (.skip)))
 (.seq (.region [qo 4 .mv [.c (.sl true 6 [])]] [0, 3, 4])
 (.seq (.region [qm 15 0, qo 16 (.call .wr) [qf 124, .t 15], qm 5 16] [0, 3, 4, 5])
 (.seq (.block 0 (.loop (.seq (.seq (.region [qm 17 5, qm 18 0, qo 19 .lenStr [.t 18], qo 20 (.bin .lss) [.t 17, .t 19]] [0, 3, 4, 5, 20])
 (.cond (.t 20)
 (.skip)
 (.exit 0)))
 (.block 1 (.seq (.region [qm 21 0, qm 22 5, qo 23 (.sliceStr true false) [.t 21, .t 22], qo 24 (.call .wr) [qf 125, .t 23], qm 6 24] [0, 3, 4, 5, 6])
 (.seq (.seq (.region [qm 25 6, qo 26 (.bin .eql) [.t 25, qi 0]] [0, 3, 4, 5, 6, 26])
 (.cond (.t 26)
 (.seq (.region [qm 27 0, qm 28 5, qo 29 (.call .wr) [qf 126, .t 27, .t 28], qo 30 (.build [.int .i64 0, .int .i64 0, .int .i64 0] [(0, 1), (1, 2)]) [qi 20, .t 29], qo 2 .mv [.c (.sl true 6 [])],
qn (.store 3) [.t 3, .t 30] []] [2, 3])
 (.ret))
 (.skip)))
 (.seq (.region [qm 31 0, qm 32 5, qm 33 5, qm 34 6, qo 35 (.bin .add) [.t 33, .t 34], qo 36 (.sliceStr true true) [.t 31, .t 32, .t 35], qm 7 36] [0, 3, 4, 5, 6, 7])
 (.seq (.region [qm 37 7, qo 38 (.call .wr) [qf 127, .t 37], qm 8 38] [0, 3, 4, 5, 6, 7, 8])
 (.seq (.seq (.region [qm 39 8, qo 40 (.bin .eql) [.t 39, qi 0], qm 41 40, qv 42 4 41 true, qg 43 .len [.t 42] [] 41 true, qg 44 (.bin .eql) [.t 43, qi 2048] [] 41 true, qo 45 .pick [.t 41, .t 44, qb false]] [0, 3, 4, 5, 6, 7, 8, 45])
 (.cond (.t 45)
 (.region [qo 8 .mv [qi 2]] [0, 3, 4, 5, 6, 7, 8])
 (.skip)))
 (.seq (.seq (.region [qm 46 8, qo 47 (.bin .neq) [.t 46, qi 0]] [0, 3, 4, 5, 6, 7, 8, 47])
 (.cond (.t 47)
 (.seq (.region [qm 48 8, qm 49 0, qm 50 5, qo 51 (.call .wr) [qf 126, .t 49, .t 50], qo 52 (.build [.int .i64 0, .int .i64 0, .int .i64 0] [(0, 1), (1, 2)]) [.t 48, .t 51], qo 2 .mv [.c (.sl true 6 [])],
qn (.store 3) [.t 3, .t 52] []] [2, 3])
 (.ret))
 (.skip)))
 (.seq (.region [qm 53 7, qo 54 (.call .wr) [qf 128, .t 53], qm 55 7, qm 56 0, qm 57 5, qo 58 (.call .wr) [qf 126, .t 56, .t 57],
qo 59 (.build [.int .i64 0, .str [], .int .i64 0, .int .i64 0, .int .i64 0, .bool false] [(0, 1), (1, 1), (3, 2)]) [.t 54, .t 55, .t 58],
qo 9 (.alloc [.int .i64 0, .str [], .int .i64 0, .int .i64 0, .int .i64 0, .bool false]) [], qn (.store 6) [.t 9, .t 59] []] [0, 3, 4, 5, 6, 7, 9])
 (.seq (.seq (.region [qo 60 (.fieldAddr 0) [.t 9], qo 61 (.load 1 false) [.t 60], qo 62 (.bin .eql) [.t 61, qi 4]] [0, 3, 4, 5, 6, 7, 9, 62])
 (.cond (.t 62)
 (.region [qm 64 7, qo 65 (.call .wr) [qf 129, .t 64], qm 63 65, qo 66 (.extract 0) [.t 63], qo 67 (.extract 1) [.t 63], qo 68 (.fieldAddr 2) [.t 9], qn (.store 1) [.t 68, .t 66] []] [0, 3, 4, 5, 6, 9])
 (.skip)))
 (.seq (.region [qt 69 .mv [.t 4] [4], qo 70 (.load 6 true) [.t 9], qo 71 (.buildSl 6) [.t 70], qt 72 (.append 6 56) [.t 69, .t 71] [69], qt 4 .mv [.t 72] [72]] [0, 3, 4, 5, 6])
 (.region [qm 73 5, qm 74 6, qo 75 (.bin .add) [.t 73, .t 74], qm 76 0, qm 77 5, qm 78 6, qo 79 (.bin .add) [.t 77, .t 78], qo 80 (.sliceStr true false) [.t 76, .t 79],
qo 81 (.call .wr) [qf 124, .t 80], qo 82 (.bin .add) [.t 75, .t 81], qm 5 82] [0, 3, 4, 5]))))))))))))))
 (.seq (.region [qt 83 .mv [.t 4] [4], qo 84 (.build [.int .i64 0, .int .i64 0, .int .i64 0] []) [], qt 2 .mv [.t 83] [83], qn (.store 3) [.t 3, .t 84] []] [2, 3])
 (.ret)))))), [.tmp 2, .cell 3 3 true]⟩
def v_show_infix : VFunc := ⟨30, .seq (.region [qt 1 .box [.t 0] [0], qo 2 .mv [qb false]] [1])
 (.seq (.seq (.region [qo 4 (.fieldAddr 0) [.t 1], qo 5 (.load 1 false) [.t 4], qo 6 (.bin .neq) [.t 5, qi 4], qm 7 6, qg 8 (.fieldAddr 4) [.t 1] [] 7 false, qg 9 (.load 1 false) [.t 8] [] 7 false,
qg 10 (.indexAddr 9) [.t 9, qi 0] [] 7 false, qg 11 (.fieldAddr 0) [.t 10] [] 7 false, qg 12 (.load 1 false) [.t 11] [] 7 false, qg 13 (.bin .neq) [.t 12, qi 4] [] 7 false,
qo 14 .pick [.t 7, qb true, .t 13]] [1, 14])
 (.cond (.t 14)
 (.seq (.region [qo 2 .mv [qb false]] [2])
 (.ret))
 (.skip)))
 (.seq (.region [qo 15 (.fieldAddr 4) [.t 1], qo 16 (.load 1 false) [.t 15], qo 17 (.indexAddr 9) [.t 16, qi 0], qo 18 (.fieldAddr 4) [.t 17], qo 19 (.load 1 false) [.t 18],
qo 20 (.indexAddr 9) [.t 19, qi 0], qo 21 (.load 9 true) [.t 20],
qo 3 (.alloc [.int .i64 0, .str [], .int .i64 0, .sl true 1 [], .sl true 9 [], .sl true 7 [], .nilh 4, .int .i64 0, .int .i64 0]) [], qn (.store 9) [.t 3, .t 21] [21]] [3])
 (.seq (.region [qo 22 (.fieldAddr 0) [.t 3], qo 23 (.load 1 false) [.t 22], qo 24 (.bin .eql) [.t 23, qi 1], qm 25 24, qg 26 (.fieldAddr 1) [.t 3] [] 25 true, qg 27 (.load 1 false) [.t 26] [] 25 true,
qg 28 (.call .wr) [qf 140, .t 27] [] 25 true, qo 29 .pick [.t 25, .t 28, qb false], qm 2 29] [2])
 (.ret)))), [.tmp 2]⟩
def v_show_writer_operand : VFunc := ⟨17, .seq (.region [qo 2 .box [.t 0], qt 3 .box [.t 1] [1]] [2, 3])
 (.seq (.seq (.region [qo 4 (.fieldAddr 0) [.t 3], qo 5 (.load 1 false) [.t 4], qo 6 (.bin .geq) [.t 5, qi 5], qm 7 6, qg 8 (.load 9 true) [.t 3] [] 7 false, qg 9 (.call .wr) [qf 93, .t 8] [8] 7 false,
qo 10 .pick [.t 7, qb true, .t 9]] [2, 3, 10])
 (.cond (.t 10)
 (.seq (.region [qo 11 (.load 1 false) [.t 2], qo 12 (.mkfn 142) [.t 2, .t 3], qo 13 (.call .wr) [qf 141, .t 11, .t 12]] [])
 (.ret))
 (.skip)))
 (.region [qo 14 (.load 1 false) [.t 2], qo 15 (.loadT 9 true) [.t 3], qt 16 (.call .wr) [qf 65, .t 14, .t 15] [15]] [])), []⟩
def v_show_writer_put : VFunc := ⟨18, .seq (.region [qt 6 .mv [.t 1] [1], qo 7 .len [.t 6], qo 8 .mv [qi 0]] [0, 6, 7, 8])
 (.block 0 (.loop (.seq (.region [qo 9 (.bin .lss) [.t 8, .t 7]] [0, 6, 7, 8, 9])
 (.seq (.cond (.t 9)
 (.skip)
 (.exit 0))
 (.seq (.block 1 (.seq (.region [qo 10 (.indexAddr 1) [.t 6, .t 8], qo 11 (.load 1 false) [.t 10], qm 5 11] [0, 5, 6, 7, 8])
 (.region [qm 12 0, qo 13 .nilCheck [.t 12], qo 14 (.fieldAddr 0) [.t 13], qm 15 5, qo 16 (.call .wr) [qf 143, .t 14, .t 15]] [0, 6, 7, 8])))
 (.region [qo 17 (.bin .add) [.t 8, qi 1], qm 8 17] [0, 6, 7, 8])))))), []⟩
def v_show_writer_function : VFunc := ⟨18, .seq (.region [qt 3 .box [.t 1] [1]] [0, 3])
 (.seq (.seq (.region [qo 4 (.fieldAddr 0) [.t 3], qo 5 (.load 1 false) [.t 4], qo 6 (.bin .eql) [.t 5, qi 4], qm 7 6, qg 8 (.load 9 true) [.t 3] [] 7 true, qg 9 (.call .wr) [qf 93, .t 8] [8] 7 true,
qg 10 .not [.t 9] [] 7 true, qo 11 .pick [.t 7, .t 10, qb false]] [0, 3, 11])
 (.cond (.t 11)
 (.seq (.region [qm 12 0, qo 13 (.loadT 9 true) [.t 3], qt 14 (.call .wr) [qf 65, .t 12, .t 13] [13]] [])
 (.ret))
 (.skip)))
 (.region [qm 15 0, qo 16 (.loadT 9 true) [.t 3], qt 17 (.call .wr) [qf 97, .t 15, .t 16] [16]] [])), []⟩
def v_show_writer_atom : VFunc := ⟨28, .seq (.region [qo 2 .box [.t 0], qt 3 .box [.t 1] [1]] [2, 3])
 (.seq (.region [qo 4 (.fieldAddr 0) [.t 3], qo 5 (.load 1 false) [.t 4]] [2, 3, 5])
 (.block 0 (.seq (.region [qo 10 (.bin .eql) [.t 5, qi 1], qm 9 10] [2, 3, 5, 9])
 (.cond (.t 9)
 (.region [qo 11 (.load 1 false) [.t 2], qo 12 (.fieldAddr 1) [.t 3], qo 13 (.load 1 false) [.t 12], qo 14 (.call .wr) [qf 144, .t 11, .t 13]] [])
 (.seq (.region [qo 16 (.bin .eql) [.t 5, qi 2], qm 15 16] [2, 3, 5, 15])
 (.cond (.t 15)
 (.region [qo 17 (.load 1 false) [.t 2], qo 18 (.fieldAddr 1) [.t 3], qo 19 (.load 1 false) [.t 18], qo 20 (.buildSl 1) [.t 19], qt 21 (.call .wr) [qf 95, .t 17, .t 20] [20]] [])
 (.seq (.region [qo 23 (.bin .eql) [.t 5, qi 3], qm 22 23] [2, 3, 22])
 (.cond (.t 22)
 (.region [qo 24 (.load 1 false) [.t 2], qo 25 (.fieldAddr 2) [.t 3], qo 26 (.load 1 false) [.t 25], qo 27 (.call .wr) [qf 145, .t 24, .t 26]] [])
 (.region [qo 6 (.load 1 false) [.t 2], qo 7 (.mkfn 146) [.t 2, .t 3], qo 8 (.call .wr) [qf 141, .t 6, .t 7]] []))))))))), []⟩
def v_show_writer_clauses : VFunc := ⟨50, .seq (.region [qo 8 .mv [qb true]] [0, 1, 2, 3, 8])
 (.seq (.region [qt 13 .mv [.t 1] [1], qo 14 .len [.t 13], qo 15 .mv [qi 0]] [0, 2, 3, 8, 13, 14, 15])
 (.block 0 (.loop (.seq (.region [qo 16 (.bin .lss) [.t 15, .t 14]] [0, 2, 3, 8, 13, 14, 15, 16])
 (.seq (.cond (.t 16)
 (.skip)
 (.exit 0))
 (.seq (.block 1 (.seq (.region [qo 17 (.indexAddr 4) [.t 13, .t 15], qo 18 (.load 4 true) [.t 17], qo 10 (.alloc [.str [], .sl true 2 [], .int .i64 0, .int .i64 0]) [], qn (.store 4) [.t 10, .t 18] [18]] [0, 2, 3, 8, 10, 13, 14, 15])
 (.seq (.region [qo 19 (.fieldAddr 1) [.t 10], qo 20 (.load 1 false) [.t 19], qo 21 .len [.t 20], qo 22 .mv [qi 0]] [0, 2, 3, 8, 10, 13, 14, 15, 20, 21, 22])
 (.block 2 (.loop (.seq (.region [qo 23 (.bin .lss) [.t 22, .t 21]] [0, 2, 3, 8, 10, 13, 14, 15, 20, 21, 22, 23])
 (.seq (.cond (.t 23)
 (.skip)
 (.exit 2))
 (.seq (.block 3 (.seq (.region [qo 24 (.indexAddr 2) [.t 20, .t 22], qo 25 (.load 2 true) [.t 24], qo 12 (.alloc [.sl true 6 [], .sl true 10 []]) [], qn (.store 2) [.t 12, .t 25] [25]] [0, 2, 3, 8, 10, 12, 13, 14, 15, 20, 21, 22])
 (.seq (.seq (.region [qm 26 8, qo 27 .not [.t 26]] [0, 2, 3, 10, 12, 13, 14, 15, 20, 21, 22, 27])
 (.cond (.t 27)
 (.region [qm 28 0, qm 29 2, qo 30 (.buildSl 1) [.t 29], qt 31 (.call .wr) [qf 95, .t 28, .t 30] [30]] [0, 2, 3, 10, 12, 13, 14, 15, 20, 21, 22])
 (.skip)))
 (.seq (.region [qo 8 .mv [qb false]] [0, 2, 3, 8, 10, 12, 13, 14, 15, 20, 21, 22])
 (.seq (.region [qm 32 0, qo 33 (.fieldAddr 0) [.t 10], qo 34 (.load 1 false) [.t 33], qo 35 (.call .wr) [qf 144, .t 32, .t 34]] [0, 2, 3, 8, 10, 12, 13, 14, 15, 20, 21, 22])
 (.seq (.region [qm 36 0, qo 37 (.fieldAddr 0) [.t 12], qo 38 (.load 1 false) [.t 37], qt 39 (.call .wr) [qf 148, .t 36, .t 38] [38]] [0, 2, 3, 8, 10, 12, 13, 14, 15, 20, 21, 22])
 (.seq (.region [qm 40 0, qo 41 (.fieldAddr 1) [.t 12], qo 42 (.load 1 false) [.t 41], qt 43 (.call .wr) [qf 103, .t 40, .t 42, .c (.str [32, 61, 32])] [42]] [0, 2, 3, 8, 10, 13, 14, 15, 20, 21, 22])
 (.region [qm 44 0, qm 45 3, qo 46 (.buildSl 1) [.t 45], qt 47 (.call .wr) [qf 95, .t 44, .t 46] [46]] [0, 2, 3, 8, 10, 13, 14, 15, 20, 21, 22]))))))))
 (.region [qo 48 (.bin .add) [.t 22, qi 1], qm 22 48] [0, 2, 3, 8, 10, 13, 14, 15, 20, 21, 22])))))))))
 (.region [qo 49 (.bin .add) [.t 15, qi 1], qm 15 49] [0, 2, 3, 8, 13, 14, 15]))))))), []⟩
def v_show_writer_parted : VFunc := ⟨23, .seq (.region [qm 9 1, qo 10 .mv [qi 0]] [0, 2, 3, 9, 10])
 (.block 0 (.loop (.seq (.region [qo 11 (.bin .lss) [.t 10, .t 9]] [0, 2, 3, 9, 10, 11])
 (.seq (.cond (.t 11)
 (.skip)
 (.exit 0))
 (.seq (.block 1 (.seq (.region [qm 12 10, qm 8 12] [0, 2, 3, 8, 9, 10])
 (.seq (.seq (.region [qm 13 8, qo 14 (.bin .gtr) [.t 13, qi 0]] [0, 2, 3, 8, 9, 10, 14])
 (.cond (.t 14)
 (.region [qm 15 0, qm 16 2, qo 17 (.buildSl 1) [.t 16], qt 18 (.call .wr) [qf 95, .t 15, .t 17] [17]] [0, 2, 3, 8, 9, 10])
 (.skip)))
 (.region [qm 19 3, qm 20 8, qo 21 (.call .wr) [.t 19, .t 20]] [0, 2, 3, 9, 10]))))
 (.region [qo 22 (.bin .add) [.t 10, qi 1], qm 10 22] [0, 2, 3, 9, 10])))))), []⟩
def v_show_writer_expr_1 : VFunc := ⟨20, .seq (.region [qo 4 (.load 1 false) [.t 1], qo 5 (.fieldAddr 5) [.t 2], qo 6 (.load 1 false) [.t 5], qm 7 0, qo 8 (.indexAddr 7) [.t 6, .t 7], qo 9 (.fieldAddr 0) [.t 8], qo 10 (.load 6 true) [.t 9],
qt 11 (.call .wr) [qf 102, .t 4, .t 10] [10]] [0, 1, 2])
 (.region [qo 12 (.load 1 false) [.t 1], qo 13 (.fieldAddr 5) [.t 2], qo 14 (.load 1 false) [.t 13], qm 15 0, qo 16 (.indexAddr 7) [.t 14, .t 15], qo 17 (.fieldAddr 6) [.t 16],
qo 18 (.load 1 false) [.t 17], qt 19 (.call .wr) [qf 103, .t 12, .t 18, .c (.str [32, 45, 62, 32])] [18]] []), []⟩
def v_show_writer_pat : VFunc := ⟨26, .seq (.region [qt 3 .box [.t 1] [1]] [0, 3])
 (.seq (.seq (.region [qo 4 (.fieldAddr 0) [.t 3], qo 5 (.load 1 false) [.t 4]] [0, 3, 5])
 (.block 0 (.seq (.region [qo 12 (.bin .eql) [.t 5, qi 1], qm 11 12] [0, 3, 5, 11])
 (.cond (.t 11)
 (.region [qm 13 0, qo 14 (.buildSl 1) [.c (.str [95])], qt 15 (.call .wr) [qf 95, .t 13, .t 14] [14]] [0, 3])
 (.seq (.region [qo 17 (.bin .eql) [.t 5, qi 3], qm 16 17] [0, 3, 16])
 (.cond (.t 16)
 (.region [qm 18 0, qo 19 (.fieldAddr 2) [.t 3], qo 20 (.load 1 false) [.t 19], qo 21 (.call .wr) [qf 145, .t 18, .t 20]] [0, 3])
 (.region [qm 6 0, qo 7 (.fieldAddr 1) [.t 3], qo 8 (.load 1 false) [.t 7], qo 9 (.buildSl 1) [.t 8], qt 10 (.call .wr) [qf 95, .t 6, .t 9] [9]] [0, 3])))))))
 (.region [qm 22 0, qo 23 (.fieldAddr 3) [.t 3], qo 24 (.load 1 false) [.t 23], qt 25 (.call .wr) [qf 148, .t 22, .t 24] [24]] [])), []⟩
def v_show_writer_rhs : VFunc := ⟨36, .seq (.region [qt 8 .mv [.t 1] [1], qo 9 .len [.t 8], qo 10 .mv [qi 0]] [0, 2, 8, 9, 10])
 (.block 0 (.loop (.seq (.region [qo 11 (.bin .lss) [.t 10, .t 9]] [0, 2, 8, 9, 10, 11])
 (.seq (.cond (.t 11)
 (.skip)
 (.exit 0))
 (.seq (.block 1 (.seq (.region [qo 12 (.indexAddr 10) [.t 8, .t 10], qo 13 (.load 10 true) [.t 12],
qo 7 (.alloc [.sl true 9 [], .int .i64 0, .str [], .int .i64 0, .sl true 1 [], .sl true 9 [], .sl true 7 [], .nilh 4, .int .i64 0, .int .i64 0]) [], qn (.store 10) [.t 7, .t 13] [13]] [0, 2, 7, 8, 9, 10])
 (.seq (.seq (.region [qo 14 (.fieldAddr 0) [.t 7], qo 15 (.load 1 false) [.t 14], qo 16 .len [.t 15], qo 17 (.bin .gtr) [.t 16, qi 0]] [0, 2, 7, 8, 9, 10, 17])
 (.cond (.t 17)
 (.seq (.region [qm 18 0, qo 19 (.buildSl 1) [.c (.str [32, 124, 32])], qt 20 (.call .wr) [qf 95, .t 18, .t 19] [19]] [0, 2, 7, 8, 9, 10])
 (.region [qm 21 0, qo 22 (.fieldAddr 0) [.t 7], qo 23 (.load 1 false) [.t 22], qo 24 (.indexAddr 9) [.t 23, qi 0], qo 25 (.load 9 true) [.t 24], qt 26 (.call .wr) [qf 65, .t 21, .t 25] [25]] [0, 2, 7, 8, 9, 10]))
 (.skip)))
 (.seq (.region [qm 27 0, qm 28 2, qo 29 (.buildSl 1) [.t 28], qt 30 (.call .wr) [qf 95, .t 27, .t 29] [29]] [0, 2, 7, 8, 9, 10])
 (.region [qm 31 0, qo 32 (.fieldAddr 1) [.t 7], qo 33 (.load 9 true) [.t 32], qt 34 (.call .wr) [qf 65, .t 31, .t 33] [33]] [0, 2, 8, 9, 10])))))
 (.region [qo 35 (.bin .add) [.t 10, qi 1], qm 10 35] [0, 2, 8, 9, 10])))))), []⟩
def v_show_all_api_Rhs_ : VFunc := ⟨18, .seq (.region [qo 4 .mv [qb false]] [0, 1])
 (.seq (.seq (.region [qt 7 .mv [.t 0] [0], qo 8 .len [.t 7], qo 9 .mv [qi 0]] [1, 7, 8, 9])
 (.block 0 (.loop (.seq (.region [qo 10 (.bin .lss) [.t 9, .t 8]] [1, 7, 8, 9, 10])
 (.seq (.cond (.t 10)
 (.skip)
 (.exit 0))
 (.seq (.block 1 (.seq (.region [qo 11 (.indexAddr 10) [.t 7, .t 9], qo 12 (.load 10 true) [.t 11],
qo 6 (.alloc [.sl true 9 [], .int .i64 0, .str [], .int .i64 0, .sl true 1 [], .sl true 9 [], .sl true 7 [], .nilh 4, .int .i64 0, .int .i64 0]) [], qn (.store 10) [.t 6, .t 12] [12]] [1, 6, 7, 8, 9])
 (.seq (.region [qm 13 1, qo 14 (.loadT 10 true) [.t 6], qt 15 (.call .wr) [.t 13, .t 14] [14], qo 16 .not [.t 15]] [1, 7, 8, 9, 16])
 (.cond (.t 16)
 (.seq (.region [qo 4 .mv [qb false]] [4])
 (.ret))
 (.skip)))))
 (.region [qo 17 (.bin .add) [.t 9, qi 1], qm 9 17] [1, 7, 8, 9])))))))
 (.seq (.region [qo 4 .mv [qb true]] [4])
 (.ret))), [.tmp 4]⟩
def v_show_rightRhs_1 : VFunc := ⟨19, .seq (.region [qt 1 .box [.t 0] [0], qo 2 .mv [qb false]] [1])
 (.seq (.region [qo 3 (.fieldAddr 0) [.t 1], qo 4 (.load 1 false) [.t 3], qo 5 .len [.t 4], qo 6 (.bin .eql) [.t 5, qi 1], qm 7 6, qg 8 (.fieldAddr 0) [.t 1] [] 7 true, qg 9 (.load 1 false) [.t 8] [] 7 true,
qg 10 (.indexAddr 9) [.t 9, qi 0] [] 7 true, qg 11 (.load 9 true) [.t 10] [] 7 true, qg 12 (.call .wr) [qf 24, .t 11] [11] 7 true, qo 13 .pick [.t 7, .t 12, qb false], qm 14 13,
qg 15 (.fieldAddr 1) [.t 1] [] 14 true, qg 16 (.load 9 true) [.t 15] [] 14 true, qg 17 (.call .wr) [qf 24, .t 16] [16] 14 true, qo 18 .pick [.t 14, .t 17, qb false], qm 2 18] [2])
 (.ret)), [.tmp 2]⟩
def v_lex_reader_skip : VFunc := ⟨103, .seq (.region [qo 2 .mv [qb false]] [0])
 (.scope (.seq (.label)
 (.seq (.block 0 (.loop (.seq (.seq (.region [qm 4 0, qo 5 .nilCheck [.t 4], qo 6 (.fieldAddr 1) [.t 5], qo 7 (.load 1 false) [.t 6], qm 8 0, qo 9 .nilCheck [.t 8], qo 10 (.fieldAddr 0) [.t 9], qo 11 (.load 1 false) [.t 10],
qo 12 .lenStr [.t 11], qo 13 (.bin .lss) [.t 7, .t 12]] [0, 13])
 (.cond (.t 13)
 (.skip)
 (.exit 0)))
 (.block 1 (.seq (.region [qm 14 0, qo 15 .nilCheck [.t 14], qo 16 (.fieldAddr 0) [.t 15], qo 17 (.load 1 false) [.t 16], qm 18 0, qo 19 .nilCheck [.t 18], qo 20 (.fieldAddr 1) [.t 19], qo 21 (.load 1 false) [.t 20],
qo 22 .indexStr [.t 17, .t 21], qm 3 22] [0, 3])
 (.block 2 (.seq (.region [qm 24 3, qo 25 (.bin .eql) [.t 24, .c (.int .u8 32)], qm 23 25] [0, 3, 23])
 (.cond (.t 23)
 (.seq (.region [qm 26 0, qo 27 .nilCheck [.t 26], qo 28 (.fieldAddr 1) [.t 27], qo 29 (.load 1 false) [.t 28], qo 30 (.bin .add) [.t 29, qi 1], qo 31 .nilCheck [.t 26], qo 32 (.fieldAddr 1) [.t 31],
qn (.store 1) [.t 32, .t 30] []] [0])
 (.region [qm 33 0, qo 34 .nilCheck [.t 33], qo 35 (.fieldAddr 2) [.t 34], qo 36 (.fieldAddr 1) [.t 35], qo 37 (.load 1 false) [.t 36], qo 38 (.bin .add) [.t 37, qi 1], qo 39 .nilCheck [.t 33],
qo 40 (.fieldAddr 2) [.t 39], qo 41 (.fieldAddr 1) [.t 40], qn (.store 1) [.t 41, .t 38] []] [0]))
 (.seq (.region [qm 43 3, qo 44 (.bin .eql) [.t 43, .c (.int .u8 10)], qm 42 44] [0, 3, 42])
 (.cond (.t 42)
 (.seq (.region [qm 45 0, qo 46 .nilCheck [.t 45], qo 47 (.fieldAddr 1) [.t 46], qo 48 (.load 1 false) [.t 47], qo 49 (.bin .add) [.t 48, qi 1], qo 50 .nilCheck [.t 45], qo 51 (.fieldAddr 1) [.t 50],
qn (.store 1) [.t 51, .t 49] []] [0])
 (.region [qm 52 0, qm 53 0, qo 54 .nilCheck [.t 53], qo 55 (.fieldAddr 2) [.t 54], qo 56 (.fieldAddr 0) [.t 55], qo 57 (.load 1 false) [.t 56], qo 58 (.bin .add) [.t 57, qi 1],
qo 59 (.build [.int .i64 0, .int .i64 0] [(0, 1), (1, 1)]) [.t 58, qi 1], qo 60 .nilCheck [.t 52], qo 61 (.fieldAddr 2) [.t 60], qn (.store 2) [.t 61, .t 59] []] [0]))
 (.seq (.region [qm 63 3, qo 64 (.bin .eql) [.t 63, .c (.int .u8 45)], qm 65 64, qv 66 0 65 true, qg 67 .nilCheck [.t 66] [] 65 true, qg 68 (.fieldAddr 1) [.t 67] [] 65 true,
qg 69 (.load 1 false) [.t 68] [] 65 true, qg 70 (.bin .add) [.t 69, qi 1] [] 65 true, qv 71 0 65 true, qg 72 .nilCheck [.t 71] [] 65 true, qg 73 (.fieldAddr 0) [.t 72] [] 65 true,
qg 74 (.load 1 false) [.t 73] [] 65 true, qg 75 .lenStr [.t 74] [] 65 true, qg 76 (.bin .lss) [.t 70, .t 75] [] 65 true, qo 77 .pick [.t 65, .t 76, qb false], qm 78 77, qv 79 0 78 true,
qg 80 .nilCheck [.t 79] [] 78 true, qg 81 (.fieldAddr 0) [.t 80] [] 78 true, qg 82 (.load 1 false) [.t 81] [] 78 true, qv 83 0 78 true, qg 84 .nilCheck [.t 83] [] 78 true,
qg 85 (.fieldAddr 1) [.t 84] [] 78 true, qg 86 (.load 1 false) [.t 85] [] 78 true, qg 87 (.bin .add) [.t 86, qi 1] [] 78 true, qg 88 .indexStr [.t 82, .t 87] [] 78 true,
qg 89 (.bin .eql) [.t 88, .c (.int .u8 45)] [] 78 true, qo 90 .pick [.t 78, .t 89, qb false], qm 62 90] [0, 62])
 (.cond (.t 62)
 (.seq (.region [qm 91 0, qo 92 (.call .wr) [qf 149, .t 91]] [0])
 (.exit 1))
 (.exit 0)))))))))))))
 (.seq (.region [qm 93 0, qo 94 .nilCheck [.t 93], qo 95 (.fieldAddr 1) [.t 94], qo 96 (.load 1 false) [.t 95], qm 97 0, qo 98 .nilCheck [.t 97], qo 99 (.fieldAddr 0) [.t 98], qo 100 (.load 1 false) [.t 99],
qo 101 .lenStr [.t 100], qo 102 (.bin .lss) [.t 96, .t 101], qm 2 102] [2])
 (.ret))))), [.tmp 2]⟩
def v_lex_reader_next : VFunc := ⟨123, .seq (.region [qo 2 (.alloc [.int .i64 0, .str [], .int .i64 0, .int .i64 0, .int .i64 0, .bool false]) [], qo 3 .mv [qi 0]] [0, 2])
 (.seq (.region [qm 8 0, qo 9 .nilCheck [.t 8], qo 10 (.fieldAddr 0) [.t 9], qo 11 (.load 1 false) [.t 10], qm 12 0, qo 13 .nilCheck [.t 12], qo 14 (.fieldAddr 1) [.t 13], qo 15 (.load 1 false) [.t 14],
qo 16 .indexStr [.t 11, .t 15], qo 17 (.call .wr) [qf 150, .t 16], qm 4 17] [0, 2, 4])
 (.seq (.seq (.region [qm 18 4, qo 19 (.bin .eql) [.t 18, qi 0]] [0, 2, 4, 19])
 (.cond (.t 19)
 (.seq (.region [qo 20 (.build [.int .i64 0, .str [], .int .i64 0, .int .i64 0, .int .i64 0, .bool false] []) [], qn (.store 6) [.t 2, .t 20] [], qo 3 .mv [qi 20]] [2, 3])
 (.ret))
 (.skip)))
 (.seq (.region [qm 21 0, qo 22 .nilCheck [.t 21], qo 23 (.fieldAddr 1) [.t 22], qo 24 (.load 1 false) [.t 23], qm 5 24] [0, 2, 4, 5])
 (.seq (.region [qm 25 0, qo 26 .nilCheck [.t 25], qo 27 (.fieldAddr 2) [.t 26], qo 28 (.load 2 true) [.t 27],
qo 29 (.build [.int .i64 0, .str [], .int .i64 0, .int .i64 0, .int .i64 0, .bool false] [(3, 2)]) [.t 28],
qo 6 (.alloc [.int .i64 0, .str [], .int .i64 0, .int .i64 0, .int .i64 0, .bool false]) [], qn (.store 6) [.t 6, .t 29] []] [0, 2, 4, 5, 6])
 (.seq (.region [qm 30 0, qo 31 .nilCheck [.t 30], qo 32 (.fieldAddr 1) [.t 31], qo 33 (.load 1 false) [.t 32], qo 34 (.bin .add) [.t 33, qi 1], qo 35 .nilCheck [.t 30], qo 36 (.fieldAddr 1) [.t 35],
qn (.store 1) [.t 36, .t 34] []] [0, 2, 4, 5, 6])
 (.seq (.block 0 (.loop (.seq (.seq (.region [qm 37 0, qo 38 .nilCheck [.t 37], qo 39 (.fieldAddr 1) [.t 38], qo 40 (.load 1 false) [.t 39], qm 41 0, qo 42 .nilCheck [.t 41], qo 43 (.fieldAddr 0) [.t 42], qo 44 (.load 1 false) [.t 43],
qo 45 .lenStr [.t 44], qo 46 (.bin .lss) [.t 40, .t 45], qm 47 46, qv 48 4 47 true, qv 49 0 47 true, qg 50 .nilCheck [.t 49] [] 47 true, qg 51 (.fieldAddr 0) [.t 50] [] 47 true,
qg 52 (.load 1 false) [.t 51] [] 47 true, qv 53 0 47 true, qg 54 .nilCheck [.t 53] [] 47 true, qg 55 (.fieldAddr 1) [.t 54] [] 47 true, qg 56 (.load 1 false) [.t 55] [] 47 true,
qg 57 .indexStr [.t 52, .t 56] [] 47 true, qg 58 (.call .wr) [qf 151, .t 48, .t 57] [] 47 true, qo 59 .pick [.t 47, .t 58, qb false]] [0, 2, 4, 5, 6, 59])
 (.cond (.t 59)
 (.skip)
 (.exit 0)))
 (.block 1 (.region [qm 60 0, qo 61 .nilCheck [.t 60], qo 62 (.fieldAddr 1) [.t 61], qo 63 (.load 1 false) [.t 62], qo 64 (.bin .add) [.t 63, qi 1], qo 65 .nilCheck [.t 60], qo 66 (.fieldAddr 1) [.t 65],
qn (.store 1) [.t 66, .t 64] []] [0, 2, 4, 5, 6])))))
 (.seq (.region [qm 67 0, qo 68 .nilCheck [.t 67], qo 69 (.fieldAddr 0) [.t 68], qo 70 (.load 1 false) [.t 69], qm 71 5, qm 72 0, qo 73 .nilCheck [.t 72], qo 74 (.fieldAddr 1) [.t 73],
qo 75 (.load 1 false) [.t 74], qo 76 (.sliceStr true true) [.t 70, .t 71, .t 75], qo 77 (.fieldAddr 1) [.t 6], qn (.store 1) [.t 77, .t 76] []] [0, 2, 4, 5, 6])
 (.seq (.region [qm 78 0, qo 79 .nilCheck [.t 78], qo 80 (.fieldAddr 2) [.t 79], qo 81 (.fieldAddr 1) [.t 80], qo 82 (.load 1 false) [.t 81], qm 83 0, qo 84 .nilCheck [.t 83], qo 85 (.fieldAddr 1) [.t 84],
qo 86 (.load 1 false) [.t 85], qm 87 5, qo 88 (.bin .sub) [.t 86, .t 87], qo 89 (.bin .add) [.t 82, .t 88], qo 90 .nilCheck [.t 78], qo 91 (.fieldAddr 2) [.t 90],
qo 92 (.fieldAddr 1) [.t 91], qn (.store 1) [.t 92, .t 89] []] [2, 4, 6])
 (.seq (.region [qm 93 4, qo 94 (.fieldAddr 1) [.t 6], qo 95 (.load 1 false) [.t 94], qo 96 (.call .wr) [qf 152, .t 93, .t 95], qo 97 (.fieldAddr 0) [.t 6], qn (.store 1) [.t 97, .t 96] []] [2, 6])
 (.seq (.seq (.region [qo 98 (.fieldAddr 0) [.t 6], qo 99 (.load 1 false) [.t 98], qo 100 (.bin .neq) [.t 99, qi 4], qm 101 100, qg 102 (.fieldAddr 1) [.t 6] [] 101 true,
qg 103 (.load 1 false) [.t 102] [] 101 true, qg 104 .lenStr [.t 103] [] 101 true, qg 105 (.bin .gtr) [.t 104, qi 32] [] 101 true, qo 106 .pick [.t 101, .t 105, qb false]] [2, 6, 106])
 (.cond (.t 106)
 (.seq (.region [qo 107 (.build [.int .i64 0, .str [], .int .i64 0, .int .i64 0, .int .i64 0, .bool false] []) [], qn (.store 6) [.t 2, .t 107] [], qo 3 .mv [qi 2]] [2, 3])
 (.ret))
 (.skip)))
 (.seq (.region [qo 7 .mv [qi 0]] [2, 6, 7])
 (.seq (.seq (.region [qo 108 (.fieldAddr 0) [.t 6], qo 109 (.load 1 false) [.t 108], qo 110 (.bin .eql) [.t 109, qi 4]] [2, 6, 7, 110])
 (.cond (.t 110)
 (.region [qo 112 (.fieldAddr 1) [.t 6], qo 113 (.load 1 false) [.t 112], qo 114 (.call .wr) [qf 153, .t 113], qm 111 114, qo 115 (.extract 0) [.t 111], qo 116 (.extract 1) [.t 111],
qo 117 (.fieldAddr 2) [.t 6], qn (.store 1) [.t 117, .t 115] [], qm 7 116] [2, 6, 7])
 (.skip)))
 (.seq (.seq (.region [qm 118 7, qo 119 (.bin .neq) [.t 118, qi 0]] [2, 6, 7, 119])
 (.cond (.t 119)
 (.seq (.region [qo 120 (.build [.int .i64 0, .str [], .int .i64 0, .int .i64 0, .int .i64 0, .bool false] []) [], qm 121 7, qn (.store 6) [.t 2, .t 120] [], qm 3 121] [2, 3])
 (.ret))
 (.skip)))
 (.seq (.region [qo 122 (.load 6 true) [.t 6], qn (.store 6) [.t 2, .t 122] [], qo 3 .mv [qi 0]] [2, 3])
 (.ret))))))))))))))), [.cell 2 6 true, .tmp 3]⟩
def v_layout_layer_starts : VFunc := ⟨33, .seq (.region [qo 3 .box [.t 1], qo 4 .mv [qb false]] [0, 3])
 (.seq (.region [qm 5 0, qo 6 .nilCheck [.t 5], qo 7 (.fieldAddr 2) [.t 6], qn (.store 1) [.t 7, qb false] []] [0, 3])
 (.seq (.seq (.region [qo 8 (.fieldAddr 0) [.t 3], qo 9 (.load 1 false) [.t 8], qo 10 (.bin .eql) [.t 9, qi 5], qm 11 10, qg 12 (.fieldAddr 1) [.t 3] [] 11 true, qg 13 (.load 1 false) [.t 12] [] 11 true,
qg 14 (.bin .eql) [.t 13, .c (.str [123])] [] 11 true, qo 15 .pick [.t 11, .t 14, qb false]] [0, 3, 15])
 (.cond (.t 15)
 (.seq (.region [qo 4 .mv [qb true]] [3, 4])
 (.ret))
 (.skip)))
 (.seq (.seq (.region [qo 16 (.fieldAddr 3) [.t 3], qo 17 (.fieldAddr 1) [.t 16], qo 18 (.loadL 3 1 false) [.t 17], qm 19 0, qo 20 (.call (.fr 3)) [qf 154, .t 19], qo 21 (.bin .gtr) [.t 18, .t 20]] [0, 3, 21])
 (.cond (.t 21)
 (.seq (.region [qm 22 0, qo 23 (.call .wr) [qf 112, .t 22, .c (.str [123])]] [0, 3])
 (.seq (.region [qm 24 0, qo 25 (.fieldAddr 3) [.t 3], qo 26 (.fieldAddr 1) [.t 25], qo 27 (.load 1 false) [.t 26], qo 28 (.call .wr) [qf 155, .t 24, qi 0, .t 27]] [3])
 (.seq (.region [qo 4 .mv [qb true]] [3, 4])
 (.ret))))
 (.skip)))
 (.seq (.region [qm 29 0, qo 30 (.call .wr) [qf 112, .t 29, .c (.str [123])]] [0, 3])
 (.seq (.region [qm 31 0, qo 32 (.call .wr) [qf 112, .t 31, .c (.str [125])]] [3])
 (.seq (.region [qo 4 .mv [qb false]] [3, 4])
 (.ret))))))), [.tmp 4]⟩
def v_layout_layer_begins : VFunc := ⟨38, .seq (.region [qo 3 .box [.t 1]] [0, 3])
 (.seq (.block 0 (.loop (.seq (.seq (.region [qm 4 0, qo 5 (.call (.fr 3)) [qf 156, .t 4], qm 6 5, qv 7 0 6 true, qg 8 (.call (.fr 3)) [qf 154, .t 7] [] 6 true, qg 9 (.fieldAddr 3) [.t 3] [] 6 true, qg 10 (.fieldAddr 1) [.t 9] [] 6 true,
qg 11 (.loadL 3 1 false) [.t 10] [] 6 true, qg 12 (.bin .gtr) [.t 8, .t 11] [] 6 true, qo 13 .pick [.t 6, .t 12, qb false]] [0, 3, 13])
 (.cond (.t 13)
 (.skip)
 (.exit 0)))
 (.block 1 (.seq (.region [qm 14 0, qm 15 0, qo 16 .nilCheck [.t 15], qo 17 (.fieldAddr 1) [.t 16], qo 18 (.load 1 false) [.t 17], qm 19 0, qo 20 (.call .rd) [qf 157, .t 19], qo 21 (.slice false true 2) [.t 18, .t 20],
qo 22 .nilCheck [.t 14], qo 23 (.fieldAddr 1) [.t 22], qn (.store 1) [.t 23, .t 21] [21]] [0, 3])
 (.region [qm 24 0, qo 25 (.call .wr) [qf 112, .t 24, .c (.str [125])]] [0, 3]))))))
 (.seq (.region [qm 26 0, qo 27 (.call (.fr 3)) [qf 156, .t 26], qm 28 27, qv 29 0 28 true, qg 30 (.call (.fr 3)) [qf 154, .t 29] [] 28 true, qg 31 (.fieldAddr 3) [.t 3] [] 28 true,
qg 32 (.fieldAddr 1) [.t 31] [] 28 true, qg 33 (.loadL 3 1 false) [.t 32] [] 28 true, qg 34 (.bin .eql) [.t 30, .t 33] [] 28 true, qo 35 .pick [.t 28, .t 34, qb false]] [0, 3, 35])
 (.cond (.t 35)
 (.region [qm 36 0, qo 37 (.call .wr) [qf 112, .t 36, .c (.str [59])]] [3])
 (.skip)))), []⟩
def v_layout_layer_closes : VFunc := ⟨65, .seq (.region [qo 3 .box [.t 1]] [0, 3])
 (.seq (.region [qo 4 .mv [qi (-1)]] [0, 3, 4])
 (.seq (.block 0 (.seq (.region [qo 6 (.fieldAddr 0) [.t 3], qo 7 (.load 1 false) [.t 6], qo 8 (.bin .eql) [.t 7, qi 5], qm 9 8, qg 10 (.fieldAddr 1) [.t 3] [] 9 true, qg 11 (.load 1 false) [.t 10] [] 9 true,
qg 12 (.bin .eql) [.t 11, .c (.str [41])] [] 9 true, qo 13 .pick [.t 9, .t 12, qb false], qm 5 13] [0, 3, 4, 5])
 (.cond (.t 5)
 (.region [qm 14 0, qo 15 (.buildSl 1) [qi 1], qt 16 (.call .wr) [qf 158, .t 14, qi 2, .t 15] [15], qm 4 16] [0, 4])
 (.seq (.region [qo 18 (.fieldAddr 0) [.t 3], qo 19 (.load 1 false) [.t 18], qo 20 (.bin .eql) [.t 19, qi 5], qm 21 20, qg 22 (.fieldAddr 1) [.t 3] [] 21 true, qg 23 (.load 1 false) [.t 22] [] 21 true,
qg 24 (.bin .eql) [.t 23, .c (.str [125])] [] 21 true, qo 25 .pick [.t 21, .t 24, qb false], qm 17 25] [0, 3, 4, 17])
 (.cond (.t 17)
 (.region [qm 26 0, qo 27 (.call .wr) [qf 158, .t 26, qi 1, .c (.sl true 1 [])], qm 4 27] [0, 4])
 (.seq (.region [qo 29 (.fieldAddr 0) [.t 3], qo 30 (.load 1 false) [.t 29], qo 31 (.bin .neq) [.t 30, qi 6], qm 28 31] [0, 3, 4, 28])
 (.cond (.t 28)
 (.skip)
 (.seq (.region [qo 33 (.fieldAddr 1) [.t 3], qo 34 (.load 1 false) [.t 33], qo 35 (.bin .eql) [.t 34, .c (.str [105, 110])], qm 32 35] [0, 3, 4, 32])
 (.cond (.t 32)
 (.region [qm 36 0, qo 37 (.buildSl 1) [qi 1, qi 2], qt 38 (.call .wr) [qf 158, .t 36, qi 3, .t 37] [37], qm 4 38] [0, 4])
 (.seq (.region [qo 40 (.fieldAddr 1) [.t 3], qo 41 (.load 1 false) [.t 40], qo 42 (.bin .eql) [.t 41, .c (.str [111, 102])], qm 39 42] [0, 3, 4, 39])
 (.cond (.t 39)
 (.region [qm 43 0, qo 44 (.buildSl 1) [qi 1, qi 2], qt 45 (.call .wr) [qf 158, .t 43, qi 4, .t 44] [44], qm 4 45] [0, 4])
 (.seq (.region [qo 47 (.fieldAddr 1) [.t 3], qo 48 (.load 1 false) [.t 47], qo 49 (.bin .eql) [.t 48, .c (.str [116, 104, 101, 110])], qm 46 49] [0, 3, 4, 46])
 (.cond (.t 46)
 (.region [qm 50 0, qo 51 (.buildSl 1) [qi 1, qi 2], qt 52 (.call .wr) [qf 158, .t 50, qi 5, .t 51] [51], qm 4 52] [0, 4])
 (.seq (.region [qo 54 (.fieldAddr 1) [.t 3], qo 55 (.load 1 false) [.t 54], qo 56 (.bin .eql) [.t 55, .c (.str [101, 108, 115, 101])], qm 53 56] [0, 4, 53])
 (.cond (.t 53)
 (.region [qm 57 0, qo 58 (.buildSl 1) [qi 1, qi 2], qt 59 (.call .wr) [qf 158, .t 57, qi 6, .t 58] [58], qm 4 59] [0, 4])
 (.skip))))))))))))))))
 (.seq (.region [qm 60 4, qo 61 (.bin .geq) [.t 60, qi 0]] [0, 4, 61])
 (.cond (.t 61)
 (.region [qm 62 0, qm 63 4, qo 64 (.call .wr) [qf 159, .t 62, .t 63]] [])
 (.skip))))), []⟩
def v_layout_layer_opens : VFunc := ⟨64, .seq (.region [qo 3 .box [.t 1]] [0, 3])
 (.block 0 (.seq (.region [qo 5 (.fieldAddr 0) [.t 3], qo 6 (.load 1 false) [.t 5], qo 7 (.bin .eql) [.t 6, qi 5], qm 8 7, qg 9 (.fieldAddr 1) [.t 3] [] 8 true, qg 10 (.load 1 false) [.t 9] [] 8 true,
qg 11 (.bin .eql) [.t 10, .c (.str [40])] [] 8 true, qo 12 .pick [.t 8, .t 11, qb false], qm 4 12] [0, 3, 4])
 (.cond (.t 4)
 (.region [qm 13 0, qo 14 (.call .wr) [qf 155, .t 13, qi 2, qi 0]] [])
 (.seq (.region [qo 16 (.fieldAddr 0) [.t 3], qo 17 (.load 1 false) [.t 16], qo 18 (.bin .eql) [.t 17, qi 5], qm 19 18, qg 20 (.fieldAddr 1) [.t 3] [] 19 true, qg 21 (.load 1 false) [.t 20] [] 19 true,
qg 22 (.bin .eql) [.t 21, .c (.str [123])] [] 19 true, qo 23 .pick [.t 19, .t 22, qb false], qm 15 23] [0, 3, 15])
 (.cond (.t 15)
 (.region [qm 24 0, qo 25 (.call .wr) [qf 155, .t 24, qi 1, qi 0]] [])
 (.seq (.region [qo 27 (.fieldAddr 0) [.t 3], qo 28 (.load 1 false) [.t 27], qo 29 (.bin .neq) [.t 28, qi 6], qm 26 29] [0, 3, 26])
 (.cond (.t 26)
 (.skip)
 (.seq (.region [qo 31 (.fieldAddr 1) [.t 3], qo 32 (.load 1 false) [.t 31], qo 33 (.bin .eql) [.t 32, .c (.str [108, 101, 116])], qm 30 33] [0, 3, 30])
 (.cond (.t 30)
 (.seq (.region [qm 34 0, qo 35 (.call .wr) [qf 155, .t 34, qi 3, qi 0]] [0])
 (.region [qm 36 0, qo 37 .nilCheck [.t 36], qo 38 (.fieldAddr 2) [.t 37], qn (.store 1) [.t 38, qb true] []] []))
 (.seq (.region [qo 40 (.fieldAddr 1) [.t 3], qo 41 (.load 1 false) [.t 40], qo 42 (.bin .eql) [.t 41, .c (.str [99, 97, 115, 101])], qm 39 42] [0, 3, 39])
 (.cond (.t 39)
 (.region [qm 43 0, qo 44 (.call .wr) [qf 155, .t 43, qi 4, qi 0]] [])
 (.seq (.region [qo 46 (.fieldAddr 1) [.t 3], qo 47 (.load 1 false) [.t 46], qo 48 (.bin .eql) [.t 47, .c (.str [111, 102])], qm 45 48] [0, 3, 45])
 (.cond (.t 45)
 (.region [qm 49 0, qo 50 .nilCheck [.t 49], qo 51 (.fieldAddr 2) [.t 50], qn (.store 1) [.t 51, qb true] []] [])
 (.seq (.region [qo 53 (.fieldAddr 1) [.t 3], qo 54 (.load 1 false) [.t 53], qo 55 (.bin .eql) [.t 54, .c (.str [105, 102])], qm 52 55] [0, 3, 52])
 (.cond (.t 52)
 (.region [qm 56 0, qo 57 (.call .wr) [qf 155, .t 56, qi 5, qi 0]] [])
 (.seq (.region [qo 59 (.fieldAddr 1) [.t 3], qo 60 (.load 1 false) [.t 59], qo 61 (.bin .eql) [.t 60, .c (.str [116, 104, 101, 110])], qm 58 61] [0, 58])
 (.cond (.t 58)
 (.region [qm 62 0, qo 63 (.call .wr) [qf 155, .t 62, qi 6, qi 0]] [])
 (.skip)))))))))))))))))), []⟩
def v_layout_layer_make : VFunc := ⟨19, .region [qm 4 0, qm 5 0, qo 6 .nilCheck [.t 5], qo 7 (.fieldAddr 0) [.t 6], qo 8 (.loadT 1 false) [.t 7], qm 9 1, qm 10 0, qo 11 .nilCheck [.t 10], qo 12 (.fieldAddr 3) [.t 11],
qo 13 (.load 2 true) [.t 12], qo 14 (.build [.int .i64 0, .str [], .int .i64 0, .int .i64 0, .int .i64 0, .bool false] [(0, 1), (1, 1), (3, 2), (5, 1)]) [qi 5, .t 9, .t 13, qb true],
qo 15 (.buildSl 6) [.t 14], qt 16 (.append 6 56) [.t 8, .t 15] [8], qo 17 .nilCheck [.t 4], qo 18 (.fieldAddr 0) [.t 17], qn (.store 1) [.t 18, .t 16] [16]] [], []⟩
def v_parse_parser_peek : VFunc := ⟨30, .seq (.region [qo 2 (.alloc [.int .i64 0, .str [], .int .i64 0, .int .i64 0, .int .i64 0, .bool false]) []] [0, 2])
 (.seq (.seq (.region [qm 3 0, qo 4 .nilCheck [.t 3], qo 5 (.fieldAddr 2) [.t 4], qo 6 (.load 1 false) [.t 5], qm 7 6, qv 8 0 7 false, qg 9 .nilCheck [.t 8] [] 7 false, qg 10 (.fieldAddr 1) [.t 9] [] 7 false,
qg 11 (.load 1 false) [.t 10] [] 7 false, qv 12 0 7 false, qg 13 .nilCheck [.t 12] [] 7 false, qg 14 (.fieldAddr 0) [.t 13] [] 7 false, qg 15 (.load 1 false) [.t 14] [] 7 false,
qg 16 .len [.t 15] [] 7 false, qg 17 (.bin .geq) [.t 11, .t 16] [] 7 false, qo 18 .pick [.t 7, qb true, .t 17]] [0, 2, 18])
 (.cond (.t 18)
 (.seq (.region [qo 19 (.build [.int .i64 0, .str [], .int .i64 0, .int .i64 0, .int .i64 0, .bool false] []) [], qn (.store 6) [.t 2, .t 19] []] [2])
 (.ret))
 (.skip)))
 (.seq (.region [qm 20 0, qo 21 .nilCheck [.t 20], qo 22 (.fieldAddr 0) [.t 21], qo 23 (.load 1 false) [.t 22], qm 24 0, qo 25 .nilCheck [.t 24], qo 26 (.fieldAddr 1) [.t 25], qo 27 (.load 1 false) [.t 26],
qo 28 (.indexAddr 6) [.t 23, .t 27], qo 29 (.load 6 true) [.t 28], qn (.store 6) [.t 2, .t 29] []] [2])
 (.ret))), [.cell 2 6 true]⟩
def v_parse_parser_lambda : VFunc := ⟨35, .seq (.region [qo 2 (.alloc [.int .i64 0, .str [], .int .i64 0, .sl true 1 [], .sl true 9 [], .sl true 7 [], .nilh 4, .int .i64 0, .int .i64 0]) []] [0, 2])
 (.seq (.region [qm 4 0, qo 5 (.call .wr) [qf 77, .t 4], qo 6 (.field 3 2 true) [.t 5],
qo 7 (.build [.int .i64 0, .str [], .int .i64 0, .sl true 1 [], .sl true 9 [], .sl true 7 [], .nilh 4, .int .i64 0, .int .i64 0] [(0, 1), (7, 2)]) [qi 5, .t 6],
qo 3 (.alloc [.int .i64 0, .str [], .int .i64 0, .sl true 1 [], .sl true 9 [], .sl true 7 [], .nilh 4, .int .i64 0, .int .i64 0]) [], qn (.store 9) [.t 3, .t 7] [7]] [0, 2, 3])
 (.seq (.block 0 (.loop (.seq (.seq (.region [qm 8 0, qo 9 (.call .wr) [qf 79, .t 8, qi 1], qm 10 9, qv 11 0 10 false, qg 12 (.call .wr) [qf 75, .t 11, .c (.str [95])] [] 10 false, qo 13 .pick [.t 10, qb true, .t 12]] [0, 2, 3, 13])
 (.cond (.t 13)
 (.skip)
 (.exit 0)))
 (.block 1 (.region [qo 14 (.fieldAddr 3) [.t 3], qo 15 (.loadTL 2 1 false) [.t 14], qm 16 0, qo 17 (.call (.fr 2)) [qf 77, .t 16], qo 18 (.field 1 1 false) [.t 17], qo 19 (.buildSl 1) [.t 18],
qt 20 (.append 1 16) [.t 15, .t 19] [15], qo 21 (.fieldAddr 3) [.t 3], qn (.store 1) [.t 21, .t 20] [20]] [0, 2, 3])))))
 (.seq (.seq (.region [qo 22 (.fieldAddr 3) [.t 3], qo 23 (.load 1 false) [.t 22], qo 24 .len [.t 23], qo 25 (.bin .eql) [.t 24, qi 0]] [0, 2, 3, 25])
 (.cond (.t 25)
 (.region [qm 26 0, qo 27 (.call .wr) [qf 76, .t 26, qi 60]] [0, 2, 3])
 (.skip)))
 (.seq (.region [qm 28 0, qo 29 (.call .wr) [qf 54, .t 28, .c (.str [45, 62])]] [0, 2, 3])
 (.seq (.region [qm 30 0, qo 31 (.call .wr) [qf 55, .t 30], qt 32 (.buildSl 9) [.t 31] [31], qo 33 (.fieldAddr 4) [.t 3], qn (.store 1) [.t 33, .t 32] [32]] [2, 3])
 (.seq (.region [qo 34 (.loadT 9 true) [.t 3], qn (.store 9) [.t 2, .t 34] [34]] [2])
 (.ret))))))), [.cell 2 9 true]⟩
def v_parse_parser_block : VFunc := ⟨36, .seq (.region [qo 4 .mv [qi 0]] [0, 1])
 (.scope (.seq (.region [qm 6 0, qo 7 (.call .wr) [qf 54, .t 6, .c (.str [123])]] [0, 1])
 (.seq (.region [qo 5 .mv [qi 0]] [0, 1, 5])
 (.seq (.label)
 (.seq (.block 0 (.loop (.seq (.seq (.region [qm 8 0, qo 9 .nilCheck [.t 8], qo 10 (.fieldAddr 2) [.t 9], qo 11 (.load 1 false) [.t 10], qo 12 .not [.t 11]] [0, 1, 5, 12])
 (.cond (.t 12)
 (.skip)
 (.exit 0)))
 (.block 1 (.seq (.block 2 (.seq (.region [qm 14 0, qo 15 (.call .wr) [qf 75, .t 14, .c (.str [125])], qm 13 15] [0, 1, 5, 13])
 (.cond (.t 13)
 (.exit 0)
 (.seq (.region [qm 17 0, qo 18 (.call .wr) [qf 75, .t 17, .c (.str [59])], qm 16 18] [0, 1, 5, 16])
 (.cond (.t 16)
 (.seq (.region [qm 19 0, qo 20 (.call .wr) [qf 77, .t 19]] [0, 1, 5])
 (.exit 1))
 (.skip))))))
 (.seq (.region [qm 21 1, qo 22 (.call .wr) [.t 21]] [0, 1, 5])
 (.seq (.region [qm 23 5, qo 24 (.bin .add) [.t 23, qi 1], qm 5 24] [0, 1, 5])
 (.seq (.region [qm 25 0, qo 26 (.call .wr) [qf 75, .t 25, .c (.str [125])], qo 27 .not [.t 26], qm 28 27, qv 29 0 28 true, qg 30 (.call .wr) [qf 75, .t 29, .c (.str [59])] [] 28 true,
qg 31 .not [.t 30] [] 28 true, qo 32 .pick [.t 28, .t 31, qb false]] [0, 1, 5, 32])
 (.cond (.t 32)
 (.region [qm 33 0, qo 34 (.call .wr) [qf 76, .t 33, qi 60]] [0, 1, 5])
 (.skip))))))))))
 (.seq (.region [qm 35 5, qm 4 35] [4])
 (.ret))))))), [.tmp 4]⟩
def v_parse_parser_operand_1 : VFunc := ⟨7, .region [qo 2 (.load 1 false) [.t 0], qo 3 (.fieldAddr 6) [.t 1], qo 4 (.load 1 false) [.t 3], qt 5 (.call .wr) [qf 117, .t 2, .t 4] [4], qo 6 (.fieldAddr 6) [.t 1], qn (.store 1) [.t 6, .t 5] [5]] [], []⟩
def v_parse_parser_clause : VFunc := ⟨72, .seq (.region [qo 4 .mv [.c (.nilh 4)]] [0, 1, 5])
 (.seq (.region [qo 8 (.build [.int .i64 0, .str [], .int .i64 0, .int .i64 0, .int .i64 0, .bool false] []) [], qo 5 (.alloc [.int .i64 0, .str [], .int .i64 0, .int .i64 0, .int .i64 0, .bool false]) [],
qn (.store 6) [.t 5, .t 8] []] [0, 1, 5])
 (.seq (.seq (.region [qm 9 0, qo 10 (.call .wr) [qf 75, .t 9, .c (.str [40])]] [0, 1, 5, 10])
 (.cond (.t 10)
 (.seq (.region [qm 11 0, qo 12 (.call .wr) [qf 77, .t 11]] [0, 1, 5])
 (.seq (.region [qm 13 0, qo 14 (.call .wr) [qf 160, .t 13, qi 3], qn (.store 6) [.t 5, .t 14] []] [0, 1, 5])
 (.region [qm 15 0, qo 16 (.call .wr) [qf 54, .t 15, .c (.str [41])]] [0, 1, 5])))
 (.region [qm 17 0, qo 18 (.call .wr) [qf 160, .t 17, qi 1], qn (.store 6) [.t 5, .t 18] []] [0, 1, 5])))
 (.seq (.region [qo 19 (.build [.sl true 6 [], .sl true 10 []] []) [], qo 6 (.alloc [.sl true 6 [], .sl true 10 []]) [], qn (.store 2) [.t 6, .t 19] [19]] [0, 1, 5, 6])
 (.seq (.block 0 (.loop (.seq (.seq (.region [qm 20 0, qo 21 (.call .wr) [qf 161, .t 20]] [0, 1, 5, 6, 21])
 (.cond (.t 21)
 (.skip)
 (.exit 0)))
 (.block 1 (.region [qo 22 (.fieldAddr 0) [.t 6], qo 23 (.loadTL 5 1 false) [.t 22], qm 24 0, qo 25 (.call (.fr 5)) [qf 162, .t 24], qt 26 (.buildSl 6) [.t 25] [25], qt 27 (.append 6 72) [.t 23, .t 26] [23],
qo 28 (.fieldAddr 0) [.t 6], qn (.store 1) [.t 28, .t 27] [27]] [0, 1, 5, 6])))))
 (.seq (.region [qm 29 0, qo 30 (.call .wr) [qf 163, .t 29, .c (.str [61])], qo 31 (.fieldAddr 1) [.t 6], qn (.store 1) [.t 31, .t 30] [30]] [1, 5, 6])
 (.seq (.seq (.region [qm 32 1, qo 33 .len [.t 32], qm 7 33] [1, 5, 6, 7])
 (.seq (.region [qm 34 7, qo 35 (.bin .gtr) [.t 34, qi 0], qm 36 35, qv 37 1 36 true, qv 38 7 36 true, qg 39 (.bin .sub) [.t 38, qi 1] [] 36 true, qg 40 (.indexAddr 4) [.t 37, .t 39] [] 36 true,
qg 41 (.fieldAddr 0) [.t 40] [] 36 true, qg 42 (.load 1 false) [.t 41] [] 36 true, qg 43 (.fieldAddr 1) [.t 5] [] 36 true, qg 44 (.load 1 false) [.t 43] [] 36 true,
qg 45 (.bin .eql) [.t 42, .t 44] [] 36 true, qo 46 .pick [.t 36, .t 45, qb false]] [1, 5, 6, 7, 46])
 (.cond (.t 46)
 (.seq (.region [qm 47 1, qm 48 7, qo 49 (.bin .sub) [.t 48, qi 1], qm 50 1, qm 51 7, qo 52 (.bin .sub) [.t 51, qi 1], qo 53 (.indexAddr 4) [.t 50, .t 52], qo 54 (.fieldAddr 1) [.t 53],
qo 55 (.loadT 1 false) [.t 54], qo 56 (.load 2 true) [.t 6], qt 57 (.buildSl 2) [.t 56] [56], qt 58 (.append 2 48) [.t 55, .t 57] [55], qo 59 (.indexAddr 4) [.t 47, .t 49],
qo 60 (.fieldAddr 1) [.t 59], qn (.store 1) [.t 60, .t 58] [58]] [1, 5])
 (.seq (.region [qt 61 .mv [.t 1] [1], qt 4 .mv [.t 61] [61]] [4, 5])
 (.ret)))
 (.skip))))
 (.seq (.region [qt 62 .mv [.t 1] [1], qo 63 (.fieldAddr 1) [.t 5], qo 64 (.load 1 false) [.t 63], qo 65 (.loadT 2 true) [.t 6], qt 66 (.buildSl 2) [.t 65] [65], qo 67 (.fieldAddr 3) [.t 5],
qo 68 (.load 2 true) [.t 67], qt 69 (.build [.str [], .sl true 2 [], .int .i64 0, .int .i64 0] [(0, 1), (1, 1), (2, 2)]) [.t 64, .t 66, .t 68] [66], qt 70 (.buildSl 4) [.t 69] [69],
qo 71 (.appendH 4 56) [.t 62, .t 70], qt 4 .thaw [.t 71] [71]] [4, 5])
 (.ret)))))))), [.tmp 4]⟩
def v_parse_parser_operand_2 : VFunc := ⟨9, .region [qo 2 (.fieldAddr 5) [.t 0], qo 3 (.loadTL 0 1 false) [.t 2], qo 4 (.load 1 false) [.t 1], qo 5 (.call (.fr 0)) [qf 119, .t 4], qt 6 (.buildSl 7) [.t 5] [5],
qt 7 (.append 7 96) [.t 3, .t 6] [3], qo 8 (.fieldAddr 5) [.t 0], qn (.store 1) [.t 8, .t 7] [7]] [0], []⟩
def v_parse_parser_alt : VFunc := ⟨11, .seq (.region [qo 2 (.alloc [.int .i64 0, .str [], .int .i64 0, .sl true 6 [], .int .i64 0, .int .i64 0, .sl true 10 []]) []] [0, 2])
 (.seq (.region [qm 4 0, qo 5 (.call .wr) [qf 164, .t 4], qt 6 (.build [.int .i64 0, .str [], .int .i64 0, .sl true 6 [], .int .i64 0, .int .i64 0, .sl true 10 []] [(0, 6)]) [.t 5] [5],
qo 3 (.alloc [.int .i64 0, .str [], .int .i64 0, .sl true 6 [], .int .i64 0, .int .i64 0, .sl true 10 []]) [], qn (.store 7) [.t 3, .t 6] [6]] [0, 2, 3])
 (.seq (.region [qm 7 0, qo 8 (.call .wr) [qf 163, .t 7, .c (.str [45, 62])], qo 9 (.fieldAddr 6) [.t 3], qn (.store 1) [.t 9, .t 8] [8]] [2, 3])
 (.seq (.region [qo 10 (.loadT 7 true) [.t 3], qn (.store 7) [.t 2, .t 10] [10]] [2])
 (.ret)))), [.cell 2 7 true]⟩
def v_parse_parser_aexp : VFunc := ⟨83, .seq (.region [qo 2 (.alloc [.int .i64 0, .str [], .int .i64 0, .sl true 1 [], .sl true 9 [], .sl true 7 [], .nilh 4, .int .i64 0, .int .i64 0]) []] [0, 2])
 (.seq (.region [qm 10 0, qo 11 (.call .wr) [qf 113, .t 10], qo 3 (.alloc [.int .i64 0, .str [], .int .i64 0, .int .i64 0, .int .i64 0, .bool false]) [], qn (.store 6) [.t 3, .t 11] []] [0, 2, 3])
 (.seq (.block 0 (.seq (.region [qo 13 (.fieldAddr 0) [.t 3], qo 14 (.load 1 false) [.t 13], qo 15 (.bin .eql) [.t 14, qi 1], qm 12 15] [0, 2, 3, 12])
 (.cond (.t 12)
 (.seq (.region [qm 16 0, qo 17 (.call .wr) [qf 77, .t 16]] [2, 3])
 (.seq (.region [qo 18 (.fieldAddr 1) [.t 3], qo 19 (.load 1 false) [.t 18], qo 20 (.fieldAddr 3) [.t 3], qo 21 (.load 2 true) [.t 20],
qo 22 (.build [.int .i64 0, .str [], .int .i64 0, .sl true 1 [], .sl true 9 [], .sl true 7 [], .nilh 4, .int .i64 0, .int .i64 0] [(0, 1), (1, 1), (7, 2)]) [qi 1, .t 19, .t 21],
qn (.store 9) [.t 2, .t 22] [22]] [2])
 (.ret)))
 (.seq (.region [qo 24 (.fieldAddr 0) [.t 3], qo 25 (.load 1 false) [.t 24], qo 26 (.bin .eql) [.t 25, qi 2], qm 23 26] [0, 2, 3, 23])
 (.cond (.t 23)
 (.seq (.region [qm 27 0, qo 28 (.call .wr) [qf 77, .t 27]] [2, 3])
 (.seq (.region [qo 29 (.fieldAddr 1) [.t 3], qo 30 (.load 1 false) [.t 29], qo 31 (.fieldAddr 3) [.t 3], qo 32 (.load 2 true) [.t 31],
qo 33 (.build [.int .i64 0, .str [], .int .i64 0, .sl true 1 [], .sl true 9 [], .sl true 7 [], .nilh 4, .int .i64 0, .int .i64 0] [(0, 1), (1, 1), (7, 2)]) [qi 2, .t 30, .t 32],
qn (.store 9) [.t 2, .t 33] [33]] [2])
 (.ret)))
 (.seq (.region [qo 35 (.fieldAddr 0) [.t 3], qo 36 (.load 1 false) [.t 35], qo 37 (.bin .eql) [.t 36, qi 4], qm 34 37] [0, 2, 34])
 (.cond (.t 34)
 (.seq (.region [qm 39 0, qo 40 (.call .wr) [qf 165, .t 39], qm 38 40, qo 41 (.extract 0) [.t 38], qo 42 (.extract 1) [.t 38], qo 5 (.alloc [.int .i64 0, .int .i64 0]) [], qm 4 41,
qn (.store 2) [.t 5, .t 42] []] [2, 4, 5])
 (.seq (.region [qm 43 4, qo 44 (.load 2 true) [.t 5],
qo 45 (.build [.int .i64 0, .str [], .int .i64 0, .sl true 1 [], .sl true 9 [], .sl true 7 [], .nilh 4, .int .i64 0, .int .i64 0] [(0, 1), (2, 1), (7, 2)]) [qi 3, .t 43, .t 44],
qn (.store 9) [.t 2, .t 45] [45]] [2])
 (.ret)))
 (.seq (.region [qm 47 0, qo 48 (.call .wr) [qf 166, .t 47, .c (.str [45]), qi 4], qm 46 48] [0, 2, 46])
 (.cond (.t 46)
 (.seq (.region [qm 50 0, qo 51 (.call .wr) [qf 167, .t 50], qm 49 51, qo 52 (.extract 0) [.t 49], qo 53 (.extract 1) [.t 49], qo 7 (.alloc [.int .i64 0, .int .i64 0]) [], qm 6 52,
qn (.store 2) [.t 7, .t 53] []] [2, 6, 7])
 (.seq (.region [qm 54 6, qo 55 (.load 2 true) [.t 7],
qo 56 (.build [.int .i64 0, .str [], .int .i64 0, .sl true 1 [], .sl true 9 [], .sl true 7 [], .nilh 4, .int .i64 0, .int .i64 0] [(0, 1), (2, 1), (7, 2)]) [qi 3, .t 54, .t 55],
qn (.store 9) [.t 2, .t 56] [56]] [2])
 (.ret)))
 (.seq (.region [qm 58 0, qo 59 (.call .wr) [qf 168, .t 58], qm 57 59] [0, 2, 57])
 (.cond (.t 57)
 (.seq (.region [qm 60 0, qo 61 (.call .wr) [qf 77, .t 60]] [0, 2])
 (.seq (.region [qm 62 0, qo 63 (.call .wr) [qf 77, .t 62], qo 8 (.alloc [.int .i64 0, .str [], .int .i64 0, .int .i64 0, .int .i64 0, .bool false]) [], qn (.store 6) [.t 8, .t 63] []] [0, 2, 8])
 (.seq (.region [qm 64 0, qo 65 (.call .wr) [qf 54, .t 64, .c (.str [41])]] [2, 8])
 (.seq (.region [qo 66 (.fieldAddr 1) [.t 8], qo 67 (.load 1 false) [.t 66], qo 68 (.fieldAddr 3) [.t 8], qo 69 (.load 2 true) [.t 68],
qo 70 (.build [.int .i64 0, .str [], .int .i64 0, .sl true 1 [], .sl true 9 [], .sl true 7 [], .nilh 4, .int .i64 0, .int .i64 0] [(0, 1), (1, 1), (7, 2)]) [qi 1, .t 67, .t 69],
qn (.store 9) [.t 2, .t 70] [70]] [2])
 (.ret)))))
 (.skip))))))))))))
 (.seq (.region [qm 71 0, qo 72 (.call .wr) [qf 54, .t 71, .c (.str [40])]] [0, 2])
 (.seq (.seq (.region [qm 73 0, qo 74 .nilCheck [.t 73], qo 75 (.fieldAddr 2) [.t 74], qo 76 (.load 1 false) [.t 75]] [0, 2, 76])
 (.cond (.t 76)
 (.seq (.region [qo 77 (.build [.int .i64 0, .str [], .int .i64 0, .sl true 1 [], .sl true 9 [], .sl true 7 [], .nilh 4, .int .i64 0, .int .i64 0] []) [], qn (.store 9) [.t 2, .t 77] [77]] [2])
 (.ret))
 (.skip)))
 (.seq (.region [qm 78 0, qo 79 (.call .wr) [qf 55, .t 78], qo 9 (.alloc [.int .i64 0, .str [], .int .i64 0, .sl true 1 [], .sl true 9 [], .sl true 7 [], .nilh 4, .int .i64 0, .int .i64 0]) [],
qn (.store 9) [.t 9, .t 79] [79]] [0, 2, 9])
 (.seq (.region [qm 80 0, qo 81 (.call .wr) [qf 54, .t 80, .c (.str [41])]] [2, 9])
 (.seq (.region [qo 82 (.loadT 9 true) [.t 9], qn (.store 9) [.t 2, .t 82] [82]] [2])
 (.ret)))))))), [.cell 2 9 true]⟩
def v_parse_parser_argument : VFunc := ⟨17, .seq (.region [qo 2 .mv [qb false]] [0])
 (.seq (.region [qm 3 0, qo 4 (.call .wr) [qf 79, .t 3, qi 1], qm 5 4, qv 6 0 5 false, qg 7 (.call .wr) [qf 79, .t 6, qi 2] [] 5 false, qo 8 .pick [.t 5, qb true, .t 7], qm 9 8, qv 10 0 9 false,
qg 11 (.call .wr) [qf 79, .t 10, qi 4] [] 9 false, qo 12 .pick [.t 9, qb true, .t 11], qm 13 12, qv 14 0 13 false, qg 15 (.call .wr) [qf 75, .t 14, .c (.str [40])] [] 13 false,
qo 16 .pick [.t 13, qb true, .t 15], qm 2 16] [2])
 (.ret)), [.tmp 2]⟩
def v_parse_grower_spans : VFunc := ⟨59, .seq (.region [qt 3 .box [.t 1] [1], qo 4 .mv [.c (.sl true 2 [])]] [0, 3])
 (.seq (.region [qo 5 .mv [.c (.sl true 5 [])]] [0, 3, 5])
 (.seq (.seq (.region [qo 11 (.fieldAddr 6) [.t 3], qo 12 (.load 1 false) [.t 11], qo 13 .len [.t 12], qo 14 .mv [qi 0]] [0, 3, 5, 12, 13, 14])
 (.block 0 (.loop (.seq (.region [qo 15 (.bin .lss) [.t 14, .t 13]] [0, 3, 5, 12, 13, 14, 15])
 (.seq (.cond (.t 15)
 (.skip)
 (.exit 0))
 (.seq (.block 1 (.seq (.region [qo 16 (.indexAddr 4) [.t 12, .t 14], qo 17 (.load 4 true) [.t 16], qo 7 (.alloc [.str [], .sl true 2 [], .int .i64 0, .int .i64 0]) [], qn (.store 4) [.t 7, .t 17] [17]] [0, 3, 5, 7, 12, 13, 14])
 (.region [qt 18 .mv [.t 5] [5], qm 19 0, qo 20 .nilCheck [.t 19], qo 21 (.fieldAddr 0) [.t 20], qo 22 (.load 1 false) [.t 21], qo 23 (.fieldAddr 0) [.t 7], qo 24 (.load 1 false) [.t 23],
qt 25 (.call .wr) [qf 169, .t 22, .t 24] [22], qo 26 (.buildSl 5) [.t 25], qt 27 (.append 5 48) [.t 18, .t 26] [18], qt 5 .mv [.t 27] [27]] [0, 3, 5, 12, 13, 14])))
 (.region [qo 28 (.bin .add) [.t 14, qi 1], qm 14 28] [0, 3, 5, 12, 13, 14])))))))
 (.seq (.region [qt 30 .mv [.t 5] [5], qt 31 (.call .wr) [qf 170, .t 30] [30], qt 29 .mv [.t 31] [31], qo 32 (.extract 0) [.t 29], qo 33 (.extract 1) [.t 29], qt 34 (.extract 2) [.t 29] [29],
qt 8 .mv [.t 32] [32], qm 9 33, qm 10 34] [0, 3, 8, 9, 10])
 (.seq (.seq (.region [qm 35 10, qo 36 (.bin .neq) [.t 35, qi 0], qm 37 36, qv 38 0 37 true, qg 39 .nilCheck [.t 38] [] 37 true, qg 40 (.fieldAddr 1) [.t 39] [] 37 true, qg 41 (.load 1 false) [.t 40] [] 37 true,
qg 42 .not [.t 41] [] 37 true, qo 43 .pick [.t 37, .t 42, qb false]] [0, 3, 8, 9, 10, 43])
 (.cond (.t 43)
 (.seq (.region [qm 44 0, qo 45 .nilCheck [.t 44], qo 46 (.fieldAddr 1) [.t 45], qn (.store 1) [.t 46, qb true] []] [0, 3, 8, 9, 10])
 (.region [qm 47 0, qm 48 10, qo 49 (.fieldAddr 6) [.t 3], qo 50 (.load 1 false) [.t 49], qm 51 9, qo 52 (.indexAddr 4) [.t 50, .t 51], qo 53 (.fieldAddr 2) [.t 52], qo 54 (.load 2 true) [.t 53],
qo 55 (.build [.int .i64 0, .int .i64 0, .int .i64 0] [(0, 1), (1, 2)]) [.t 48, .t 54], qo 56 .nilCheck [.t 47], qo 57 (.fieldAddr 2) [.t 56], qn (.store 3) [.t 57, .t 55] []] [8]))
 (.skip)))
 (.seq (.region [qt 58 .mv [.t 8] [8], qt 4 .mv [.t 58] [58]] [4])
 (.ret)))))), [.tmp 4]⟩
def v_parse_grower_grown_1 : VFunc := ⟨60, .seq (.region [qo 8 (.alloc [.int .i64 0, .str [], .int .i64 0, .sl true 1 [], .sl true 9 [], .sl true 7 [], .nilh 4, .int .i64 0, .int .i64 0]) []] [0, 1, 2, 3, 4, 5, 8])
 (.seq (.seq (.region [qm 13 0, qm 9 13] [0, 1, 2, 3, 4, 5, 8, 9])
 (.block 0 (.loop (.seq (.seq (.region [qm 14 9, qm 15 1, qo 16 (.bin .lss) [.t 14, .t 15]] [0, 1, 2, 3, 4, 5, 8, 9, 16])
 (.cond (.t 16)
 (.skip)
 (.exit 0)))
 (.seq (.block 1 (.seq (.region [qo 19 (.load 1 false) [.t 2], qm 20 9, qo 21 (.indexAddr 2) [.t 19, .t 20], qo 22 (.load 2 true) [.t 21], qm 23 0, qm 24 1,
qo 25 (.build [.int .i64 0, .int .i64 0] [(0, 1), (1, 1)]) [.t 23, .t 24], qo 26 (.eqc false true [.i, .i]) [.t 22, .t 25]] [0, 1, 2, 3, 4, 5, 8, 9, 26])
 (.cond (.t 26)
 (.seq (.region [qo 27 (.fieldAddr 6) [.t 3], qo 28 (.load 1 false) [.t 27], qm 29 9, qo 30 (.indexAddr 4) [.t 28, .t 29], qo 31 (.load 4 true) [.t 30],
qo 10 (.alloc [.str [], .sl true 2 [], .int .i64 0, .int .i64 0]) [], qn (.store 4) [.t 10, .t 31] [31]] [0, 1, 4, 8, 9, 10])
 (.seq (.region [qo 32 (.fieldAddr 0) [.t 10], qo 33 (.load 1 false) [.t 32], qo 34 (.fieldAddr 2) [.t 10], qo 35 (.load 2 true) [.t 34],
qo 36 (.build [.int .i64 0, .str [], .int .i64 0, .sl true 1 [], .sl true 9 [], .sl true 7 [], .nilh 4, .int .i64 0, .int .i64 0] [(0, 1), (1, 1), (7, 2)]) [qi 1, .t 33, .t 35],
qo 11 (.alloc [.int .i64 0, .str [], .int .i64 0, .sl true 1 [], .sl true 9 [], .sl true 7 [], .nilh 4, .int .i64 0, .int .i64 0]) [], qn (.store 9) [.t 11, .t 36] [36]] [0, 1, 4, 8, 9, 10, 11])
 (.seq (.region [qo 37 (.loadL 8 9 true) [.t 11], qo 38 (.load 1 false) [.t 4], qm 39 0, qm 40 9, qo 41 (.call (.fr 8)) [.t 38, .t 39, .t 40], qt 42 (.buildSl 9) [.t 37, .t 41] [37, 41],
qo 43 (.fieldAddr 2) [.t 10], qo 44 (.loadL 8 2 true) [.t 43],
qt 45 (.build [.int .i64 0, .str [], .int .i64 0, .sl true 1 [], .sl true 9 [], .sl true 7 [], .nilh 4, .int .i64 0, .int .i64 0] [(0, 1), (4, 1), (7, 2)]) [qi 4, .t 42, .t 44] [42],
qo 12 (.allocL 8 [.int .i64 0, .str [], .int .i64 0, .sl true 1 [], .sl true 9 [], .sl true 7 [], .nilh 4, .int .i64 0, .int .i64 0]) [], qn (.store 9) [.t 12, .t 45] [45]] [1, 4, 8, 9, 10, 12])
 (.seq (.region [qo 46 (.loadTL 8 9 true) [.t 12], qo 47 (.load 1 false) [.t 4], qm 48 9, qo 49 (.bin .add) [.t 48, qi 1], qm 50 1, qo 51 (.call (.fr 8)) [.t 47, .t 49, .t 50],
qt 52 (.buildSl 9) [.t 46, .t 51] [46, 51], qo 53 (.fieldAddr 2) [.t 10], qo 54 (.loadL 8 2 true) [.t 53],
qt 55 (.build [.int .i64 0, .str [], .int .i64 0, .sl true 1 [], .sl true 9 [], .sl true 7 [], .nilh 4, .int .i64 0, .int .i64 0] [(0, 1), (4, 1), (7, 2)]) [qi 4, .t 52, .t 54] [52],
qn (.store 9) [.t 8, .t 55] [55]] [8])
 (.ret)))))
 (.skip))))
 (.region [qm 17 9, qo 18 (.bin .add) [.t 17, qi 1], qm 9 18] [0, 1, 2, 3, 4, 5, 8, 9]))))))
 (.seq (.region [qo 56 (.load 1 false) [.t 5], qm 57 0, qo 58 (.indexAddr 9) [.t 56, .t 57], qo 59 (.load 9 true) [.t 58], qn (.store 9) [.t 8, .t 59] [59]] [8])
 (.ret))), [.cell 8 9 true]⟩
def v_r02_blank : VFunc := ⟨52, .seq (.region [qo 2 .mv [qi 0]] [0])
 (.seq (.region [qo 3 .mv [qi 0]] [0, 3])
 (.seq (.block 0 (.loop (.seq (.seq (.region [qm 4 3, qm 5 0, qo 6 .lenStr [.t 5], qo 7 (.bin .lss) [.t 4, .t 6]] [0, 3, 7])
 (.cond (.t 7)
 (.skip)
 (.exit 0)))
 (.block 1 (.seq (.region [qm 8 0, qm 9 3, qo 10 .indexStr [.t 8, .t 9], qo 11 (.bin .eql) [.t 10, .c (.int .u8 32)], qm 12 11, qv 13 0 12 false, qv 14 3 12 false, qg 15 .indexStr [.t 13, .t 14] [] 12 false,
qg 16 (.bin .eql) [.t 15, .c (.int .u8 10)] [] 12 false, qo 17 .pick [.t 12, qb true, .t 16]] [0, 3, 17])
 (.cond (.t 17)
 (.region [qm 18 3, qo 19 (.bin .add) [.t 18, qi 1], qm 3 19] [0, 3])
 (.seq (.region [qm 20 0, qm 21 3, qo 22 .indexStr [.t 20, .t 21], qo 23 (.bin .eql) [.t 22, .c (.int .u8 45)], qm 24 23, qv 25 3 24 true, qg 26 (.bin .add) [.t 25, qi 1] [] 24 true, qv 27 0 24 true,
qg 28 .lenStr [.t 27] [] 24 true, qg 29 (.bin .lss) [.t 26, .t 28] [] 24 true, qo 30 .pick [.t 24, .t 29, qb false], qm 31 30, qv 32 0 31 true, qv 33 3 31 true,
qg 34 (.bin .add) [.t 33, qi 1] [] 31 true, qg 35 .indexStr [.t 32, .t 34] [] 31 true, qg 36 (.bin .eql) [.t 35, .c (.int .u8 45)] [] 31 true, qo 37 .pick [.t 31, .t 36, qb false]] [0, 3, 37])
 (.cond (.t 37)
 (.block 2 (.loop (.seq (.seq (.region [qm 38 3, qm 39 0, qo 40 .lenStr [.t 39], qo 41 (.bin .lss) [.t 38, .t 40], qm 42 41, qv 43 0 42 true, qv 44 3 42 true, qg 45 .indexStr [.t 43, .t 44] [] 42 true,
qg 46 (.bin .neq) [.t 45, .c (.int .u8 10)] [] 42 true, qo 47 .pick [.t 42, .t 46, qb false]] [0, 3, 47])
 (.cond (.t 47)
 (.skip)
 (.exit 2)))
 (.block 3 (.region [qm 48 3, qo 49 (.bin .add) [.t 48, qi 1], qm 3 49] [0, 3])))))
 (.seq (.region [qm 50 3, qm 2 50] [2])
 (.ret))))))))))
 (.seq (.region [qm 51 3, qm 2 51] [2])
 (.ret)))), [.tmp 2]⟩
def v_r02_length : VFunc := ⟨62, .seq (.region [qo 2 .mv [qi 0]] [0])
 (.seq (.region [qo 3 .mv [qi 1]] [0, 3])
 (.seq (.block 0 (.seq (.region [qm 5 0, qo 6 .indexStr [.t 5, qi 0], qo 7 (.call .wr) [qf 171, .t 6, .c (.str [40, 41, 123, 125, 59, 92])], qm 4 7] [0, 3, 4])
 (.cond (.t 4)
 (.seq (.region [qo 2 .mv [qi 1]] [2])
 (.ret))
 (.seq (.region [qm 9 0, qo 10 .indexStr [.t 9, qi 0], qo 11 (.call .wr) [qf 172, .t 10], qm 12 11, qv 13 0 12 false, qg 14 .indexStr [.t 13, qi 0] [] 12 false, qg 15 (.call .wr) [qf 173, .t 14] [] 12 false,
qo 16 .pick [.t 12, qb true, .t 15], qm 8 16] [0, 3, 8])
 (.cond (.t 8)
 (.block 1 (.loop (.seq (.seq (.region [qm 17 3, qm 18 0, qo 19 .lenStr [.t 18], qo 20 (.bin .lss) [.t 17, .t 19], qm 21 20, qv 22 0 21 true, qv 23 3 21 true, qg 24 .indexStr [.t 22, .t 23] [] 21 true,
qg 25 (.call .wr) [qf 174, .t 24] [] 21 true, qo 26 .pick [.t 21, .t 25, qb false]] [0, 3, 26])
 (.cond (.t 26)
 (.skip)
 (.exit 1)))
 (.block 2 (.region [qm 27 3, qo 28 (.bin .add) [.t 27, qi 1], qm 3 28] [0, 3])))))
 (.seq (.region [qm 30 0, qo 31 .indexStr [.t 30, qi 0], qo 32 (.call .wr) [qf 175, .t 31], qm 29 32] [0, 3, 29])
 (.cond (.t 29)
 (.block 3 (.loop (.seq (.seq (.region [qm 33 3, qm 34 0, qo 35 .lenStr [.t 34], qo 36 (.bin .lss) [.t 33, .t 35], qm 37 36, qv 38 0 37 true, qv 39 3 37 true, qg 40 .indexStr [.t 38, .t 39] [] 37 true,
qg 41 (.call .wr) [qf 175, .t 40] [] 37 true, qo 42 .pick [.t 37, .t 41, qb false]] [0, 3, 42])
 (.cond (.t 42)
 (.skip)
 (.exit 3)))
 (.block 4 (.region [qm 43 3, qo 44 (.bin .add) [.t 43, qi 1], qm 3 44] [0, 3])))))
 (.seq (.region [qm 46 0, qo 47 .indexStr [.t 46, qi 0], qo 48 (.call .wr) [qf 176, .t 47], qm 45 48] [0, 3, 45])
 (.cond (.t 45)
 (.block 5 (.loop (.seq (.seq (.region [qm 49 3, qm 50 0, qo 51 .lenStr [.t 50], qo 52 (.bin .lss) [.t 49, .t 51], qm 53 52, qv 54 0 53 true, qv 55 3 53 true, qg 56 .indexStr [.t 54, .t 55] [] 53 true,
qg 57 (.call .wr) [qf 176, .t 56] [] 53 true, qo 58 .pick [.t 53, .t 57, qb false]] [0, 3, 58])
 (.cond (.t 58)
 (.skip)
 (.exit 5)))
 (.block 6 (.region [qm 59 3, qo 60 (.bin .add) [.t 59, qi 1], qm 3 60] [0, 3])))))
 (.seq (.region [qo 2 .mv [qi 0]] [2])
 (.ret)))))))))))
 (.seq (.region [qm 61 3, qm 2 61] [2])
 (.ret)))), [.tmp 2]⟩
def v_r02_Place : VFunc := ⟨26, .seq (.region [qo 4 (.alloc [.int .i64 0, .int .i64 0]) []] [0, 1, 4])
 (.seq (.region [qo 7 (.build [.int .i64 0, .int .i64 0] [(0, 1), (1, 1)]) [qi 1, qi 1], qo 5 (.alloc [.int .i64 0, .int .i64 0]) [], qn (.store 2) [.t 5, .t 7] []] [0, 1, 4, 5])
 (.seq (.seq (.region [qo 6 .mv [qi 0]] [0, 1, 4, 5, 6])
 (.block 0 (.loop (.seq (.seq (.region [qm 8 6, qm 9 1, qo 10 (.bin .lss) [.t 8, .t 9]] [0, 1, 4, 5, 6, 10])
 (.cond (.t 10)
 (.skip)
 (.exit 0)))
 (.seq (.block 1 (.seq (.region [qm 13 0, qm 14 6, qo 15 .indexStr [.t 13, .t 14], qo 16 (.bin .eql) [.t 15, .c (.int .u8 10)]] [0, 1, 4, 5, 6, 16])
 (.cond (.t 16)
 (.region [qo 17 (.fieldAddr 0) [.t 5], qo 18 (.load 1 false) [.t 17], qo 19 (.bin .add) [.t 18, qi 1], qo 20 (.build [.int .i64 0, .int .i64 0] [(0, 1), (1, 1)]) [.t 19, qi 1],
qn (.store 2) [.t 5, .t 20] []] [0, 1, 4, 5, 6])
 (.region [qo 21 (.fieldAddr 1) [.t 5], qo 22 (.load 1 false) [.t 21], qo 23 (.bin .add) [.t 22, qi 1], qo 24 (.fieldAddr 1) [.t 5], qn (.store 1) [.t 24, .t 23] []] [0, 1, 4, 5, 6]))))
 (.region [qm 11 6, qo 12 (.bin .add) [.t 11, qi 1], qm 6 12] [0, 1, 4, 5, 6]))))))
 (.seq (.region [qo 25 (.load 2 true) [.t 5], qn (.store 2) [.t 4, .t 25] []] [4])
 (.ret)))), [.cell 4 2 true]⟩
def v_r02_fault : VFunc := ⟨19, .seq (.region [qo 2 .mv [qi 0]] [0])
 (.seq (.region [qm 6 0, qo 7 (.call .wr) [qf 128, .t 6], qm 3 7] [0, 3])
 (.seq (.seq (.region [qm 8 3, qo 9 (.bin .neq) [.t 8, qi 4]] [0, 9])
 (.cond (.t 9)
 (.seq (.seq (.region [qm 10 0, qo 11 .lenStr [.t 10], qo 12 (.bin .gtr) [.t 11, qi 32]] [12])
 (.cond (.t 12)
 (.seq (.region [qo 2 .mv [qi 2]] [2])
 (.ret))
 (.skip)))
 (.seq (.region [qo 2 .mv [qi 0]] [2])
 (.ret)))
 (.skip)))
 (.seq (.region [qm 14 0, qo 15 (.call .wr) [qf 129, .t 14], qm 13 15, qo 16 (.extract 0) [.t 13], qo 17 (.extract 1) [.t 13], qm 4 16, qm 5 17] [5])
 (.seq (.region [qm 18 5, qm 2 18] [2])
 (.ret))))), [.tmp 2]⟩
def v_r02_kindOf : VFunc := ⟨34, .seq (.region [qo 2 .mv [qi 0]] [0])
 (.seq (.seq (.region [qm 3 0, qo 4 .indexStr [.t 3, qi 0], qo 5 (.call .wr) [qf 171, .t 4, .c (.str [40, 41, 123, 125, 59, 92])], qm 6 5, qv 7 0 6 false, qg 8 (.bin .eql) [.t 7, .c (.str [95])] [] 6 false,
qo 9 .pick [.t 6, qb true, .t 8], qm 10 9, qv 11 0 10 false, qg 12 (.bin .eql) [.t 11, .c (.str [61])] [] 10 false, qo 13 .pick [.t 10, qb true, .t 12], qm 14 13, qv 15 0 14 false,
qg 16 (.bin .eql) [.t 15, .c (.str [124])] [] 14 false, qo 17 .pick [.t 14, qb true, .t 16], qm 18 17, qv 19 0 18 false, qg 20 (.bin .eql) [.t 19, .c (.str [45, 62])] [] 18 false,
qo 21 .pick [.t 18, qb true, .t 20]] [0, 21])
 (.cond (.t 21)
 (.seq (.region [qo 2 .mv [qi 5]] [2])
 (.ret))
 (.skip)))
 (.seq (.seq (.region [qo 22 (.call .wr) [qf 178], qm 23 0, qt 24 (.call .wr) [qf 177, .t 22, .t 23] [22]] [0, 24])
 (.cond (.t 24)
 (.seq (.region [qo 2 .mv [qi 6]] [2])
 (.ret))
 (.skip)))
 (.seq (.seq (.region [qm 25 0, qo 26 .indexStr [.t 25, qi 0], qo 27 (.call .wr) [qf 172, .t 26]] [0, 27])
 (.cond (.t 27)
 (.seq (.region [qo 2 .mv [qi 1]] [2])
 (.ret))
 (.skip)))
 (.seq (.seq (.region [qm 28 0, qo 29 .indexStr [.t 28, qi 0], qo 30 (.call .wr) [qf 173, .t 29]] [0, 30])
 (.cond (.t 30)
 (.seq (.region [qo 2 .mv [qi 2]] [2])
 (.ret))
 (.skip)))
 (.seq (.seq (.region [qm 31 0, qo 32 .indexStr [.t 31, qi 0], qo 33 (.call .wr) [qf 175, .t 32]] [33])
 (.cond (.t 33)
 (.seq (.region [qo 2 .mv [qi 4]] [2])
 (.ret))
 (.skip)))
 (.seq (.region [qo 2 .mv [qi 3]] [2])
 (.ret))))))), [.tmp 2]⟩
def v_r02_number : VFunc := ⟨10, .seq (.region [qo 2 .mv [qi 0], qo 3 .mv [qi 0]] [0])
 (.seq (.seq (.region [qm 4 0, qo 5 (.bin .eql) [.t 4, .c (.str [57, 50, 50, 51, 51, 55, 50, 48, 51, 54, 56, 53, 52, 55, 55, 53, 56, 48, 56])]] [0, 5])
 (.cond (.t 5)
 (.seq (.region [qo 2 .mv [qi (-9223372036854775808)], qo 3 .mv [qi 0]] [2, 3])
 (.ret))
 (.skip)))
 (.seq (.region [qm 6 0, qo 7 (.call .wr) [qf 179, .t 6], qo 8 (.extract 0) [.t 7], qo 9 (.extract 1) [.t 7], qm 2 8, qm 3 9] [2, 3])
 (.ret))), [.tmp 2, .tmp 3]⟩
def v_show_operator : VFunc := ⟨5, .seq (.region [qo 2 .mv [qb false]] [0])
 (.seq (.region [qm 3 0, qo 4 (.call .wr) [qf 41, .t 3, qi 3], qm 2 4] [2])
 (.ret)), [.tmp 2]⟩
def v_show_writer_bracket : VFunc := ⟨12, .seq (.region [qm 4 0, qo 5 (.buildSl 1) [.c (.str [40])], qt 6 (.call .wr) [qf 95, .t 4, .t 5] [5]] [0, 1])
 (.seq (.region [qm 7 1, qo 8 (.call .wr) [.t 7]] [0])
 (.region [qm 9 0, qo 10 (.buildSl 1) [.c (.str [41])], qt 11 (.call .wr) [qf 95, .t 9, .t 10] [10]] [])), []⟩
def v_show_writer_operand_1 : VFunc := ⟨5, .region [qo 2 (.load 1 false) [.t 0], qo 3 (.load 9 true) [.t 1], qt 4 (.call .wr) [qf 65, .t 2, .t 3] [3]] [], []⟩
def v_show_writer_name : VFunc := ⟨13, .seq (.region [qo 2 .box [.t 0], qo 3 .box [.t 1]] [2, 3])
 (.seq (.seq (.region [qo 4 (.load 1 false) [.t 3], qo 5 (.call .wr) [qf 140, .t 4]] [2, 3, 5])
 (.cond (.t 5)
 (.seq (.region [qo 6 (.load 1 false) [.t 2], qo 7 (.mkfn 197) [.t 2, .t 3], qo 8 (.call .wr) [qf 141, .t 6, .t 7]] [])
 (.ret))
 (.skip)))
 (.region [qo 9 (.load 1 false) [.t 2], qo 10 (.load 1 false) [.t 3], qo 11 (.buildSl 1) [.t 10], qt 12 (.call .wr) [qf 95, .t 9, .t 11] [11]] [])), []⟩
def v_show_writer_number : VFunc := ⟨14, .seq (.region [qo 2 .box [.t 0], qo 3 .box [.t 1]] [2, 3])
 (.seq (.seq (.region [qo 4 (.load 1 false) [.t 3], qo 5 (.bin .lss) [.t 4, qi 0]] [2, 3, 5])
 (.cond (.t 5)
 (.seq (.region [qo 6 (.load 1 false) [.t 2], qo 7 (.mkfn 198) [.t 2, .t 3], qo 8 (.call .wr) [qf 141, .t 6, .t 7]] [])
 (.ret))
 (.skip)))
 (.region [qo 9 (.load 1 false) [.t 2], qo 10 (.load 1 false) [.t 3], qo 11 (.call .al) [qf 199, .t 10], qo 12 (.buildSl 1) [.t 11], qt 13 (.call .wr) [qf 95, .t 9, .t 12] [12]] [])), []⟩
def v_show_writer_atom_1 : VFunc := ⟨5, .region [qo 2 (.load 1 false) [.t 0], qo 3 (.load 9 true) [.t 1], qt 4 (.call .wr) [qf 65, .t 2, .t 3] [3]] [], []⟩
def v_show_writer_pats : VFunc := ⟨26, .seq (.region [qo 2 .box [.t 0]] [1, 2])
 (.seq (.region [qt 6 .mv [.t 1] [1], qo 7 .len [.t 6], qo 8 .mv [qi 0]] [2, 6, 7, 8])
 (.block 0 (.loop (.seq (.region [qo 9 (.bin .lss) [.t 8, .t 7]] [2, 6, 7, 8, 9])
 (.seq (.cond (.t 9)
 (.skip)
 (.exit 0))
 (.seq (.block 1 (.seq (.region [qo 10 (.indexAddr 6) [.t 6, .t 8], qo 11 (.load 6 true) [.t 10], qo 5 (.alloc [.int .i64 0, .str [], .int .i64 0, .sl true 6 [], .int .i64 0, .int .i64 0]) [],
qn (.store 6) [.t 5, .t 11] [11]] [2, 5, 6, 7, 8])
 (.seq (.region [qo 12 (.load 1 false) [.t 2], qo 13 (.buildSl 1) [.c (.str [32])], qt 14 (.call .wr) [qf 95, .t 12, .t 13] [13]] [2, 5, 6, 7, 8])
 (.seq (.region [qo 15 (.fieldAddr 3) [.t 5], qo 16 (.load 1 false) [.t 15], qo 17 .len [.t 16], qo 18 (.bin .gtr) [.t 17, qi 0]] [2, 5, 6, 7, 8, 18])
 (.cond (.t 18)
 (.region [qo 19 (.load 1 false) [.t 2], qo 20 (.mkfn 201) [.t 2, .t 5], qo 21 (.call .wr) [qf 141, .t 19, .t 20]] [2, 6, 7, 8])
 (.region [qo 22 (.load 1 false) [.t 2], qo 23 (.loadT 6 true) [.t 5], qt 24 (.call .wr) [qf 102, .t 22, .t 23] [23]] [2, 6, 7, 8]))))))
 (.region [qo 25 (.bin .add) [.t 8, qi 1], qm 8 25] [2, 6, 7, 8]))))))), []⟩
def v_lex_reader_remark : VFunc := ⟨40, .block 0 (.loop (.seq (.seq (.region [qm 2 0, qo 3 .nilCheck [.t 2], qo 4 (.fieldAddr 1) [.t 3], qo 5 (.load 1 false) [.t 4], qm 6 0, qo 7 .nilCheck [.t 6], qo 8 (.fieldAddr 0) [.t 7], qo 9 (.load 1 false) [.t 8],
qo 10 .lenStr [.t 9], qo 11 (.bin .lss) [.t 5, .t 10], qm 12 11, qv 13 0 12 true, qg 14 .nilCheck [.t 13] [] 12 true, qg 15 (.fieldAddr 0) [.t 14] [] 12 true,
qg 16 (.load 1 false) [.t 15] [] 12 true, qv 17 0 12 true, qg 18 .nilCheck [.t 17] [] 12 true, qg 19 (.fieldAddr 1) [.t 18] [] 12 true, qg 20 (.load 1 false) [.t 19] [] 12 true,
qg 21 .indexStr [.t 16, .t 20] [] 12 true, qg 22 (.bin .neq) [.t 21, .c (.int .u8 10)] [] 12 true, qo 23 .pick [.t 12, .t 22, qb false]] [0, 23])
 (.cond (.t 23)
 (.skip)
 (.exit 0)))
 (.block 1 (.seq (.region [qm 24 0, qo 25 .nilCheck [.t 24], qo 26 (.fieldAddr 1) [.t 25], qo 27 (.load 1 false) [.t 26], qo 28 (.bin .add) [.t 27, qi 1], qo 29 .nilCheck [.t 24], qo 30 (.fieldAddr 1) [.t 29],
qn (.store 1) [.t 30, .t 28] []] [0])
 (.region [qm 31 0, qo 32 .nilCheck [.t 31], qo 33 (.fieldAddr 2) [.t 32], qo 34 (.fieldAddr 1) [.t 33], qo 35 (.load 1 false) [.t 34], qo 36 (.bin .add) [.t 35, qi 1], qo 37 .nilCheck [.t 31],
qo 38 (.fieldAddr 2) [.t 37], qo 39 (.fieldAddr 1) [.t 38], qn (.store 1) [.t 39, .t 36] []] [0]))))), []⟩
def v_lex_classOf : VFunc := ⟨56, .seq (.region [qo 2 .mv [qi 0]] [0])
 (.seq (.block 0 (.seq (.region [qm 4 0, qo 5 (.bin .geq) [.t 4, .c (.int .u8 97)], qm 6 5, qv 7 0 6 true, qg 8 (.bin .leq) [.t 7, .c (.int .u8 122)] [] 6 true, qo 9 .pick [.t 6, .t 8, qb false], qm 10 9, qv 11 0 10 false,
qg 12 (.bin .eql) [.t 11, .c (.int .u8 95)] [] 10 false, qo 13 .pick [.t 10, qb true, .t 12], qm 3 13] [0, 3])
 (.cond (.t 3)
 (.seq (.region [qo 2 .mv [qi 1]] [2])
 (.ret))
 (.seq (.region [qm 15 0, qo 16 (.bin .geq) [.t 15, .c (.int .u8 65)], qm 17 16, qv 18 0 17 true, qg 19 (.bin .leq) [.t 18, .c (.int .u8 90)] [] 17 true, qo 20 .pick [.t 17, .t 19, qb false], qm 14 20] [0, 14])
 (.cond (.t 14)
 (.seq (.region [qo 2 .mv [qi 2]] [2])
 (.ret))
 (.seq (.region [qm 22 0, qo 23 (.bin .geq) [.t 22, .c (.int .u8 48)], qm 24 23, qv 25 0 24 true, qg 26 (.bin .leq) [.t 25, .c (.int .u8 57)] [] 24 true, qo 27 .pick [.t 24, .t 26, qb false], qm 21 27] [0, 21])
 (.cond (.t 21)
 (.seq (.region [qo 2 .mv [qi 3]] [2])
 (.ret))
 (.skip))))))))
 (.seq (.seq (.region [qm 28 0] [28])
 (.block 1 (.seq (.seq (.region [qo 30 (.bin .eql) [.t 28, .c (.int .u8 40)], qm 29 30] [28, 29])
 (.cond (.t 29)
 (.skip)
 (.seq (.region [qo 31 (.bin .eql) [.t 28, .c (.int .u8 41)], qm 29 31] [28, 29])
 (.cond (.t 29)
 (.skip)
 (.seq (.region [qo 32 (.bin .eql) [.t 28, .c (.int .u8 123)], qm 29 32] [28, 29])
 (.cond (.t 29)
 (.skip)
 (.seq (.region [qo 33 (.bin .eql) [.t 28, .c (.int .u8 125)], qm 29 33] [28, 29])
 (.cond (.t 29)
 (.skip)
 (.seq (.region [qo 34 (.bin .eql) [.t 28, .c (.int .u8 59)], qm 29 34] [28, 29])
 (.cond (.t 29)
 (.skip)
 (.region [qo 35 (.bin .eql) [.t 28, .c (.int .u8 92)], qm 29 35] [28, 29])))))))))))
 (.cond (.t 29)
 (.seq (.region [qo 2 .mv [qi 4]] [2])
 (.ret))
 (.seq (.seq (.region [qo 37 (.bin .eql) [.t 28, .c (.int .u8 33)], qm 36 37] [28, 36])
 (.cond (.t 36)
 (.skip)
 (.seq (.region [qo 38 (.bin .eql) [.t 28, .c (.int .u8 35)], qm 36 38] [28, 36])
 (.cond (.t 36)
 (.skip)
 (.seq (.region [qo 39 (.bin .eql) [.t 28, .c (.int .u8 36)], qm 36 39] [28, 36])
 (.cond (.t 36)
 (.skip)
 (.seq (.region [qo 40 (.bin .eql) [.t 28, .c (.int .u8 37)], qm 36 40] [28, 36])
 (.cond (.t 36)
 (.skip)
 (.seq (.region [qo 41 (.bin .eql) [.t 28, .c (.int .u8 38)], qm 36 41] [28, 36])
 (.cond (.t 36)
 (.skip)
 (.seq (.region [qo 42 (.bin .eql) [.t 28, .c (.int .u8 42)], qm 36 42] [28, 36])
 (.cond (.t 36)
 (.skip)
 (.seq (.region [qo 43 (.bin .eql) [.t 28, .c (.int .u8 43)], qm 36 43] [28, 36])
 (.cond (.t 36)
 (.skip)
 (.seq (.region [qo 44 (.bin .eql) [.t 28, .c (.int .u8 46)], qm 36 44] [28, 36])
 (.cond (.t 36)
 (.skip)
 (.seq (.region [qo 45 (.bin .eql) [.t 28, .c (.int .u8 47)], qm 36 45] [28, 36])
 (.cond (.t 36)
 (.skip)
 (.seq (.region [qo 46 (.bin .eql) [.t 28, .c (.int .u8 58)], qm 36 46] [28, 36])
 (.cond (.t 36)
 (.skip)
 (.seq (.region [qo 47 (.bin .eql) [.t 28, .c (.int .u8 60)], qm 36 47] [28, 36])
 (.cond (.t 36)
 (.skip)
 (.seq (.region [qo 48 (.bin .eql) [.t 28, .c (.int .u8 61)], qm 36 48] [28, 36])
 (.cond (.t 36)
 (.skip)
 (.seq (.region [qo 49 (.bin .eql) [.t 28, .c (.int .u8 62)], qm 36 49] [28, 36])
 (.cond (.t 36)
 (.skip)
 (.seq (.region [qo 50 (.bin .eql) [.t 28, .c (.int .u8 63)], qm 36 50] [28, 36])
 (.cond (.t 36)
 (.skip)
 (.seq (.region [qo 51 (.bin .eql) [.t 28, .c (.int .u8 64)], qm 36 51] [28, 36])
 (.cond (.t 36)
 (.skip)
 (.seq (.region [qo 52 (.bin .eql) [.t 28, .c (.int .u8 94)], qm 36 52] [28, 36])
 (.cond (.t 36)
 (.skip)
 (.seq (.region [qo 53 (.bin .eql) [.t 28, .c (.int .u8 124)], qm 36 53] [28, 36])
 (.cond (.t 36)
 (.skip)
 (.seq (.region [qo 54 (.bin .eql) [.t 28, .c (.int .u8 126)], qm 36 54] [28, 36])
 (.cond (.t 36)
 (.skip)
 (.region [qo 55 (.bin .eql) [.t 28, .c (.int .u8 45)], qm 36 55] [36])))))))))))))))))))))))))))))))))))))
 (.cond (.t 36)
 (.seq (.region [qo 2 .mv [qi 5]] [2])
 (.ret))
 (.skip)))))))
 (.seq (.region [qo 2 .mv [qi 0]] [2])
 (.ret)))), [.tmp 2]⟩
def v_lex_goesOn : VFunc := ⟨32, .seq (.region [qo 4 .mv [qb false]] [0, 1])
 (.seq (.region [qm 6 1, qo 7 (.call .wr) [qf 150, .t 6], qm 5 7] [0, 1, 5])
 (.seq (.seq (.region [qm 8 0] [0, 1, 5, 8])
 (.block 0 (.seq (.seq (.region [qo 10 (.bin .eql) [.t 8, qi 1], qm 9 10] [0, 1, 5, 8, 9])
 (.cond (.t 9)
 (.skip)
 (.region [qo 11 (.bin .eql) [.t 8, qi 2], qm 9 11] [0, 1, 5, 8, 9])))
 (.cond (.t 9)
 (.seq (.region [qm 12 5, qo 13 (.bin .eql) [.t 12, qi 1], qm 14 13, qv 15 5 14 false, qg 16 (.bin .eql) [.t 15, qi 2] [] 14 false, qo 17 .pick [.t 14, qb true, .t 16], qm 18 17, qv 19 5 18 false,
qg 20 (.bin .eql) [.t 19, qi 3] [] 18 false, qo 21 .pick [.t 18, qb true, .t 20], qm 22 21, qv 23 1 22 false, qg 24 (.bin .eql) [.t 23, .c (.int .u8 39)] [] 22 false,
qo 25 .pick [.t 22, qb true, .t 24], qm 4 25] [4])
 (.ret))
 (.seq (.seq (.region [qo 27 (.bin .eql) [.t 8, qi 3], qm 26 27] [0, 5, 8, 26])
 (.cond (.t 26)
 (.skip)
 (.region [qo 28 (.bin .eql) [.t 8, qi 5], qm 26 28] [0, 5, 26])))
 (.cond (.t 26)
 (.seq (.region [qm 29 5, qm 30 0, qo 31 (.bin .eql) [.t 29, .t 30], qm 4 31] [4])
 (.ret))
 (.skip)))))))
 (.seq (.region [qo 4 .mv [qb false]] [4])
 (.ret)))), [.tmp 4]⟩
def v_lex_kind : VFunc := ⟨28, .seq (.region [qo 4 .mv [qi 0]] [0, 1])
 (.seq (.seq (.region [qm 5 0] [1, 5])
 (.block 0 (.seq (.region [qo 7 (.bin .eql) [.t 5, qi 2], qm 6 7] [1, 5, 6])
 (.cond (.t 6)
 (.seq (.region [qo 4 .mv [qi 2]] [4])
 (.ret))
 (.seq (.region [qo 9 (.bin .eql) [.t 5, qi 3], qm 8 9] [1, 5, 8])
 (.cond (.t 8)
 (.seq (.region [qo 4 .mv [qi 4]] [4])
 (.ret))
 (.seq (.region [qo 11 (.bin .eql) [.t 5, qi 5], qm 10 11] [1, 5, 10])
 (.cond (.t 10)
 (.seq (.seq (.region [qm 12 1, qo 13 (.bin .eql) [.t 12, .c (.str [61])], qm 14 13, qv 15 1 14 false, qg 16 (.bin .eql) [.t 15, .c (.str [124])] [] 14 false, qo 17 .pick [.t 14, qb true, .t 16], qm 18 17,
qv 19 1 18 false, qg 20 (.bin .eql) [.t 19, .c (.str [45, 62])] [] 18 false, qo 21 .pick [.t 18, qb true, .t 20]] [21])
 (.cond (.t 21)
 (.seq (.region [qo 4 .mv [qi 5]] [4])
 (.ret))
 (.skip)))
 (.seq (.region [qo 4 .mv [qi 3]] [4])
 (.ret)))
 (.seq (.region [qo 23 (.bin .eql) [.t 5, qi 1], qm 22 23] [1, 22])
 (.cond (.t 22)
 (.seq (.seq (.region [qm 24 1, qo 25 (.bin .eql) [.t 24, .c (.str [95])]] [1, 25])
 (.cond (.t 25)
 (.seq (.region [qo 4 .mv [qi 5]] [4])
 (.ret))
 (.skip)))
 (.seq (.seq (.region [qm 26 1, qo 27 (.call .wr) [qf 202, .t 26]] [27])
 (.cond (.t 27)
 (.seq (.region [qo 4 .mv [qi 6]] [4])
 (.ret))
 (.skip)))
 (.seq (.region [qo 4 .mv [qi 1]] [4])
 (.ret))))
 (.skip)))))))))))
 (.seq (.region [qo 4 .mv [qi 5]] [4])
 (.ret))), [.tmp 4]⟩
def v_lex_value : VFunc := ⟨15, .seq (.region [qo 2 .mv [qi 0], qo 3 .mv [qi 0]] [0])
 (.seq (.seq (.region [qm 4 0, qo 5 (.bin .eql) [.t 4, .c (.str [57, 50, 50, 51, 51, 55, 50, 48, 51, 54, 56, 53, 52, 55, 55, 53, 56, 48, 56])]] [0, 5])
 (.cond (.t 5)
 (.seq (.region [qm 6 0, qo 7 (.bin .add) [.c (.str [45]), .t 6], qo 8 (.call .wr) [qf 203, .t 7], qo 9 (.extract 0) [.t 8], qo 10 (.extract 1) [.t 8], qm 2 9, qm 3 10] [2, 3])
 (.ret))
 (.skip)))
 (.seq (.region [qm 11 0, qo 12 (.call .wr) [qf 203, .t 11], qo 13 (.extract 0) [.t 12], qo 14 (.extract 1) [.t 12], qm 2 13, qm 3 14] [2, 3])
 (.ret))), [.tmp 2, .tmp 3]⟩
def v_layout_layer_column : VFunc := ⟨27, .seq (.region [qo 2 .mv [qi 0]] [0])
 (.seq (.region [qm 4 0, qo 5 (.call .wr) [qf 157, .t 4], qm 3 5] [0, 3])
 (.seq (.seq (.region [qm 6 3, qo 7 (.bin .lss) [.t 6, qi 0], qm 8 7, qv 9 0 8 false, qg 10 .nilCheck [.t 9] [] 8 false, qg 11 (.fieldAddr 1) [.t 10] [] 8 false, qg 12 (.load 1 false) [.t 11] [] 8 false,
qv 13 3 8 false, qg 14 (.indexAddr 2) [.t 12, .t 13] [] 8 false, qg 15 (.fieldAddr 0) [.t 14] [] 8 false, qg 16 (.load 1 false) [.t 15] [] 8 false, qg 17 (.bin .eql) [.t 16, qi 1] [] 8 false,
qo 18 .pick [.t 8, qb true, .t 17]] [0, 3, 18])
 (.cond (.t 18)
 (.seq (.region [qo 2 .mv [qi 0]] [2])
 (.ret))
 (.skip)))
 (.seq (.region [qm 19 0, qo 20 .nilCheck [.t 19], qo 21 (.fieldAddr 1) [.t 20], qo 22 (.load 1 false) [.t 21], qm 23 3, qo 24 (.indexAddr 2) [.t 22, .t 23], qo 25 (.fieldAddr 1) [.t 24],
qo 26 (.load 1 false) [.t 25], qm 2 26] [2])
 (.ret)))), [.tmp 2]⟩
def v_layout_layer_push : VFunc := ⟨18, .region [qm 6 0, qm 7 0, qo 8 .nilCheck [.t 7], qo 9 (.fieldAddr 1) [.t 8], qo 10 (.load 1 false) [.t 9], qm 11 1, qm 12 2, qo 13 (.build [.int .i64 0, .int .i64 0] [(0, 1), (1, 1)]) [.t 11, .t 12],
qo 14 (.buildSl 2) [.t 13], qo 15 (.appendH 2 16) [.t 10, .t 14], qo 16 .nilCheck [.t 6], qo 17 (.fieldAddr 1) [.t 16], qn (.store 1) [.t 17, .t 15] [15]] [], []⟩
def v_layout_layer_inLaid : VFunc := ⟨19, .seq (.region [qo 2 .mv [qb false]] [0])
 (.seq (.region [qm 4 0, qo 5 (.call .wr) [qf 157, .t 4], qm 3 5] [0, 3])
 (.seq (.region [qm 6 3, qo 7 (.bin .geq) [.t 6, qi 0], qm 8 7, qv 9 0 8 true, qg 10 .nilCheck [.t 9] [] 8 true, qg 11 (.fieldAddr 1) [.t 10] [] 8 true, qg 12 (.load 1 false) [.t 11] [] 8 true,
qv 13 3 8 true, qg 14 (.indexAddr 2) [.t 12, .t 13] [] 8 true, qg 15 (.fieldAddr 0) [.t 14] [] 8 true, qg 16 (.load 1 false) [.t 15] [] 8 true, qg 17 (.bin .eql) [.t 16, qi 0] [] 8 true,
qo 18 .pick [.t 8, .t 17, qb false], qm 2 18] [2])
 (.ret))), [.tmp 2]⟩
def v_layout_layer_block : VFunc := ⟨30, .seq (.region [qo 2 .mv [qi 0]] [0])
 (.seq (.seq (.region [qm 5 0, qo 6 .nilCheck [.t 5], qo 7 (.fieldAddr 1) [.t 6], qo 8 (.load 1 false) [.t 7], qo 9 .len [.t 8], qo 10 (.bin .sub) [.t 9, qi 1], qm 3 10] [0, 3])
 (.block 0 (.loop (.seq (.seq (.region [qm 11 3, qo 12 (.bin .geq) [.t 11, qi 0]] [0, 3, 12])
 (.cond (.t 12)
 (.skip)
 (.exit 0)))
 (.seq (.block 1 (.seq (.region [qm 15 0, qo 16 .nilCheck [.t 15], qo 17 (.fieldAddr 1) [.t 16], qo 18 (.load 1 false) [.t 17], qm 19 3, qo 20 (.indexAddr 2) [.t 18, .t 19], qo 21 (.fieldAddr 0) [.t 20],
qo 22 (.load 1 false) [.t 21], qm 4 22] [0, 3, 4])
 (.seq (.region [qm 23 4, qo 24 (.bin .eql) [.t 23, qi 0], qm 25 24, qv 26 4 25 false, qg 27 (.bin .eql) [.t 26, qi 1] [] 25 false, qo 28 .pick [.t 25, qb true, .t 27]] [0, 3, 28])
 (.cond (.t 28)
 (.seq (.region [qm 29 3, qm 2 29] [2])
 (.ret))
 (.skip)))))
 (.region [qm 13 3, qo 14 (.bin .sub) [.t 13, qi 1], qm 3 14] [0, 3]))))))
 (.seq (.region [qo 2 .mv [qi (-1)]] [2])
 (.ret))), [.tmp 2]⟩
def v_layout_layer_find : VFunc := ⟨45, .seq (.region [qo 6 .mv [qi 0]] [0, 1, 2])
 (.scope (.seq (.region [qo 7 .mv [qi (-1)]] [0, 1, 2, 7])
 (.seq (.label)
 (.seq (.seq (.region [qm 12 0, qo 13 .nilCheck [.t 12], qo 14 (.fieldAddr 1) [.t 13], qo 15 (.load 1 false) [.t 14], qo 16 .len [.t 15], qo 17 (.bin .sub) [.t 16, qi 1], qm 8 17] [0, 1, 2, 7, 8])
 (.block 0 (.loop (.seq (.seq (.region [qm 18 8, qo 19 (.bin .geq) [.t 18, qi 0]] [0, 1, 2, 7, 8, 19])
 (.cond (.t 19)
 (.skip)
 (.exit 0)))
 (.seq (.block 1 (.seq (.region [qm 22 0, qo 23 .nilCheck [.t 22], qo 24 (.fieldAddr 1) [.t 23], qo 25 (.load 1 false) [.t 24], qm 26 8, qo 27 (.indexAddr 2) [.t 25, .t 26], qo 28 (.fieldAddr 0) [.t 27],
qo 29 (.load 1 false) [.t 28], qm 9 29] [0, 1, 2, 7, 8, 9])
 (.seq (.seq (.region [qm 30 9, qm 31 1, qo 32 (.bin .eql) [.t 30, .t 31]] [0, 1, 2, 7, 8, 9, 32])
 (.cond (.t 32)
 (.seq (.region [qm 33 8, qm 7 33] [7])
 (.exit 0))
 (.skip)))
 (.seq (.region [qm 34 2, qo 35 .len [.t 34], qo 36 .mv [qi 0]] [0, 1, 2, 7, 8, 9, 34, 35, 36])
 (.block 2 (.loop (.seq (.region [qo 37 (.bin .lss) [.t 36, .t 35]] [0, 1, 2, 7, 8, 9, 34, 35, 36, 37])
 (.seq (.cond (.t 37)
 (.skip)
 (.exit 2))
 (.seq (.block 3 (.seq (.region [qo 38 (.indexAddr 1) [.t 34, .t 36], qo 39 (.load 1 false) [.t 38], qm 11 39] [0, 1, 2, 7, 8, 9, 11, 34, 35, 36])
 (.seq (.region [qm 40 9, qm 41 11, qo 42 (.bin .eql) [.t 40, .t 41]] [0, 1, 2, 7, 8, 9, 34, 35, 36, 42])
 (.cond (.t 42)
 (.exit 0)
 (.skip)))))
 (.region [qo 43 (.bin .add) [.t 36, qi 1], qm 36 43] [0, 1, 2, 7, 8, 9, 34, 35, 36]))))))))))
 (.region [qm 20 8, qo 21 (.bin .sub) [.t 20, qi 1], qm 8 21] [0, 1, 2, 7, 8]))))))
 (.seq (.region [qm 44 7, qm 6 44] [6])
 (.ret)))))), [.tmp 6]⟩
def v_layout_layer_closeTo : VFunc := ⟨43, .block 0 (.loop (.seq (.seq (.region [qm 5 0, qo 6 .nilCheck [.t 5], qo 7 (.fieldAddr 1) [.t 6], qo 8 (.load 1 false) [.t 7], qo 9 .len [.t 8], qm 10 1, qo 11 (.bin .gtr) [.t 9, .t 10]] [0, 1, 11])
 (.cond (.t 11)
 (.skip)
 (.exit 0)))
 (.block 1 (.seq (.region [qm 12 0, qo 13 .nilCheck [.t 12], qo 14 (.fieldAddr 1) [.t 13], qo 15 (.load 1 false) [.t 14], qo 16 .len [.t 15], qo 17 (.bin .sub) [.t 16, qi 1], qm 4 17] [0, 1, 4])
 (.seq (.seq (.region [qm 18 4, qm 19 1, qo 20 (.bin .gtr) [.t 18, .t 19], qm 21 20, qv 22 0 21 true, qg 23 .nilCheck [.t 22] [] 21 true, qg 24 (.fieldAddr 1) [.t 23] [] 21 true,
qg 25 (.load 1 false) [.t 24] [] 21 true, qv 26 4 21 true, qg 27 (.indexAddr 2) [.t 25, .t 26] [] 21 true, qg 28 (.fieldAddr 0) [.t 27] [] 21 true, qg 29 (.load 1 false) [.t 28] [] 21 true,
qg 30 (.bin .eql) [.t 29, qi 0] [] 21 true, qo 31 .pick [.t 21, .t 30, qb false]] [0, 1, 4, 31])
 (.cond (.t 31)
 (.region [qm 32 0, qo 33 (.call .wr) [qf 112, .t 32, .c (.str [125])]] [0, 1, 4])
 (.skip)))
 (.region [qm 34 0, qm 35 0, qo 36 .nilCheck [.t 35], qo 37 (.fieldAddr 1) [.t 36], qo 38 (.load 1 false) [.t 37], qm 39 4, qo 40 (.slice false true 2) [.t 38, .t 39], qo 41 .nilCheck [.t 34],
qo 42 (.fieldAddr 1) [.t 41], qn (.store 1) [.t 42, .t 40] [40]] [0, 1])))))), []⟩
def v_parse_parser_want : VFunc := ⟨13, .seq (.region [qo 4 (.alloc [.int .i64 0, .str [], .int .i64 0, .int .i64 0, .int .i64 0, .bool false]) []] [0, 1, 4])
 (.seq (.seq (.region [qm 5 0, qm 6 1, qo 7 (.call .wr) [qf 79, .t 5, .t 6], qo 8 .not [.t 7]] [0, 4, 8])
 (.cond (.t 8)
 (.region [qm 9 0, qo 10 (.call .wr) [qf 76, .t 9, qi 60]] [0, 4])
 (.skip)))
 (.seq (.region [qm 11 0, qo 12 (.call .wr) [qf 77, .t 11], qn (.store 6) [.t 4, .t 12] []] [4])
 (.ret))), [.cell 4 6 true]⟩
def v_parse_parser_pattern : VFunc := ⟨21, .seq (.region [qo 2 .mv [qb false]] [0])
 (.seq (.region [qm 3 0, qo 4 (.call .wr) [qf 79, .t 3, qi 1], qm 5 4, qv 6 0 5 false, qg 7 (.call .wr) [qf 79, .t 6, qi 2] [] 5 false, qo 8 .pick [.t 5, qb true, .t 7], qm 9 8, qv 10 0 9 false,
qg 11 (.call .wr) [qf 79, .t 10, qi 4] [] 9 false, qo 12 .pick [.t 9, qb true, .t 11], qm 13 12, qv 14 0 13 false, qg 15 (.call .wr) [qf 75, .t 14, .c (.str [95])] [] 13 false,
qo 16 .pick [.t 13, qb true, .t 15], qm 17 16, qv 18 0 17 false, qg 19 (.call .wr) [qf 75, .t 18, .c (.str [40])] [] 17 false, qo 20 .pick [.t 17, qb true, .t 19], qm 2 20] [2])
 (.ret)), [.tmp 2]⟩
def v_parse_parser_apat : VFunc := ⟨80, .seq (.region [qo 2 (.alloc [.int .i64 0, .str [], .int .i64 0, .sl true 6 [], .int .i64 0, .int .i64 0]) []] [0, 2])
 (.seq (.region [qm 9 0, qo 10 (.call .wr) [qf 113, .t 9], qo 3 (.alloc [.int .i64 0, .str [], .int .i64 0, .int .i64 0, .int .i64 0, .bool false]) [], qn (.store 6) [.t 3, .t 10] []] [0, 2, 3])
 (.seq (.block 0 (.seq (.region [qo 12 (.fieldAddr 0) [.t 3], qo 13 (.load 1 false) [.t 12], qo 14 (.bin .eql) [.t 13, qi 1], qm 11 14] [0, 2, 3, 11])
 (.cond (.t 11)
 (.seq (.region [qm 15 0, qo 16 (.call .wr) [qf 77, .t 15]] [2, 3])
 (.seq (.region [qo 17 (.fieldAddr 1) [.t 3], qo 18 (.load 1 false) [.t 17], qo 19 (.fieldAddr 3) [.t 3], qo 20 (.load 2 true) [.t 19],
qo 21 (.build [.int .i64 0, .str [], .int .i64 0, .sl true 6 [], .int .i64 0, .int .i64 0] [(0, 1), (1, 1), (4, 2)]) [qi 2, .t 18, .t 20], qn (.store 6) [.t 2, .t 21] [21]] [2])
 (.ret)))
 (.seq (.region [qo 23 (.fieldAddr 0) [.t 3], qo 24 (.load 1 false) [.t 23], qo 25 (.bin .eql) [.t 24, qi 2], qm 22 25] [0, 2, 3, 22])
 (.cond (.t 22)
 (.seq (.region [qm 26 0, qo 27 (.call .wr) [qf 77, .t 26]] [2, 3])
 (.seq (.region [qo 28 (.fieldAddr 1) [.t 3], qo 29 (.load 1 false) [.t 28], qo 30 (.fieldAddr 3) [.t 3], qo 31 (.load 2 true) [.t 30],
qo 32 (.build [.int .i64 0, .str [], .int .i64 0, .sl true 6 [], .int .i64 0, .int .i64 0] [(0, 1), (1, 1), (4, 2)]) [qi 4, .t 29, .t 31], qn (.store 6) [.t 2, .t 32] [32]] [2])
 (.ret)))
 (.seq (.region [qo 34 (.fieldAddr 0) [.t 3], qo 35 (.load 1 false) [.t 34], qo 36 (.bin .eql) [.t 35, qi 4], qm 33 36] [0, 2, 3, 33])
 (.cond (.t 33)
 (.seq (.region [qm 38 0, qo 39 (.call .wr) [qf 165, .t 38], qm 37 39, qo 40 (.extract 0) [.t 37], qo 41 (.extract 1) [.t 37], qo 5 (.alloc [.int .i64 0, .int .i64 0]) [], qm 4 40,
qn (.store 2) [.t 5, .t 41] []] [2, 4, 5])
 (.seq (.region [qm 42 4, qo 43 (.load 2 true) [.t 5], qo 44 (.build [.int .i64 0, .str [], .int .i64 0, .sl true 6 [], .int .i64 0, .int .i64 0] [(0, 1), (2, 1), (4, 2)]) [qi 3, .t 42, .t 43],
qn (.store 6) [.t 2, .t 44] [44]] [2])
 (.ret)))
 (.seq (.region [qm 46 0, qo 47 (.call .wr) [qf 75, .t 46, .c (.str [95])], qm 45 47] [0, 2, 3, 45])
 (.cond (.t 45)
 (.seq (.region [qm 48 0, qo 49 (.call .wr) [qf 77, .t 48]] [2, 3])
 (.seq (.region [qo 50 (.fieldAddr 3) [.t 3], qo 51 (.load 2 true) [.t 50], qo 52 (.build [.int .i64 0, .str [], .int .i64 0, .sl true 6 [], .int .i64 0, .int .i64 0] [(0, 1), (4, 2)]) [qi 1, .t 51],
qn (.store 6) [.t 2, .t 52] [52]] [2])
 (.ret)))
 (.seq (.region [qm 54 0, qo 55 (.call .wr) [qf 166, .t 54, .c (.str [45]), qi 4], qm 53 55] [0, 2, 53])
 (.cond (.t 53)
 (.seq (.region [qm 57 0, qo 58 (.call .wr) [qf 167, .t 57], qm 56 58, qo 59 (.extract 0) [.t 56], qo 60 (.extract 1) [.t 56], qo 7 (.alloc [.int .i64 0, .int .i64 0]) [], qm 6 59,
qn (.store 2) [.t 7, .t 60] []] [2, 6, 7])
 (.seq (.region [qm 61 6, qo 62 (.load 2 true) [.t 7], qo 63 (.build [.int .i64 0, .str [], .int .i64 0, .sl true 6 [], .int .i64 0, .int .i64 0] [(0, 1), (2, 1), (4, 2)]) [qi 3, .t 61, .t 62],
qn (.store 6) [.t 2, .t 63] [63]] [2])
 (.ret)))
 (.skip))))))))))))
 (.seq (.region [qm 64 0, qo 65 (.call .wr) [qf 54, .t 64, .c (.str [40])]] [0, 2])
 (.seq (.seq (.region [qm 66 0, qo 67 (.call .wr) [qf 79, .t 66, qi 3]] [0, 2, 67])
 (.cond (.t 67)
 (.region [qm 68 0, qo 69 (.call .wr) [qf 204, .t 68]] [0, 2])
 (.skip)))
 (.seq (.seq (.region [qm 70 0, qo 71 .nilCheck [.t 70], qo 72 (.fieldAddr 2) [.t 71], qo 73 (.load 1 false) [.t 72]] [0, 2, 73])
 (.cond (.t 73)
 (.seq (.region [qo 74 (.build [.int .i64 0, .str [], .int .i64 0, .sl true 6 [], .int .i64 0, .int .i64 0] []) [], qn (.store 6) [.t 2, .t 74] [74]] [2])
 (.ret))
 (.skip)))
 (.seq (.region [qm 75 0, qo 76 (.call .wr) [qf 164, .t 75], qo 8 (.alloc [.int .i64 0, .str [], .int .i64 0, .sl true 6 [], .int .i64 0, .int .i64 0]) [], qn (.store 6) [.t 8, .t 76] [76]] [0, 2, 8])
 (.seq (.region [qm 77 0, qo 78 (.call .wr) [qf 54, .t 77, .c (.str [41])]] [2, 8])
 (.seq (.region [qo 79 (.loadT 6 true) [.t 8], qn (.store 6) [.t 2, .t 79] [79]] [2])
 (.ret))))))))), [.cell 2 6 true]⟩
def v_parse_parser_body : VFunc := ⟨37, .seq (.region [qo 4 .mv [.c (.sl true 10 [])]] [0, 1, 6])
 (.seq (.region [qo 5 .mv [.c (.sl true 10 [])]] [0, 1, 5, 6])
 (.seq (.seq (.region [qm 7 0, qo 8 (.call .wr) [qf 75, .t 7, .c (.str [124])], qo 9 .not [.t 8]] [0, 1, 5, 6, 9])
 (.cond (.t 9)
 (.seq (.region [qm 10 0, qm 11 1, qo 12 (.call .wr) [qf 54, .t 10, .t 11]] [0, 5, 6])
 (.seq (.region [qt 13 .mv [.t 5] [5], qm 14 0, qo 15 (.call .wr) [qf 55, .t 14],
qt 16 (.build [.sl true 9 [], .int .i64 0, .str [], .int .i64 0, .sl true 1 [], .sl true 9 [], .sl true 7 [], .nilh 4, .int .i64 0, .int .i64 0] [(1, 9)]) [.t 15] [15],
qt 17 (.buildSl 10) [.t 16] [16], qt 18 (.append 10 168) [.t 13, .t 17] [13], qt 4 .mv [.t 18] [18]] [4, 6])
 (.ret)))
 (.skip)))
 (.seq (.block 0 (.loop (.seq (.seq (.region [qm 19 0, qo 20 (.call .wr) [qf 75, .t 19, .c (.str [124])]] [0, 1, 5, 6, 20])
 (.cond (.t 20)
 (.skip)
 (.exit 0)))
 (.block 1 (.seq (.region [qm 21 0, qo 22 (.call .wr) [qf 77, .t 21]] [0, 1, 5, 6])
 (.seq (.region [qm 23 0, qo 24 (.call .wr) [qf 55, .t 23], qo 6 (.alloc [.int .i64 0, .str [], .int .i64 0, .sl true 1 [], .sl true 9 [], .sl true 7 [], .nilh 4, .int .i64 0, .int .i64 0]) [],
qn (.store 9) [.t 6, .t 24] [24]] [0, 1, 5, 6])
 (.seq (.region [qm 25 0, qm 26 1, qo 27 (.call .wr) [qf 54, .t 25, .t 26]] [0, 1, 5, 6])
 (.region [qt 28 .mv [.t 5] [5], qo 29 (.loadL 6 9 true) [.t 6], qt 30 (.buildSl 9) [.t 29] [29], qm 31 0, qo 32 (.call (.fr 6)) [qf 55, .t 31],
qt 33 (.build [.sl true 9 [], .int .i64 0, .str [], .int .i64 0, .sl true 1 [], .sl true 9 [], .sl true 7 [], .nilh 4, .int .i64 0, .int .i64 0] [(0, 1), (1, 9)]) [.t 30, .t 32] [30, 32],
qt 34 (.buildSl 10) [.t 33] [33], qt 35 (.append 10 168) [.t 28, .t 34] [28], qt 5 .mv [.t 35] [35]] [0, 1, 5, 6]))))))))
 (.seq (.region [qt 36 .mv [.t 5] [5], qt 4 .mv [.t 36] [36]] [4, 6])
 (.ret))))), [.tmp 4]⟩
def v_parse_parser_pat : VFunc := ⟨32, .seq (.region [qo 2 (.alloc [.int .i64 0, .str [], .int .i64 0, .sl true 6 [], .int .i64 0, .int .i64 0]) []] [0, 2])
 (.seq (.seq (.region [qm 5 0, qo 6 (.call .wr) [qf 79, .t 5, qi 2], qo 7 .not [.t 6]] [0, 2, 7])
 (.cond (.t 7)
 (.seq (.seq (.region [qm 8 0, qo 9 (.call .wr) [qf 161, .t 8], qo 10 .not [.t 9]] [0, 2, 10])
 (.cond (.t 10)
 (.region [qm 11 0, qo 12 (.call .wr) [qf 76, .t 11, qi 60]] [0, 2])
 (.skip)))
 (.seq (.region [qm 13 0, qo 14 (.call .wr) [qf 162, .t 13], qn (.store 6) [.t 2, .t 14] [14]] [2])
 (.ret)))
 (.skip)))
 (.seq (.region [qm 15 0, qo 16 (.call .wr) [qf 77, .t 15], qo 3 (.alloc [.int .i64 0, .str [], .int .i64 0, .int .i64 0, .int .i64 0, .bool false]) [], qn (.store 6) [.t 3, .t 16] []] [0, 2, 3])
 (.seq (.region [qo 17 (.fieldAddr 1) [.t 3], qo 18 (.load 1 false) [.t 17], qo 19 (.fieldAddr 3) [.t 3], qo 20 (.load 2 true) [.t 19],
qo 21 (.build [.int .i64 0, .str [], .int .i64 0, .sl true 6 [], .int .i64 0, .int .i64 0] [(0, 1), (1, 1), (4, 2)]) [qi 4, .t 18, .t 20],
qo 4 (.alloc [.int .i64 0, .str [], .int .i64 0, .sl true 6 [], .int .i64 0, .int .i64 0]) [], qn (.store 6) [.t 4, .t 21] [21]] [0, 2, 4])
 (.seq (.block 0 (.loop (.seq (.seq (.region [qm 22 0, qo 23 (.call .wr) [qf 161, .t 22]] [0, 2, 4, 23])
 (.cond (.t 23)
 (.skip)
 (.exit 0)))
 (.block 1 (.region [qo 24 (.fieldAddr 3) [.t 4], qo 25 (.loadTL 2 1 false) [.t 24], qm 26 0, qo 27 (.call (.fr 2)) [qf 162, .t 26], qt 28 (.buildSl 6) [.t 27] [27], qt 29 (.append 6 72) [.t 25, .t 28] [25],
qo 30 (.fieldAddr 3) [.t 4], qn (.store 1) [.t 30, .t 29] [29]] [0, 2, 4])))))
 (.seq (.region [qo 31 (.loadT 6 true) [.t 4], qn (.store 6) [.t 2, .t 31] [31]] [2])
 (.ret)))))), [.cell 2 6 true]⟩
def v_parse_parser_plain : VFunc := ⟨17, .seq (.region [qo 2 .mv [qi 0], qo 3 (.alloc [.int .i64 0, .int .i64 0]) []] [0, 3])
 (.seq (.seq (.region [qm 5 0, qo 6 (.call .wr) [qf 113, .t 5], qo 7 (.field 2 1 false) [.t 6], qo 8 (.bin .lss) [.t 7, qi 0]] [0, 3, 8])
 (.cond (.t 8)
 (.region [qm 9 0, qo 10 (.call .wr) [qf 76, .t 9, qi 11]] [0, 3])
 (.skip)))
 (.seq (.region [qm 11 0, qo 12 (.call .wr) [qf 77, .t 11], qo 4 (.alloc [.int .i64 0, .str [], .int .i64 0, .int .i64 0, .int .i64 0, .bool false]) [], qn (.store 6) [.t 4, .t 12] []] [3, 4])
 (.seq (.region [qo 13 (.fieldAddr 2) [.t 4], qo 14 (.load 1 false) [.t 13], qo 15 (.fieldAddr 3) [.t 4], qo 16 (.load 2 true) [.t 15], qm 2 14, qn (.store 2) [.t 3, .t 16] []] [2, 3])
 (.ret)))), [.tmp 2, .cell 3 2 true]⟩
def v_parse_parser_ahead : VFunc := ⟨66, .seq (.region [qo 6 .mv [qb false]] [0, 1, 2])
 (.seq (.seq (.region [qm 9 0, qo 10 (.call .wr) [qf 75, .t 9, .c (.str [40])], qo 11 .not [.t 10], qm 12 11, qv 13 0 12 false, qg 14 .nilCheck [.t 13] [] 12 false, qg 15 (.fieldAddr 1) [.t 14] [] 12 false,
qg 16 (.load 1 false) [.t 15] [] 12 false, qg 17 (.bin .add) [.t 16, qi 2] [] 12 false, qv 18 0 12 false, qg 19 .nilCheck [.t 18] [] 12 false, qg 20 (.fieldAddr 0) [.t 19] [] 12 false,
qg 21 (.load 1 false) [.t 20] [] 12 false, qg 22 .len [.t 21] [] 12 false, qg 23 (.bin .geq) [.t 17, .t 22] [] 12 false, qo 24 .pick [.t 12, qb true, .t 23]] [0, 1, 2, 24])
 (.cond (.t 24)
 (.seq (.region [qo 6 .mv [qb false]] [6])
 (.ret))
 (.skip)))
 (.seq (.regionD [7, 8] [qm 25 0, qo 26 .nilCheck [.t 25], qo 27 (.fieldAddr 0) [.t 26], qo 28 (.load 1 false) [.t 27], qm 29 0, qo 30 .nilCheck [.t 29], qo 31 (.fieldAddr 1) [.t 30], qo 32 (.load 1 false) [.t 31],
qo 33 (.bin .add) [.t 32, qi 1], qo 34 (.indexAddr 6) [.t 28, .t 33], qo 35 (.load 6 true) [.t 34], qm 36 0, qo 37 .nilCheck [.t 36], qo 38 (.fieldAddr 0) [.t 37],
qo 39 (.load 1 false) [.t 38], qm 40 0, qo 41 .nilCheck [.t 40], qo 42 (.fieldAddr 1) [.t 41], qo 43 (.load 1 false) [.t 42], qo 44 (.bin .add) [.t 43, qi 2],
qo 45 (.indexAddr 6) [.t 39, .t 44], qo 46 (.loadC 6 true) [.t 45], qo 7 (.allocR 7 [.int .i64 0, .str [], .int .i64 0, .int .i64 0, .int .i64 0, .bool false]) [],
qo 8 (.allocR 8 [.int .i64 0, .str [], .int .i64 0, .int .i64 0, .int .i64 0, .bool false]) [], qn (.storeP 6) [.t 7, .t 35] [], qn (.storeP 6) [.t 8, .t 46] []] [(27, 7), (31, 7), (34, 7), (38, 7), (42, 7), (27, 8), (31, 8), (34, 8), (38, 8), (42, 8), (7, 8)] [1, 2, 7, 8])
 (.seq (.region [qo 47 (.fieldAddr 0) [.t 7], qo 48 (.load 1 false) [.t 47], qo 49 (.bin .eql) [.t 48, qi 3], qm 50 49, qv 51 1 50 true, qg 52 (.bin .eql) [.t 51, .c (.str [])] [] 50 true, qv 53 52 50 true,
qg 54 (.fieldAddr 1) [.t 7] [] 53 false, qg 55 (.load 1 false) [.t 54] [] 53 false, qv 56 1 53 false, qg 57 (.bin .eql) [.t 55, .t 56] [] 53 false,
qg 58 .pick [.t 53, qb true, .t 57] [] 50 true, qo 59 .pick [.t 50, .t 58, qb false], qm 60 59, qg 61 (.fieldAddr 0) [.t 8] [] 60 true, qg 62 (.load 1 false) [.t 61] [] 60 true,
qv 63 2 60 true, qg 64 (.bin .eql) [.t 62, .t 63] [] 60 true, qo 65 .pick [.t 60, .t 64, qb false], qm 6 65] [6])
 (.ret)))), [.tmp 6]⟩
def v_parse_parser_number : VFunc := ⟨18, .seq (.region [qo 2 .mv [qi 0], qo 3 (.alloc [.int .i64 0, .int .i64 0]) []] [0, 3])
 (.seq (.region [qm 5 0, qo 6 (.call .wr) [qf 77, .t 5]] [0, 3])
 (.seq (.region [qm 7 0, qo 8 (.call .wr) [qf 77, .t 7]] [0, 3])
 (.seq (.region [qm 9 0, qo 10 (.call .wr) [qf 77, .t 9], qo 4 (.alloc [.int .i64 0, .str [], .int .i64 0, .int .i64 0, .int .i64 0, .bool false]) [], qn (.store 6) [.t 4, .t 10] []] [0, 3, 4])
 (.seq (.region [qm 11 0, qo 12 (.call .wr) [qf 54, .t 11, .c (.str [41])]] [3, 4])
 (.seq (.region [qo 13 (.fieldAddr 2) [.t 4], qo 14 (.load 1 false) [.t 13], qo 15 .neg [.t 14], qo 16 (.fieldAddr 3) [.t 4], qo 17 (.load 2 true) [.t 16], qm 2 15, qn (.store 2) [.t 3, .t 17] []] [2, 3])
 (.ret)))))), [.tmp 2, .cell 3 2 true]⟩
def v_parse_parser_operator : VFunc := ⟨33, .seq (.region [qo 2 .mv [qb false]] [0])
 (.seq (.region [qm 3 0, qo 4 (.call .wr) [qf 75, .t 3, .c (.str [40])], qm 5 4, qv 6 0 5 true, qg 7 .nilCheck [.t 6] [] 5 true, qg 8 (.fieldAddr 1) [.t 7] [] 5 true, qg 9 (.load 1 false) [.t 8] [] 5 true,
qg 10 (.bin .add) [.t 9, qi 1] [] 5 true, qv 11 0 5 true, qg 12 .nilCheck [.t 11] [] 5 true, qg 13 (.fieldAddr 0) [.t 12] [] 5 true, qg 14 (.load 1 false) [.t 13] [] 5 true,
qg 15 .len [.t 14] [] 5 true, qg 16 (.bin .lss) [.t 10, .t 15] [] 5 true, qo 17 .pick [.t 5, .t 16, qb false], qm 18 17, qv 19 0 18 true, qg 20 .nilCheck [.t 19] [] 18 true,
qg 21 (.fieldAddr 0) [.t 20] [] 18 true, qg 22 (.load 1 false) [.t 21] [] 18 true, qv 23 0 18 true, qg 24 .nilCheck [.t 23] [] 18 true, qg 25 (.fieldAddr 1) [.t 24] [] 18 true,
qg 26 (.load 1 false) [.t 25] [] 18 true, qg 27 (.bin .add) [.t 26, qi 1] [] 18 true, qg 28 (.indexAddr 6) [.t 22, .t 27] [] 18 true, qg 29 (.fieldAddr 0) [.t 28] [] 18 true,
qg 30 (.load 1 false) [.t 29] [] 18 true, qg 31 (.bin .eql) [.t 30, qi 3] [] 18 true, qo 32 .pick [.t 18, .t 31, qb false], qm 2 32] [2])
 (.ret)), [.tmp 2]⟩
def v_fix_Find : VFunc := ⟨21, .seq (.region [qo 4 (.alloc [.str [], .int .i64 0, .int .i64 0, .int .i64 0, .int .i64 0]) []] [0, 1, 4])
 (.seq (.seq (.region [qt 7 .mv [.t 0] [0], qo 8 .len [.t 7], qo 9 .mv [qi 0]] [1, 4, 7, 8, 9])
 (.block 0 (.loop (.seq (.region [qo 10 (.bin .lss) [.t 9, .t 8]] [1, 4, 7, 8, 9, 10])
 (.seq (.cond (.t 10)
 (.skip)
 (.exit 0))
 (.seq (.block 1 (.seq (.region [qo 11 (.indexAddr 5) [.t 7, .t 9], qo 12 (.load 5 true) [.t 11], qo 6 (.alloc [.str [], .int .i64 0, .int .i64 0, .int .i64 0, .int .i64 0]) [], qn (.store 5) [.t 6, .t 12] []] [1, 4, 6, 7, 8, 9])
 (.seq (.region [qo 13 (.fieldAddr 0) [.t 6], qo 14 (.load 1 false) [.t 13], qm 15 1, qo 16 (.bin .eql) [.t 14, .t 15]] [1, 4, 6, 7, 8, 9, 16])
 (.cond (.t 16)
 (.seq (.region [qo 17 (.load 5 true) [.t 6], qn (.store 5) [.t 4, .t 17] []] [4])
 (.ret))
 (.skip)))))
 (.region [qo 18 (.bin .add) [.t 9, qi 1], qm 9 18] [1, 4, 7, 8, 9])))))))
 (.seq (.region [qm 19 1, qo 20 (.call .wr) [qf 205, .t 19], qn (.store 5) [.t 4, .t 20] []] [4])
 (.ret))), [.cell 4 5 true]⟩
def v_fix_Resolve : VFunc := ⟨55, .seq (.region [qo 2 .mv [.c (.nilh 2)], qo 3 .mv [qi 0], qo 4 .mv [qi 0]] [0])
 (.seq (.seq (.region [qm 9 0, qo 10 .len [.t 9], qo 11 (.bin .gtr) [.t 10, qi 1024]] [0, 11])
 (.cond (.t 11)
 (.seq (.region [qo 2 .mv [.c (.nilh 2)], qo 3 .mv [qi 0], qo 4 .mv [qi 2]] [2, 3, 4])
 (.ret))
 (.skip)))
 (.seq (.seq (.region [qm 12 0, qo 13 .len [.t 12], qo 14 .mv [qi 0]] [0, 12, 13, 14])
 (.block 0 (.loop (.seq (.region [qo 15 (.bin .lss) [.t 14, .t 13]] [0, 12, 13, 14, 15])
 (.seq (.cond (.t 15)
 (.skip)
 (.exit 0))
 (.seq (.block 1 (.seq (.region [qm 16 14, qo 17 (.indexAddr 5) [.t 12, .t 14], qo 18 (.load 5 true) [.t 17], qo 6 (.alloc [.str [], .int .i64 0, .int .i64 0, .int .i64 0, .int .i64 0]) [], qm 5 16,
qn (.store 5) [.t 6, .t 18] []] [0, 5, 6, 12, 13, 14])
 (.seq (.region [qo 19 (.load 5 true) [.t 6], qo 20 (.call .wr) [qf 206, .t 19], qo 21 .not [.t 20]] [0, 5, 12, 13, 14, 21])
 (.cond (.t 21)
 (.seq (.region [qm 22 5, qo 2 .mv [.c (.nilh 2)], qm 3 22, qo 4 .mv [qi 1]] [2, 3, 4])
 (.ret))
 (.skip)))))
 (.region [qo 23 (.bin .add) [.t 14, qi 1], qm 14 23] [0, 12, 13, 14])))))))
 (.seq (.region [qm 24 0, qo 25 (.build [.int .i64 0, .int .i64 0] []) [], qo 26 (.buildFr 2) [.t 25], qm 27 0, qo 28 .len [.t 27], qo 29 (.makeH 2 16 [.int .i64 0, .int .i64 0]) [.t 28, .t 28],
qt 30 (.build [.sl true 5 [], .nilh 1, .nilh 2, .nilh 2] [(0, 1), (2, 1), (3, 1)]) [.t 24, .t 26, .t 29] [24, 26, 29], qt 31 .box [.t 30] [30], qm 7 31] [0, 7])
 (.seq (.seq (.region [qt 32 .mv [.t 0] [0], qo 33 .len [.t 32], qo 34 .mv [qi 0]] [7, 33, 34])
 (.block 2 (.loop (.seq (.region [qo 35 (.bin .lss) [.t 34, .t 33]] [7, 33, 34, 35])
 (.seq (.cond (.t 35)
 (.skip)
 (.exit 2))
 (.seq (.block 3 (.seq (.region [qm 36 34, qm 8 36] [7, 8, 33, 34])
 (.seq (.region [qm 37 7, qm 38 8, qo 39 (.call .wr) [qf 207, .t 37, .t 38], qo 40 .not [.t 39]] [7, 8, 33, 34, 40])
 (.cond (.t 40)
 (.seq (.region [qm 41 8, qo 2 .mv [.c (.nilh 2)], qm 3 41, qo 4 .mv [qi 50]] [2, 3, 4])
 (.ret))
 (.skip)))))
 (.region [qo 42 (.bin .add) [.t 34, qi 1], qm 34 42] [7, 33, 34])))))))
 (.seq (.block 4 (.loop (.seq (.seq (.region [qm 43 7, qo 44 .nilCheck [.t 43], qo 45 (.fieldAddr 1) [.t 44], qo 46 (.load 1 false) [.t 45], qo 47 .len [.t 46], qo 48 (.bin .gtr) [.t 47, qi 0]] [7, 48])
 (.cond (.t 48)
 (.skip)
 (.exit 4)))
 (.block 5 (.region [qm 49 7, qo 50 (.call .wr) [qf 208, .t 49]] [7])))))
 (.seq (.region [qm 51 7, qo 52 .nilCheck [.t 51], qo 53 (.fieldAddr 3) [.t 52], qo 54 (.load 1 false) [.t 53], qt 2 .mv [.t 54] [54], qo 3 .mv [qi 0], qo 4 .mv [qi 0]] [2, 3, 4])
 (.ret))))))), [.tmp 2, .tmp 3, .tmp 4]⟩
def v_r02_In : VFunc := ⟨17, .seq (.region [qo 4 .mv [qb false]] [0, 1])
 (.seq (.seq (.region [qo 5 .mv [qi 0]] [0, 1, 5])
 (.block 0 (.loop (.seq (.seq (.region [qm 6 5, qm 7 1, qo 8 .lenStr [.t 7], qo 9 (.bin .lss) [.t 6, .t 8]] [0, 1, 5, 9])
 (.cond (.t 9)
 (.skip)
 (.exit 0)))
 (.seq (.block 1 (.seq (.region [qm 12 1, qm 13 5, qo 14 .indexStr [.t 12, .t 13], qm 15 0, qo 16 (.bin .eql) [.t 14, .t 15]] [0, 1, 5, 16])
 (.cond (.t 16)
 (.seq (.region [qo 4 .mv [qb true]] [4])
 (.ret))
 (.skip))))
 (.region [qm 10 5, qo 11 (.bin .add) [.t 10, qi 1], qm 5 11] [0, 1, 5]))))))
 (.seq (.region [qo 4 .mv [qb false]] [4])
 (.ret))), [.tmp 4]⟩
def v_r02_Small : VFunc := ⟨13, .seq (.region [qo 2 .mv [qb false]] [0])
 (.seq (.region [qm 3 0, qo 4 (.bin .geq) [.t 3, .c (.int .u8 97)], qm 5 4, qv 6 0 5 true, qg 7 (.bin .leq) [.t 6, .c (.int .u8 122)] [] 5 true, qo 8 .pick [.t 5, .t 7, qb false], qm 9 8, qv 10 0 9 false,
qg 11 (.bin .eql) [.t 10, .c (.int .u8 95)] [] 9 false, qo 12 .pick [.t 9, qb true, .t 11], qm 2 12] [2])
 (.ret)), [.tmp 2]⟩
def v_r02_Large : VFunc := ⟨9, .seq (.region [qo 2 .mv [qb false]] [0])
 (.seq (.region [qm 3 0, qo 4 (.bin .geq) [.t 3, .c (.int .u8 65)], qm 5 4, qv 6 0 5 true, qg 7 (.bin .leq) [.t 6, .c (.int .u8 90)] [] 5 true, qo 8 .pick [.t 5, .t 7, qb false], qm 2 8] [2])
 (.ret)), [.tmp 2]⟩
def v_r02_Inner : VFunc := ⟨17, .seq (.region [qo 2 .mv [qb false]] [0])
 (.seq (.region [qm 3 0, qo 4 (.call .wr) [qf 172, .t 3], qm 5 4, qv 6 0 5 false, qg 7 (.call .wr) [qf 173, .t 6] [] 5 false, qo 8 .pick [.t 5, qb true, .t 7], qm 9 8, qv 10 0 9 false,
qg 11 (.call .wr) [qf 175, .t 10] [] 9 false, qo 12 .pick [.t 9, qb true, .t 11], qm 13 12, qv 14 0 13 false, qg 15 (.bin .eql) [.t 14, .c (.int .u8 39)] [] 13 false,
qo 16 .pick [.t 13, qb true, .t 15], qm 2 16] [2])
 (.ret)), [.tmp 2]⟩
def v_r02_Digit : VFunc := ⟨9, .seq (.region [qo 2 .mv [qb false]] [0])
 (.seq (.region [qm 3 0, qo 4 (.bin .geq) [.t 3, .c (.int .u8 48)], qm 5 4, qv 6 0 5 true, qg 7 (.bin .leq) [.t 6, .c (.int .u8 57)] [] 5 true, qo 8 .pick [.t 5, .t 7, qb false], qm 2 8] [2])
 (.ret)), [.tmp 2]⟩
def v_r02_Sign : VFunc := ⟨5, .seq (.region [qo 2 .mv [qb false]] [0])
 (.seq (.region [qm 3 0, qo 4 (.call .wr) [qf 171, .t 3, .c (.str [33, 35, 36, 37, 38, 42, 43, 46, 47, 58, 60, 61, 62, 63, 64, 94, 124, 126, 45])], qm 2 4] [2])
 (.ret)), [.tmp 2]⟩
def v_r02_Has : VFunc := ⟨18, .seq (.region [qo 4 .mv [qb false]] [0, 1])
 (.seq (.seq (.region [qo 5 .mv [qi 0]] [0, 1, 5])
 (.block 0 (.loop (.seq (.seq (.region [qm 6 5, qm 7 0, qo 8 .len [.t 7], qo 9 (.bin .lss) [.t 6, .t 8]] [0, 1, 5, 9])
 (.cond (.t 9)
 (.skip)
 (.exit 0)))
 (.seq (.block 1 (.seq (.region [qm 12 0, qm 13 5, qo 14 (.indexAddr 1) [.t 12, .t 13], qo 15 (.load 1 false) [.t 14], qm 16 1, qo 17 (.bin .eql) [.t 15, .t 16]] [0, 1, 5, 17])
 (.cond (.t 17)
 (.seq (.region [qo 4 .mv [qb true]] [4])
 (.ret))
 (.skip))))
 (.region [qm 10 5, qo 11 (.bin .add) [.t 10, qi 1], qm 5 11] [0, 1, 5]))))))
 (.seq (.region [qo 4 .mv [qb false]] [4])
 (.ret))), [.tmp 4]⟩
def v_r02_Words : VFunc := ⟨2, .seq (.region [qo 0 .mv [.c (.sl true 1 [])]] [])
 (.seq (.region [qo 1 (.buildSl 1) [.c (.str [100, 97, 116, 97]), .c (.str [105, 110, 102, 105, 120, 108]), .c (.str [105, 110, 102, 105, 120, 114]), .c (.str [105, 110, 102, 105, 120]), .c (.str [108, 101, 116]), .c (.str [105, 110]), .c (.str [99, 97, 115, 101]), .c (.str [111, 102]), .c (.str [105, 102]), .c (.str [116, 104, 101, 110]), .c (.str [101, 108, 115, 101])],
qt 0 .mv [.t 1] [1]] [0])
 (.ret)), [.tmp 0]⟩
def v_r01_Parse : VFunc := ⟨42, .seq (.region [qo 2 .mv [qi 0], qo 3 .mv [qi 0]] [0])
 (.seq (.region [qm 8 0, qo 9 .lenStr [.t 8], qo 10 (.bin .gtr) [.t 9, qi 0], qm 11 10, qv 12 0 11 true, qg 13 .indexStr [.t 12, qi 0] [] 11 true, qg 14 (.bin .eql) [.t 13, .c (.int .u8 45)] [] 11 true,
qo 15 .pick [.t 11, .t 14, qb false], qm 4 15] [0, 4])
 (.seq (.region [qm 16 0, qm 5 16] [0, 4, 5])
 (.seq (.seq (.region [qm 17 4] [0, 4, 5, 17])
 (.cond (.t 17)
 (.region [qm 18 0, qo 19 (.sliceStr true false) [.t 18, qi 1], qm 5 19] [0, 4, 5])
 (.skip)))
 (.seq (.region [qm 21 5, qo 22 (.call .wr) [qf 209, .t 21], qm 20 22, qo 23 (.extract 0) [.t 20], qo 24 (.extract 1) [.t 20], qm 6 23, qm 7 24] [0, 4, 6, 7])
 (.seq (.seq (.region [qm 25 7, qo 26 .not [.t 25], qm 27 26, qv 28 6 27 false, qg 29 (.bin .gtr) [.t 28, .c (.int .u64 9223372036854775808)] [] 27 false, qo 30 .pick [.t 27, qb true, .t 29], qm 31 30,
qv 32 6 31 false, qv 33 4 31 false, qg 34 (.call .wr) [qf 211, .t 32, .t 33] [] 31 false, qg 35 (.call .wr) [qf 210, .t 34] [] 31 false, qv 36 0 31 false,
qg 37 (.bin .neq) [.t 35, .t 36] [] 31 false, qo 38 .pick [.t 31, qb true, .t 37]] [4, 6, 38])
 (.cond (.t 38)
 (.seq (.region [qo 2 .mv [qi 0], qo 3 .mv [qi 11]] [2, 3])
 (.ret))
 (.skip)))
 (.seq (.region [qm 39 6, qm 40 4, qo 41 (.call .wr) [qf 211, .t 39, .t 40], qm 2 41, qo 3 .mv [qi 0]] [2, 3])
 (.ret))))))), [.tmp 2, .tmp 3]⟩
def v_show_writer_name_1 : VFunc := ⟨6, .region [qo 2 (.load 1 false) [.t 0], qo 3 (.load 1 false) [.t 1], qo 4 (.buildSl 1) [.t 3], qt 5 (.call .wr) [qf 95, .t 2, .t 4] [4]] [], []⟩
def v_show_writer_number_1 : VFunc := ⟨7, .region [qo 2 (.load 1 false) [.t 0], qo 3 (.load 1 false) [.t 1], qo 4 (.call .al) [qf 199, .t 3], qo 5 (.buildSl 1) [.t 4], qt 6 (.call .wr) [qf 95, .t 2, .t 5] [5]] [], []⟩
def v_num_Text : VFunc := ⟨60, .seq (.region [qo 2 .mv [.c (.str [])]] [0])
 (.seq (.region [qm 7 0, qo 8 (.conv .u64) [.t 7], qm 3 8] [0, 3])
 (.seq (.seq (.region [qm 9 0, qo 10 (.bin .lss) [.t 9, qi 0]] [0, 3, 10])
 (.cond (.t 10)
 (.region [qm 11 3, qo 12 .neg [.t 11], qm 3 12] [0, 3])
 (.skip)))
 (.seq (.region [qo 4 .mv [.c (.nilh 1)]] [0, 3, 4])
 (.seq (.block 0 (.loop (.seq (.seq (.region [qm 13 3, qo 14 (.bin .gtr) [.t 13, .c (.int .u64 0)], qm 15 14, qv 16 4 15 false, qg 17 .len [.t 16] [] 15 false, qg 18 (.bin .eql) [.t 17, qi 0] [] 15 false,
qo 19 .pick [.t 15, qb true, .t 18]] [0, 3, 4, 19])
 (.cond (.t 19)
 (.skip)
 (.exit 0)))
 (.block 1 (.seq (.region [qt 20 .mv [.t 4] [4], qm 21 3, qo 22 (.bin .rem) [.t 21, .c (.int .u64 10)], qo 23 (.bin .add) [.c (.int .u64 48), .t 22], qo 24 (.conv .u8) [.t 23], qo 25 (.buildSl 1) [.t 24],
qo 26 (.appendH 1 1) [.t 20, .t 25], qt 4 .thaw [.t 26] [26]] [0, 3, 4])
 (.region [qm 27 3, qo 28 (.bin .quo) [.t 27, .c (.int .u64 10)], qm 3 28] [0, 3, 4]))))))
 (.seq (.seq (.region [qm 29 0, qo 30 (.bin .lss) [.t 29, qi 0]] [4, 30])
 (.cond (.t 30)
 (.region [qt 31 .mv [.t 4] [4], qo 32 (.buildSl 1) [.c (.int .u8 45)], qo 33 (.appendH 1 1) [.t 31, .t 32], qt 4 .thaw [.t 33] [33]] [4])
 (.skip)))
 (.seq (.seq (.region [qm 34 4, qo 35 .len [.t 34], qo 36 (.bin .sub) [.t 35, qi 1], qo 5 .mv [qi 0], qm 6 36] [4, 5, 6])
 (.block 2 (.loop (.seq (.seq (.region [qm 37 5, qm 38 6, qo 39 (.bin .lss) [.t 37, .t 38]] [4, 5, 6, 39])
 (.cond (.t 39)
 (.skip)
 (.exit 2)))
 (.seq (.block 3 (.region [qm 44 4, qm 45 5, qm 46 4, qm 47 6, qm 48 4, qm 49 6, qo 50 (.indexAddr 1) [.t 48, .t 49], qo 51 (.load 1 false) [.t 50], qm 52 4, qm 53 5, qo 54 (.indexAddr 1) [.t 52, .t 53],
qo 55 (.load 1 false) [.t 54], qo 56 (.indexAddr 1) [.t 44, .t 45], qn (.store 1) [.t 56, .t 51] [], qo 57 (.indexAddr 1) [.t 46, .t 47], qn (.store 1) [.t 57, .t 55] []] [4, 5, 6]))
 (.region [qm 40 5, qo 41 (.bin .add) [.t 40, qi 1], qm 42 6, qo 43 (.bin .sub) [.t 42, qi 1], qm 5 41, qm 6 43] [4, 5, 6]))))))
 (.seq (.region [qt 58 .mv [.t 4] [4], qo 59 .toStr [.t 58], qm 2 59] [2])
 (.ret)))))))), [.tmp 2]⟩
def v_show_writer_pats_1 : VFunc := ⟨5, .region [qo 2 (.load 1 false) [.t 0], qo 3 (.load 6 true) [.t 1], qt 4 (.call .wr) [qf 102, .t 2, .t 3] [3]] [], []⟩
def v_lex_Word : VFunc := ⟨16, .seq (.region [qo 2 .mv [qb false]] [0])
 (.seq (.seq (.region [qm 3 0] [3])
 (.block 0 (.seq (.seq (.region [qo 5 (.bin .eql) [.t 3, .c (.str [100, 97, 116, 97])], qm 4 5] [3, 4])
 (.cond (.t 4)
 (.skip)
 (.seq (.region [qo 6 (.bin .eql) [.t 3, .c (.str [105, 110, 102, 105, 120, 108])], qm 4 6] [3, 4])
 (.cond (.t 4)
 (.skip)
 (.seq (.region [qo 7 (.bin .eql) [.t 3, .c (.str [105, 110, 102, 105, 120, 114])], qm 4 7] [3, 4])
 (.cond (.t 4)
 (.skip)
 (.seq (.region [qo 8 (.bin .eql) [.t 3, .c (.str [105, 110, 102, 105, 120])], qm 4 8] [3, 4])
 (.cond (.t 4)
 (.skip)
 (.seq (.region [qo 9 (.bin .eql) [.t 3, .c (.str [108, 101, 116])], qm 4 9] [3, 4])
 (.cond (.t 4)
 (.skip)
 (.seq (.region [qo 10 (.bin .eql) [.t 3, .c (.str [105, 110])], qm 4 10] [3, 4])
 (.cond (.t 4)
 (.skip)
 (.seq (.region [qo 11 (.bin .eql) [.t 3, .c (.str [99, 97, 115, 101])], qm 4 11] [3, 4])
 (.cond (.t 4)
 (.skip)
 (.seq (.region [qo 12 (.bin .eql) [.t 3, .c (.str [111, 102])], qm 4 12] [3, 4])
 (.cond (.t 4)
 (.skip)
 (.seq (.region [qo 13 (.bin .eql) [.t 3, .c (.str [105, 102])], qm 4 13] [3, 4])
 (.cond (.t 4)
 (.skip)
 (.seq (.region [qo 14 (.bin .eql) [.t 3, .c (.str [116, 104, 101, 110])], qm 4 14] [3, 4])
 (.cond (.t 4)
 (.skip)
 (.region [qo 15 (.bin .eql) [.t 3, .c (.str [101, 108, 115, 101])], qm 4 15] [4])))))))))))))))))))))
 (.cond (.t 4)
 (.seq (.region [qo 2 .mv [qb true]] [2])
 (.ret))
 (.skip)))))
 (.seq (.region [qo 2 .mv [qb false]] [2])
 (.ret))), [.tmp 2]⟩
def v_num_Parse : VFunc := ⟨79, .seq (.region [qo 2 .mv [qi 0], qo 3 .mv [qi 0]] [0])
 (.scope (.seq (.region [qm 10 0, qm 4 10] [0, 4])
 (.seq (.region [qm 11 0, qo 12 .lenStr [.t 11], qo 13 (.bin .gtr) [.t 12, qi 0], qm 14 13, qv 15 0 14 true, qg 16 .indexStr [.t 15, qi 0] [] 14 true, qg 17 (.bin .eql) [.t 16, .c (.int .u8 45)] [] 14 true,
qo 18 .pick [.t 14, .t 17, qb false], qm 5 18] [0, 4, 5])
 (.seq (.seq (.region [qm 19 5] [0, 4, 5, 19])
 (.cond (.t 19)
 (.region [qm 20 0, qo 21 (.sliceStr true false) [.t 20, qi 1], qm 4 21] [0, 4, 5])
 (.skip)))
 (.seq (.seq (.region [qm 22 4, qo 23 (.bin .eql) [.t 22, .c (.str [])], qm 24 23, qv 25 4 24 false, qg 26 .lenStr [.t 25] [] 24 false, qg 27 (.bin .gtr) [.t 26, qi 19] [] 24 false,
qo 28 .pick [.t 24, qb true, .t 27], qm 29 28, qv 30 4 29 false, qg 31 .indexStr [.t 30, qi 0] [] 29 false, qg 32 (.bin .eql) [.t 31, .c (.int .u8 48)] [] 29 false, qv 33 32 29 false,
qv 34 0 33 true, qg 35 .lenStr [.t 34] [] 33 true, qg 36 (.bin .gtr) [.t 35, qi 1] [] 33 true, qg 37 .pick [.t 33, .t 36, qb false] [] 29 false, qo 38 .pick [.t 29, qb true, .t 37]] [4, 5, 38])
 (.cond (.t 38)
 (.seq (.region [qo 2 .mv [qi 0], qo 3 .mv [qi 11]] [2, 3])
 (.ret))
 (.skip)))
 (.seq (.region [qo 6 .mv [.c (.int .u64 0)]] [4, 5, 6])
 (.seq (.region [qo 7 .mv [qb true]] [4, 5, 6, 7])
 (.seq (.label)
 (.seq (.seq (.region [qo 8 .mv [qi 0]] [4, 5, 6, 7, 8])
 (.block 0 (.loop (.seq (.seq (.region [qm 39 8, qm 40 4, qo 41 .lenStr [.t 40], qo 42 (.bin .lss) [.t 39, .t 41]] [4, 5, 6, 7, 8, 42])
 (.cond (.t 42)
 (.skip)
 (.exit 0)))
 (.seq (.block 1 (.seq (.region [qm 45 4, qm 46 8, qo 47 .indexStr [.t 45, .t 46], qm 9 47] [4, 5, 6, 7, 8, 9])
 (.seq (.seq (.region [qm 48 9, qo 49 (.bin .lss) [.t 48, .c (.int .u8 48)], qm 50 49, qv 51 9 50 false, qg 52 (.bin .gtr) [.t 51, .c (.int .u8 57)] [] 50 false, qo 53 .pick [.t 50, qb true, .t 52]] [4, 5, 6, 7, 8, 9, 53])
 (.cond (.t 53)
 (.seq (.region [qo 7 .mv [qb false]] [5, 6, 7])
 (.exit 0))
 (.skip)))
 (.region [qm 54 6, qo 55 (.bin .mul) [.t 54, .c (.int .u64 10)], qm 56 9, qo 57 (.bin .sub) [.t 56, .c (.int .u8 48)], qo 58 (.conv .u64) [.t 57], qo 59 (.bin .add) [.t 55, .t 58], qm 6 59] [4, 5, 6, 7, 8]))))
 (.region [qm 43 8, qo 44 (.bin .add) [.t 43, qi 1], qm 8 44] [4, 5, 6, 7, 8]))))))
 (.seq (.seq (.region [qm 60 7, qo 61 .not [.t 60], qm 62 61, qv 63 6 62 false, qg 64 (.bin .gtr) [.t 63, .c (.int .u64 9223372036854775808)] [] 62 false, qo 65 .pick [.t 62, qb true, .t 64], qm 66 65,
qv 67 6 66 false, qg 68 (.bin .eql) [.t 67, .c (.int .u64 9223372036854775808)] [] 66 false, qv 69 68 66 false, qv 70 5 69 true, qg 71 .not [.t 70] [] 69 true,
qg 72 .pick [.t 69, .t 71, qb false] [] 66 false, qo 73 .pick [.t 66, qb true, .t 72]] [5, 6, 73])
 (.cond (.t 73)
 (.seq (.region [qo 2 .mv [qi 0], qo 3 .mv [qi 11]] [2, 3])
 (.ret))
 (.skip)))
 (.seq (.seq (.region [qm 74 5] [6, 74])
 (.cond (.t 74)
 (.region [qm 75 6, qo 76 .neg [.t 75], qm 6 76] [6])
 (.skip)))
 (.seq (.region [qm 77 6, qo 78 (.conv .i64) [.t 77], qm 2 78, qo 3 .mv [qi 0]] [2, 3])
 (.ret))))))))))))), [.tmp 2, .tmp 3]⟩
def v_parse_parser_minus : VFunc := ⟨10, .seq (.seq (.region [qm 2 0, qo 3 (.call .wr) [qf 113, .t 2], qo 4 (.field 1 1 false) [.t 3], qo 5 (.bin .eql) [.t 4, .c (.str [45])]] [0, 5])
 (.cond (.t 5)
 (.region [qm 6 0, qo 7 (.call .wr) [qf 77, .t 6]] [0])
 (.skip)))
 (.region [qm 8 0, qo 9 (.call .wr) [qf 76, .t 8, qi 60]] []), []⟩
def v_fix_Default : VFunc := ⟨27, .seq (.region [qo 2 (.alloc [.str [], .int .i64 0, .int .i64 0, .int .i64 0, .int .i64 0]) []] [0, 2])
 (.seq (.region [qm 5 0, qo 6 (.build [.str [], .int .i64 0, .int .i64 0, .int .i64 0, .int .i64 0] [(0, 1), (1, 1), (2, 1)]) [.t 5, qi 1, qi 9],
qo 3 (.alloc [.str [], .int .i64 0, .int .i64 0, .int .i64 0, .int .i64 0]) [], qn (.store 5) [.t 3, .t 6] []] [0, 2, 3])
 (.seq (.seq (.region [qm 7 0, qo 8 (.call .wr) [qf 223, .t 7], qm 4 8] [0, 2, 3, 4])
 (.block 0 (.seq (.region [qm 10 4, qo 11 (.call .wr) [qf 224, .t 10], qm 9 11] [0, 2, 3, 4, 9])
 (.cond (.t 9)
 (.region [qo 12 (.fieldAddr 1) [.t 3], qn (.store 1) [.t 12, qi 0] [], qo 13 (.fieldAddr 2) [.t 3], qn (.store 1) [.t 13, qi 4] []] [2, 3])
 (.seq (.region [qm 15 0, qo 16 (.bin .eql) [.t 15, .c (.str [43])], qm 17 16, qv 18 0 17 false, qg 19 (.bin .eql) [.t 18, .c (.str [45])] [] 17 false, qo 20 .pick [.t 17, qb true, .t 19], qm 14 20] [2, 3, 4, 14])
 (.cond (.t 14)
 (.region [qo 21 (.fieldAddr 2) [.t 3], qn (.store 1) [.t 21, qi 6] []] [2, 3])
 (.seq (.region [qm 23 4, qo 24 (.bin .gtr) [.t 23, qi 0], qm 22 24] [2, 3, 22])
 (.cond (.t 22)
 (.region [qo 25 (.fieldAddr 2) [.t 3], qn (.store 1) [.t 25, qi 7] []] [2, 3])
 (.skip)))))))))
 (.seq (.region [qo 26 (.load 5 true) [.t 3], qn (.store 5) [.t 2, .t 26] []] [2])
 (.ret)))), [.cell 2 5 true]⟩
def v_fix_right : VFunc := ⟨21, .seq (.region [qo 1 .box [.t 0], qo 2 .mv [qb false]] [1])
 (.seq (.region [qo 3 (.fieldAddr 1) [.t 1], qo 4 (.load 1 false) [.t 3], qo 5 (.bin .geq) [.t 4, qi 0], qm 6 5, qg 7 (.fieldAddr 1) [.t 1] [] 6 true, qg 8 (.load 1 false) [.t 7] [] 6 true,
qg 9 (.bin .leq) [.t 8, qi 2] [] 6 true, qo 10 .pick [.t 6, .t 9, qb false], qm 11 10, qg 12 (.fieldAddr 2) [.t 1] [] 11 true, qg 13 (.load 1 false) [.t 12] [] 11 true,
qg 14 (.bin .geq) [.t 13, qi 0] [] 11 true, qo 15 .pick [.t 11, .t 14, qb false], qm 16 15, qg 17 (.fieldAddr 2) [.t 1] [] 16 true, qg 18 (.load 1 false) [.t 17] [] 16 true,
qg 19 (.bin .leq) [.t 18, qi 9] [] 16 true, qo 20 .pick [.t 16, .t 19, qb false], qm 2 20] [2])
 (.ret)), [.tmp 2]⟩
def v_fix_grouping_takes : VFunc := ⟨96, .seq (.region [qo 4 .mv [qb false]] [0, 1])
 (.scope (.seq (.region [qm 7 0, qo 8 .nilCheck [.t 7], qo 9 (.fieldAddr 0) [.t 8], qo 10 (.load 1 false) [.t 9], qm 11 1, qo 12 (.indexAddr 5) [.t 10, .t 11], qo 13 (.load 5 true) [.t 12],
qo 5 (.alloc [.str [], .int .i64 0, .int .i64 0, .int .i64 0, .int .i64 0]) [], qn (.store 5) [.t 5, .t 13] []] [0, 1, 5])
 (.seq (.label)
 (.seq (.block 0 (.loop (.seq (.seq (.region [qm 14 0, qo 15 .nilCheck [.t 14], qo 16 (.fieldAddr 1) [.t 15], qo 17 (.load 1 false) [.t 16], qo 18 .len [.t 17], qo 19 (.bin .gtr) [.t 18, qi 0]] [0, 1, 5, 19])
 (.cond (.t 19)
 (.skip)
 (.exit 0)))
 (.block 1 (.seq (.region [qm 20 0, qo 21 .nilCheck [.t 20], qo 22 (.fieldAddr 0) [.t 21], qo 23 (.load 1 false) [.t 22], qm 24 0, qo 25 .nilCheck [.t 24], qo 26 (.fieldAddr 1) [.t 25], qo 27 (.load 1 false) [.t 26],
qm 28 0, qo 29 .nilCheck [.t 28], qo 30 (.fieldAddr 1) [.t 29], qo 31 (.load 1 false) [.t 30], qo 32 .len [.t 31], qo 33 (.bin .sub) [.t 32, qi 1], qo 34 (.indexAddr 1) [.t 27, .t 33],
qo 35 (.load 1 false) [.t 34], qo 36 (.indexAddr 5) [.t 23, .t 35], qo 37 (.load 5 true) [.t 36], qo 6 (.alloc [.str [], .int .i64 0, .int .i64 0, .int .i64 0, .int .i64 0]) [],
qn (.store 5) [.t 6, .t 37] []] [0, 1, 5, 6])
 (.block 2 (.seq (.region [qo 39 (.fieldAddr 2) [.t 6], qo 40 (.load 1 false) [.t 39], qo 41 (.fieldAddr 2) [.t 5], qo 42 (.load 1 false) [.t 41], qo 43 (.bin .gtr) [.t 40, .t 42], qm 38 43] [0, 1, 5, 6, 38])
 (.cond (.t 38)
 (.region [qm 44 0, qo 45 (.call .wr) [qf 208, .t 44]] [0, 1, 5])
 (.seq (.region [qo 47 (.fieldAddr 2) [.t 6], qo 48 (.load 1 false) [.t 47], qo 49 (.fieldAddr 2) [.t 5], qo 50 (.load 1 false) [.t 49], qo 51 (.bin .lss) [.t 48, .t 50], qm 46 51] [0, 1, 5, 6, 46])
 (.cond (.t 46)
 (.exit 0)
 (.seq (.region [qo 53 (.fieldAddr 1) [.t 6], qo 54 (.load 1 false) [.t 53], qo 55 (.bin .eql) [.t 54, qi 1], qm 56 55, qg 57 (.fieldAddr 1) [.t 5] [] 56 true, qg 58 (.load 1 false) [.t 57] [] 56 true,
qg 59 (.bin .eql) [.t 58, qi 1] [] 56 true, qo 60 .pick [.t 56, .t 59, qb false], qm 52 60] [0, 1, 5, 6, 52])
 (.cond (.t 52)
 (.region [qm 61 0, qo 62 (.call .wr) [qf 208, .t 61]] [0, 1, 5])
 (.seq (.region [qo 64 (.fieldAddr 1) [.t 6], qo 65 (.load 1 false) [.t 64], qo 66 (.bin .eql) [.t 65, qi 2], qm 67 66, qg 68 (.fieldAddr 1) [.t 5] [] 67 true, qg 69 (.load 1 false) [.t 68] [] 67 true,
qg 70 (.bin .eql) [.t 69, qi 2] [] 67 true, qo 71 .pick [.t 67, .t 70, qb false], qm 63 71] [0, 1, 63])
 (.cond (.t 63)
 (.exit 0)
 (.seq (.region [qo 4 .mv [qb false]] [4])
 (.ret))))))))))))))))
 (.seq (.region [qm 72 0, qm 73 0, qo 74 .nilCheck [.t 73], qo 75 (.fieldAddr 1) [.t 74], qo 76 (.load 1 false) [.t 75], qm 77 1, qo 78 (.buildSl 1) [.t 77], qo 79 (.appendH 1 8) [.t 76, .t 78],
qo 80 .nilCheck [.t 72], qo 81 (.fieldAddr 1) [.t 80], qn (.store 1) [.t 81, .t 79] [79]] [0, 1])
 (.seq (.region [qm 82 0, qm 83 0, qo 84 .nilCheck [.t 83], qo 85 (.fieldAddr 2) [.t 84], qo 86 (.load 1 false) [.t 85], qm 87 1, qo 88 (.bin .add) [.t 87, qi 1], qm 89 1, qo 90 (.bin .add) [.t 89, qi 1],
qo 91 (.build [.int .i64 0, .int .i64 0] [(0, 1), (1, 1)]) [.t 88, .t 90], qo 92 (.buildSl 2) [.t 91], qo 93 (.appendH 2 16) [.t 86, .t 92], qo 94 .nilCheck [.t 82],
qo 95 (.fieldAddr 2) [.t 94], qn (.store 1) [.t 95, .t 93] [93]] [])
 (.seq (.region [qo 4 .mv [qb true]] [4])
 (.ret)))))))), [.tmp 4]⟩
def v_fix_grouping_reduce : VFunc := ⟨75, .seq (.region [qm 5 0, qo 6 .nilCheck [.t 5], qo 7 (.fieldAddr 1) [.t 6], qo 8 (.load 1 false) [.t 7], qm 9 0, qo 10 .nilCheck [.t 9], qo 11 (.fieldAddr 1) [.t 10], qo 12 (.load 1 false) [.t 11],
qo 13 .len [.t 12], qo 14 (.bin .sub) [.t 13, qi 1], qo 15 (.indexAddr 1) [.t 8, .t 14], qo 16 (.load 1 false) [.t 15], qm 2 16] [0, 2])
 (.seq (.region [qm 17 0, qm 18 0, qo 19 .nilCheck [.t 18], qo 20 (.fieldAddr 1) [.t 19], qo 21 (.load 1 false) [.t 20], qm 22 0, qo 23 .nilCheck [.t 22], qo 24 (.fieldAddr 1) [.t 23],
qo 25 (.load 1 false) [.t 24], qo 26 .len [.t 25], qo 27 (.bin .sub) [.t 26, qi 1], qo 28 (.slice false true 1) [.t 21, .t 27], qo 29 .nilCheck [.t 17], qo 30 (.fieldAddr 1) [.t 29],
qn (.store 1) [.t 30, .t 28] [28]] [0, 2])
 (.seq (.region [qm 31 0, qo 32 .nilCheck [.t 31], qo 33 (.fieldAddr 2) [.t 32], qo 34 (.load 1 false) [.t 33], qo 35 .len [.t 34], qm 3 35] [0, 2, 3])
 (.seq (.region [qm 36 0, qo 37 .nilCheck [.t 36], qo 38 (.fieldAddr 2) [.t 37], qo 39 (.load 1 false) [.t 38], qm 40 3, qo 41 (.bin .sub) [.t 40, qi 2], qo 42 (.indexAddr 2) [.t 39, .t 41],
qo 43 (.fieldAddr 0) [.t 42], qo 44 (.load 1 false) [.t 43], qm 45 0, qo 46 .nilCheck [.t 45], qo 47 (.fieldAddr 2) [.t 46], qo 48 (.load 1 false) [.t 47], qm 49 3,
qo 50 (.bin .sub) [.t 49, qi 1], qo 51 (.indexAddr 2) [.t 48, .t 50], qo 52 (.fieldAddr 1) [.t 51], qo 53 (.load 1 false) [.t 52],
qo 54 (.build [.int .i64 0, .int .i64 0] [(0, 1), (1, 1)]) [.t 44, .t 53], qo 4 (.alloc [.int .i64 0, .int .i64 0]) [], qn (.store 2) [.t 4, .t 54] []] [0, 2, 3, 4])
 (.seq (.region [qm 55 0, qm 56 0, qo 57 .nilCheck [.t 56], qo 58 (.fieldAddr 2) [.t 57], qo 59 (.load 1 false) [.t 58], qm 60 3, qo 61 (.bin .sub) [.t 60, qi 2], qo 62 (.slice false true 2) [.t 59, .t 61],
qo 63 (.load 2 true) [.t 4], qo 64 (.buildSl 2) [.t 63], qo 65 (.appendH 2 16) [.t 62, .t 64], qo 66 .nilCheck [.t 55], qo 67 (.fieldAddr 2) [.t 66], qn (.store 1) [.t 67, .t 65] [65]] [0, 2, 4])
 (.region [qm 68 0, qo 69 .nilCheck [.t 68], qo 70 (.fieldAddr 3) [.t 69], qo 71 (.load 1 false) [.t 70], qm 72 2, qo 73 (.load 2 true) [.t 4], qo 74 (.indexAddr 2) [.t 71, .t 72],
qn (.store 2) [.t 74, .t 73] []] []))))), []⟩
def v_r01_plain : VFunc := ⟨39, .seq (.region [qo 2 .mv [.c (.int .u64 0)], qo 3 .mv [qb false]] [0])
 (.seq (.seq (.region [qm 6 0, qo 7 .lenStr [.t 6], qo 8 (.bin .eql) [.t 7, qi 0], qm 9 8, qv 10 0 9 false, qg 11 .lenStr [.t 10] [] 9 false, qg 12 (.bin .gtr) [.t 11, qi 19] [] 9 false,
qo 13 .pick [.t 9, qb true, .t 12]] [0, 13])
 (.cond (.t 13)
 (.seq (.region [qo 2 .mv [.c (.int .u64 0)], qo 3 .mv [qb false]] [2, 3])
 (.ret))
 (.skip)))
 (.seq (.region [qo 4 .mv [.c (.int .u64 0)]] [0, 4])
 (.seq (.seq (.region [qo 5 .mv [qi 0]] [0, 4, 5])
 (.block 0 (.loop (.seq (.seq (.region [qm 14 5, qm 15 0, qo 16 .lenStr [.t 15], qo 17 (.bin .lss) [.t 14, .t 16]] [0, 4, 5, 17])
 (.cond (.t 17)
 (.skip)
 (.exit 0)))
 (.seq (.block 1 (.seq (.seq (.region [qm 20 0, qm 21 5, qo 22 .indexStr [.t 20, .t 21], qo 23 (.bin .lss) [.t 22, .c (.int .u8 48)], qm 24 23, qv 25 0 24 false, qv 26 5 24 false, qg 27 .indexStr [.t 25, .t 26] [] 24 false,
qg 28 (.bin .gtr) [.t 27, .c (.int .u8 57)] [] 24 false, qo 29 .pick [.t 24, qb true, .t 28]] [0, 4, 5, 29])
 (.cond (.t 29)
 (.seq (.region [qo 2 .mv [.c (.int .u64 0)], qo 3 .mv [qb false]] [2, 3])
 (.ret))
 (.skip)))
 (.region [qm 30 4, qo 31 (.bin .mul) [.t 30, .c (.int .u64 10)], qm 32 0, qm 33 5, qo 34 .indexStr [.t 32, .t 33], qo 35 (.bin .sub) [.t 34, .c (.int .u8 48)], qo 36 (.conv .u64) [.t 35],
qo 37 (.bin .add) [.t 31, .t 36], qm 4 37] [0, 4, 5])))
 (.region [qm 18 5, qo 19 (.bin .add) [.t 18, qi 1], qm 5 19] [0, 4, 5]))))))
 (.seq (.region [qm 38 4, qm 2 38, qo 3 .mv [qb true]] [2, 3])
 (.ret))))), [.tmp 2, .tmp 3]⟩
def v_r01_Text : VFunc := ⟨12, .seq (.region [qo 2 .mv [.c (.str [])]] [0])
 (.seq (.seq (.region [qm 3 0, qo 4 (.bin .lss) [.t 3, qi 0]] [0, 4])
 (.cond (.t 4)
 (.seq (.region [qm 5 0, qo 6 (.call .wr) [qf 34, .t 5], qo 7 (.call .wr) [qf 225, .t 6], qo 8 (.bin .add) [.c (.str [45]), .t 7], qm 2 8] [2])
 (.ret))
 (.skip)))
 (.seq (.region [qm 9 0, qo 10 (.call .wr) [qf 34, .t 9], qo 11 (.call .wr) [qf 225, .t 10], qm 2 11] [2])
 (.ret))), [.tmp 2]⟩
def v_r01_signed : VFunc := ⟨11, .seq (.region [qo 4 .mv [qi 0]] [0, 1])
 (.seq (.seq (.region [qm 5 1] [0, 5])
 (.cond (.t 5)
 (.seq (.region [qm 6 0, qo 7 (.bin .sub) [.c (.int .u64 0), .t 6], qo 8 (.conv .i64) [.t 7], qm 4 8] [4])
 (.ret))
 (.skip)))
 (.seq (.region [qm 9 0, qo 10 (.conv .i64) [.t 9], qm 4 10] [4])
 (.ret))), [.tmp 4]⟩
def v_num_Op : VFunc := ⟨15, .seq (.region [qo 2 .mv [qi 0]] [0])
 (.seq (.seq (.region [qm 4 0, qo 5 (.bin .eql) [.t 4, .c (.str [])]] [0, 5])
 (.cond (.t 5)
 (.seq (.region [qo 2 .mv [qi 0]] [2])
 (.ret))
 (.skip)))
 (.seq (.seq (.region [qo 3 .mv [qi 1]] [0, 3])
 (.block 0 (.loop (.seq (.seq (.region [qm 6 3, qo 7 (.bin .leq) [.t 6, qi 11]] [0, 3, 7])
 (.cond (.t 7)
 (.skip)
 (.exit 0)))
 (.seq (.block 1 (.seq (.region [qm 10 3, qo 11 (.call .wr) [qf 227, .t 10], qm 12 0, qo 13 (.bin .eql) [.t 11, .t 12]] [0, 3, 13])
 (.cond (.t 13)
 (.seq (.region [qm 14 3, qm 2 14] [2])
 (.ret))
 (.skip))))
 (.region [qm 8 3, qo 9 (.bin .add) [.t 8, qi 1], qm 3 9] [0, 3]))))))
 (.seq (.region [qo 2 .mv [qi 0]] [2])
 (.ret)))), [.tmp 2]⟩
def v_num_Rel : VFunc := ⟨9, .seq (.region [qo 2 .mv [qb false]] [0])
 (.seq (.region [qm 3 0, qo 4 (.bin .geq) [.t 3, qi 6], qm 5 4, qv 6 0 5 true, qg 7 (.bin .leq) [.t 6, qi 11] [] 5 true, qo 8 .pick [.t 5, .t 7, qb false], qm 2 8] [2])
 (.ret)), [.tmp 2]⟩
def v_r01_Digits : VFunc := ⟨19, .seq (.region [qo 2 .mv [.c (.str [])]] [0])
 (.seq (.seq (.region [qm 3 0, qo 4 (.bin .lss) [.t 3, .c (.int .u64 10)]] [0, 4])
 (.cond (.t 4)
 (.seq (.region [qm 5 0, qm 6 0, qo 7 (.bin .add) [.t 6, .c (.int .u64 1)], qo 8 (.sliceStr true true) [.c (.str [48, 49, 50, 51, 52, 53, 54, 55, 56, 57]), .t 5, .t 7], qm 2 8] [2])
 (.ret))
 (.skip)))
 (.seq (.region [qm 9 0, qo 10 (.bin .quo) [.t 9, .c (.int .u64 10)], qo 11 (.call .wr) [qf 225, .t 10], qm 12 0, qo 13 (.bin .rem) [.t 12, .c (.int .u64 10)], qm 14 0,
qo 15 (.bin .rem) [.t 14, .c (.int .u64 10)], qo 16 (.bin .add) [.t 15, .c (.int .u64 1)], qo 17 (.sliceStr true true) [.c (.str [48, 49, 50, 51, 52, 53, 54, 55, 56, 57]), .t 13, .t 16],
qo 18 (.bin .add) [.t 11, .t 17], qm 2 18] [2])
 (.ret))), [.tmp 2]⟩
def v_num_Name : VFunc := ⟨26, .seq (.region [qo 2 .mv [.c (.str [])]] [0])
 (.seq (.seq (.region [qm 3 0] [3])
 (.block 0 (.seq (.region [qo 5 (.bin .eql) [.t 3, qi 1], qm 4 5] [3, 4])
 (.cond (.t 4)
 (.seq (.region [qo 2 .mv [.c (.str [43])]] [2])
 (.ret))
 (.seq (.region [qo 7 (.bin .eql) [.t 3, qi 2], qm 6 7] [3, 6])
 (.cond (.t 6)
 (.seq (.region [qo 2 .mv [.c (.str [45])]] [2])
 (.ret))
 (.seq (.region [qo 9 (.bin .eql) [.t 3, qi 3], qm 8 9] [3, 8])
 (.cond (.t 8)
 (.seq (.region [qo 2 .mv [.c (.str [42])]] [2])
 (.ret))
 (.seq (.region [qo 11 (.bin .eql) [.t 3, qi 4], qm 10 11] [3, 10])
 (.cond (.t 10)
 (.seq (.region [qo 2 .mv [.c (.str [47])]] [2])
 (.ret))
 (.seq (.region [qo 13 (.bin .eql) [.t 3, qi 5], qm 12 13] [3, 12])
 (.cond (.t 12)
 (.seq (.region [qo 2 .mv [.c (.str [37])]] [2])
 (.ret))
 (.seq (.region [qo 15 (.bin .eql) [.t 3, qi 6], qm 14 15] [3, 14])
 (.cond (.t 14)
 (.seq (.region [qo 2 .mv [.c (.str [61, 61])]] [2])
 (.ret))
 (.seq (.region [qo 17 (.bin .eql) [.t 3, qi 7], qm 16 17] [3, 16])
 (.cond (.t 16)
 (.seq (.region [qo 2 .mv [.c (.str [47, 61])]] [2])
 (.ret))
 (.seq (.region [qo 19 (.bin .eql) [.t 3, qi 8], qm 18 19] [3, 18])
 (.cond (.t 18)
 (.seq (.region [qo 2 .mv [.c (.str [60])]] [2])
 (.ret))
 (.seq (.region [qo 21 (.bin .eql) [.t 3, qi 9], qm 20 21] [3, 20])
 (.cond (.t 20)
 (.seq (.region [qo 2 .mv [.c (.str [60, 61])]] [2])
 (.ret))
 (.seq (.region [qo 23 (.bin .eql) [.t 3, qi 10], qm 22 23] [3, 22])
 (.cond (.t 22)
 (.seq (.region [qo 2 .mv [.c (.str [62])]] [2])
 (.ret))
 (.seq (.region [qo 25 (.bin .eql) [.t 3, qi 11], qm 24 25] [24])
 (.cond (.t 24)
 (.seq (.region [qo 2 .mv [.c (.str [62, 61])]] [2])
 (.ret))
 (.skip)))))))))))))))))))))))))
 (.seq (.region [qo 2 .mv [.c (.str [])]] [2])
 (.ret))), [.tmp 2]⟩

def tab : List Entry := [⟨3, v_l19_TermOf, false⟩,
⟨7, v_l19_TermTells, false⟩,
⟨8, v_term_Of, false⟩,
⟨9, v_r19_Of, false⟩,
⟨10, v_r14_SameTerm, false⟩,
⟨11, v_l19_known, false⟩,
⟨12, v_term_Read, false⟩,
⟨14, v_l19_small, false⟩,
⟨15, v_term_Expr, false⟩,
⟨16, v_r19_Right, false⟩,
⟨17, v_term_Text, false⟩,
⟨18, v_term_Right, false⟩,
⟨19, v_term_Size, false⟩,
⟨20, v_r19_Size, false⟩,
⟨21, v_r06_SameExpr, false⟩,
⟨22, v_r19_Expr, false⟩,
⟨23, v_term_Same, false⟩,
⟨24, v_show_RightExpr, false⟩,
⟨25, v_term_of, false⟩,
⟨26, v_r07_RightExpr, false⟩,
⟨27, v_parse_Expr, false⟩,
⟨29, v_r19_Wide, false⟩,
⟨30, v_term_expr, false⟩,
⟨31, v_r07_Is, false⟩,
⟨32, v_show_Expr, false⟩,
⟨33, v_term_size, false⟩,
⟨34, v_r01_Size, false⟩,
⟨35, v_r06_SamePats, false⟩,
⟨36, v_r06_SameRhs, false⟩,
⟨37, v_r06_SameExprs, false⟩,
⟨38, v_r06_SameBinds, false⟩,
⟨39, v_show_all_api_Expr_, false⟩,
⟨40, v_show_variable, false⟩,
⟨41, v_show_is, false⟩,
⟨42, v_show_all_string_, false⟩,
⟨43, v_show_param, false⟩,
⟨44, v_show_rightBinds, false⟩,
⟨45, v_show_all_api_Alt_, false⟩,
⟨46, v_show_rightAlt, false⟩,
⟨47, v_r07_rightExprs, false⟩,
⟨48, v_r07_has, false⟩,
⟨49, v_r07_Named, false⟩,
⟨50, v_r07_rightBinds, false⟩,
⟨51, v_r07_RightPat, false⟩,
⟨52, v_r07_rightRhs, false⟩,
⟨53, v_parse_begin, true⟩,
⟨54, v_parse_parser_text, false⟩,
⟨55, v_parse_parser_expr, false⟩,
⟨56, v_parse_parser_ends, false⟩,
⟨57, v_parse_grower_expr, false⟩,
⟨64, v_r02_One, false⟩,
⟨65, v_show_writer_expr, false⟩,
⟨67, v_term_magnitude, false⟩,
⟨68, v_lex_One, false⟩,
⟨69, v_show_all_api_Pat_, false⟩,
⟨70, v_show_RightPat, false⟩,
⟨71, v_show_rightRhs, false⟩,
⟨72, v_r07_RightPats, false⟩,
⟨73, v_lex_Tokens, false⟩,
⟨74, v_layout_Lay, false⟩,
⟨75, v_parse_parser_is, false⟩,
⟨76, v_parse_parser_fails, false⟩,
⟨77, v_parse_parser_next, false⟩,
⟨78, v_parse_parser_operand, false⟩,
⟨79, v_parse_parser_kind, false⟩,
⟨80, v_parse_grower_grown, false⟩,
⟨81, v_parse_grower_binds, false⟩,
⟨82, v_parse_grower_rhs, false⟩,
⟨83, v_r02_Tokens, false⟩,
⟨93, v_show_infix, false⟩,
⟨94, v_show_writer_operand, false⟩,
⟨95, v_show_writer_put, false⟩,
⟨96, v_show_writer_function, false⟩,
⟨97, v_show_writer_atom, false⟩,
⟨99, v_show_writer_clauses, false⟩,
⟨100, v_show_writer_parted, false⟩,
⟨101, v_show_writer_expr_1, false⟩,
⟨102, v_show_writer_pat, false⟩,
⟨103, v_show_writer_rhs, false⟩,
⟨104, v_show_all_api_Rhs_, false⟩,
⟨105, v_show_rightRhs_1, false⟩,
⟨106, v_lex_reader_skip, false⟩,
⟨107, v_lex_reader_next, false⟩,
⟨108, v_layout_layer_starts, false⟩,
⟨109, v_layout_layer_begins, false⟩,
⟨110, v_layout_layer_closes, false⟩,
⟨111, v_layout_layer_opens, false⟩,
⟨112, v_layout_layer_make, false⟩,
⟨113, v_parse_parser_peek, false⟩,
⟨114, v_parse_parser_lambda, false⟩,
⟨115, v_parse_parser_block, false⟩,
⟨116, v_parse_parser_operand_1, false⟩,
⟨117, v_parse_parser_clause, false⟩,
⟨118, v_parse_parser_operand_2, false⟩,
⟨119, v_parse_parser_alt, false⟩,
⟨120, v_parse_parser_aexp, false⟩,
⟨121, v_parse_parser_argument, false⟩,
⟨122, v_parse_grower_spans, false⟩,
⟨123, v_parse_grower_grown_1, false⟩,
⟨124, v_r02_blank, false⟩,
⟨125, v_r02_length, false⟩,
⟨126, v_r02_Place, false⟩,
⟨127, v_r02_fault, false⟩,
⟨128, v_r02_kindOf, false⟩,
⟨129, v_r02_number, false⟩,
⟨140, v_show_operator, false⟩,
⟨141, v_show_writer_bracket, false⟩,
⟨142, v_show_writer_operand_1, false⟩,
⟨144, v_show_writer_name, false⟩,
⟨145, v_show_writer_number, false⟩,
⟨146, v_show_writer_atom_1, false⟩,
⟨148, v_show_writer_pats, false⟩,
⟨149, v_lex_reader_remark, false⟩,
⟨150, v_lex_classOf, false⟩,
⟨151, v_lex_goesOn, false⟩,
⟨152, v_lex_kind, false⟩,
⟨153, v_lex_value, false⟩,
⟨154, v_layout_layer_column, false⟩,
⟨155, v_layout_layer_push, false⟩,
⟨156, v_layout_layer_inLaid, false⟩,
⟨157, v_layout_layer_block, false⟩,
⟨158, v_layout_layer_find, false⟩,
⟨159, v_layout_layer_closeTo, false⟩,
⟨160, v_parse_parser_want, false⟩,
⟨161, v_parse_parser_pattern, false⟩,
⟨162, v_parse_parser_apat, false⟩,
⟨163, v_parse_parser_body, false⟩,
⟨164, v_parse_parser_pat, false⟩,
⟨165, v_parse_parser_plain, false⟩,
⟨166, v_parse_parser_ahead, false⟩,
⟨167, v_parse_parser_number, false⟩,
⟨168, v_parse_parser_operator, false⟩,
⟨169, v_fix_Find, false⟩,
⟨170, v_fix_Resolve, false⟩,
⟨171, v_r02_In, false⟩,
⟨172, v_r02_Small, false⟩,
⟨173, v_r02_Large, false⟩,
⟨174, v_r02_Inner, false⟩,
⟨175, v_r02_Digit, false⟩,
⟨176, v_r02_Sign, false⟩,
⟨177, v_r02_Has, false⟩,
⟨178, v_r02_Words, false⟩,
⟨179, v_r01_Parse, false⟩,
⟨197, v_show_writer_name_1, false⟩,
⟨198, v_show_writer_number_1, false⟩,
⟨199, v_num_Text, false⟩,
⟨201, v_show_writer_pats_1, false⟩,
⟨202, v_lex_Word, false⟩,
⟨203, v_num_Parse, false⟩,
⟨204, v_parse_parser_minus, false⟩,
⟨205, v_fix_Default, false⟩,
⟨206, v_fix_right, false⟩,
⟨207, v_fix_grouping_takes, false⟩,
⟨208, v_fix_grouping_reduce, false⟩,
⟨209, v_r01_plain, false⟩,
⟨210, v_r01_Text, false⟩,
⟨211, v_r01_signed, false⟩,
⟨223, v_num_Op, false⟩,
⟨224, v_num_Rel, false⟩,
⟨225, v_r01_Digits, false⟩,
⟨227, v_num_Name, false⟩]

theorem c_l19_TermOf : chkFn Tryz.prog 3 v_l19_TermOf = true := by kernel_rfl
theorem c_l19_TermTells : chkFn Tryz.prog 7 v_l19_TermTells = true := by kernel_rfl
theorem c_term_Of : chkFn Tryz.prog 8 v_term_Of = true := by kernel_rfl
theorem c_r19_Of : chkFn Tryz.prog 9 v_r19_Of = true := by kernel_rfl
theorem c_r14_SameTerm : chkFn Tryz.prog 10 v_r14_SameTerm = true := by kernel_rfl
theorem c_l19_known : chkFn Tryz.prog 11 v_l19_known = true := by kernel_rfl
theorem c_term_Read : chkFn Tryz.prog 12 v_term_Read = true := by kernel_rfl
theorem c_l19_small : chkFn Tryz.prog 14 v_l19_small = true := by kernel_rfl
theorem c_term_Expr : chkFn Tryz.prog 15 v_term_Expr = true := by kernel_rfl
theorem c_r19_Right : chkFn Tryz.prog 16 v_r19_Right = true := by kernel_rfl
theorem c_term_Text : chkFn Tryz.prog 17 v_term_Text = true := by kernel_rfl
theorem c_term_Right : chkFn Tryz.prog 18 v_term_Right = true := by kernel_rfl
theorem c_term_Size : chkFn Tryz.prog 19 v_term_Size = true := by kernel_rfl
theorem c_r19_Size : chkFn Tryz.prog 20 v_r19_Size = true := by kernel_rfl
theorem c_r06_SameExpr : chkFn Tryz.prog 21 v_r06_SameExpr = true := by kernel_rfl
theorem c_r19_Expr : chkFn Tryz.prog 22 v_r19_Expr = true := by kernel_rfl
theorem c_term_Same : chkFn Tryz.prog 23 v_term_Same = true := by kernel_rfl
theorem c_show_RightExpr : chkFn Tryz.prog 24 v_show_RightExpr = true := by kernel_rfl
theorem c_term_of : chkFn Tryz.prog 25 v_term_of = true := by kernel_rfl
theorem c_r07_RightExpr : chkFn Tryz.prog 26 v_r07_RightExpr = true := by kernel_rfl
theorem c_parse_Expr : chkFn Tryz.prog 27 v_parse_Expr = true := by kernel_rfl
theorem c_r19_Wide : chkFn Tryz.prog 29 v_r19_Wide = true := by kernel_rfl
theorem c_term_expr : chkFn Tryz.prog 30 v_term_expr = true := by kernel_rfl
theorem c_r07_Is : chkFn Tryz.prog 31 v_r07_Is = true := by kernel_rfl
theorem c_show_Expr : chkFn Tryz.prog 32 v_show_Expr = true := by kernel_rfl
theorem c_term_size : chkFn Tryz.prog 33 v_term_size = true := by kernel_rfl
theorem c_r01_Size : chkFn Tryz.prog 34 v_r01_Size = true := by kernel_rfl
theorem c_r06_SamePats : chkFn Tryz.prog 35 v_r06_SamePats = true := by kernel_rfl
theorem c_r06_SameRhs : chkFn Tryz.prog 36 v_r06_SameRhs = true := by kernel_rfl
theorem c_r06_SameExprs : chkFn Tryz.prog 37 v_r06_SameExprs = true := by kernel_rfl
theorem c_r06_SameBinds : chkFn Tryz.prog 38 v_r06_SameBinds = true := by kernel_rfl
theorem c_show_all_api_Expr_ : chkFn Tryz.prog 39 v_show_all_api_Expr_ = true := by kernel_rfl
theorem c_show_variable : chkFn Tryz.prog 40 v_show_variable = true := by kernel_rfl
theorem c_show_is : chkFn Tryz.prog 41 v_show_is = true := by kernel_rfl
theorem c_show_all_string_ : chkFn Tryz.prog 42 v_show_all_string_ = true := by kernel_rfl
theorem c_show_param : chkFn Tryz.prog 43 v_show_param = true := by kernel_rfl
theorem c_show_rightBinds : chkFn Tryz.prog 44 v_show_rightBinds = true := by kernel_rfl
theorem c_show_all_api_Alt_ : chkFn Tryz.prog 45 v_show_all_api_Alt_ = true := by kernel_rfl
theorem c_show_rightAlt : chkFn Tryz.prog 46 v_show_rightAlt = true := by kernel_rfl
theorem c_r07_rightExprs : chkFn Tryz.prog 47 v_r07_rightExprs = true := by kernel_rfl
theorem c_r07_has : chkFn Tryz.prog 48 v_r07_has = true := by kernel_rfl
theorem c_r07_Named : chkFn Tryz.prog 49 v_r07_Named = true := by kernel_rfl
theorem c_r07_rightBinds : chkFn Tryz.prog 50 v_r07_rightBinds = true := by kernel_rfl
theorem c_r07_RightPat : chkFn Tryz.prog 51 v_r07_RightPat = true := by kernel_rfl
theorem c_r07_rightRhs : chkFn Tryz.prog 52 v_r07_rightRhs = true := by kernel_rfl
theorem c_parse_begin : chkFn Tryz.prog 53 v_parse_begin = true := by kernel_rfl
theorem c_parse_parser_text : chkFn Tryz.prog 54 v_parse_parser_text = true := by kernel_rfl
theorem c_parse_parser_expr : chkFn Tryz.prog 55 v_parse_parser_expr = true := by kernel_rfl
theorem c_parse_parser_ends : chkFn Tryz.prog 56 v_parse_parser_ends = true := by kernel_rfl
theorem c_parse_grower_expr : chkFn Tryz.prog 57 v_parse_grower_expr = true := by kernel_rfl
theorem c_r02_One : chkFn Tryz.prog 64 v_r02_One = true := by kernel_rfl
theorem c_show_writer_expr : chkFn Tryz.prog 65 v_show_writer_expr = true := by kernel_rfl
theorem c_term_magnitude : chkFn Tryz.prog 67 v_term_magnitude = true := by kernel_rfl
theorem c_lex_One : chkFn Tryz.prog 68 v_lex_One = true := by kernel_rfl
theorem c_show_all_api_Pat_ : chkFn Tryz.prog 69 v_show_all_api_Pat_ = true := by kernel_rfl
theorem c_show_RightPat : chkFn Tryz.prog 70 v_show_RightPat = true := by kernel_rfl
theorem c_show_rightRhs : chkFn Tryz.prog 71 v_show_rightRhs = true := by kernel_rfl
theorem c_r07_RightPats : chkFn Tryz.prog 72 v_r07_RightPats = true := by kernel_rfl
theorem c_lex_Tokens : chkFn Tryz.prog 73 v_lex_Tokens = true := by kernel_rfl
theorem c_layout_Lay : chkFn Tryz.prog 74 v_layout_Lay = true := by kernel_rfl
theorem c_parse_parser_is : chkFn Tryz.prog 75 v_parse_parser_is = true := by kernel_rfl
theorem c_parse_parser_fails : chkFn Tryz.prog 76 v_parse_parser_fails = true := by kernel_rfl
theorem c_parse_parser_next : chkFn Tryz.prog 77 v_parse_parser_next = true := by kernel_rfl
theorem c_parse_parser_operand : chkFn Tryz.prog 78 v_parse_parser_operand = true := by kernel_rfl
theorem c_parse_parser_kind : chkFn Tryz.prog 79 v_parse_parser_kind = true := by kernel_rfl
theorem c_parse_grower_grown : chkFn Tryz.prog 80 v_parse_grower_grown = true := by kernel_rfl
theorem c_parse_grower_binds : chkFn Tryz.prog 81 v_parse_grower_binds = true := by kernel_rfl
theorem c_parse_grower_rhs : chkFn Tryz.prog 82 v_parse_grower_rhs = true := by kernel_rfl
theorem c_r02_Tokens : chkFn Tryz.prog 83 v_r02_Tokens = true := by kernel_rfl
theorem c_show_infix : chkFn Tryz.prog 93 v_show_infix = true := by kernel_rfl
theorem c_show_writer_operand : chkFn Tryz.prog 94 v_show_writer_operand = true := by kernel_rfl
theorem c_show_writer_put : chkFn Tryz.prog 95 v_show_writer_put = true := by kernel_rfl
theorem c_show_writer_function : chkFn Tryz.prog 96 v_show_writer_function = true := by kernel_rfl
theorem c_show_writer_atom : chkFn Tryz.prog 97 v_show_writer_atom = true := by kernel_rfl
theorem c_show_writer_clauses : chkFn Tryz.prog 99 v_show_writer_clauses = true := by kernel_rfl
theorem c_show_writer_parted : chkFn Tryz.prog 100 v_show_writer_parted = true := by kernel_rfl
theorem c_show_writer_expr_1 : chkFn Tryz.prog 101 v_show_writer_expr_1 = true := by kernel_rfl
theorem c_show_writer_pat : chkFn Tryz.prog 102 v_show_writer_pat = true := by kernel_rfl
theorem c_show_writer_rhs : chkFn Tryz.prog 103 v_show_writer_rhs = true := by kernel_rfl
theorem c_show_all_api_Rhs_ : chkFn Tryz.prog 104 v_show_all_api_Rhs_ = true := by kernel_rfl
theorem c_show_rightRhs_1 : chkFn Tryz.prog 105 v_show_rightRhs_1 = true := by kernel_rfl
theorem c_lex_reader_skip : chkFn Tryz.prog 106 v_lex_reader_skip = true := by kernel_rfl
theorem c_lex_reader_next : chkFn Tryz.prog 107 v_lex_reader_next = true := by kernel_rfl
theorem c_layout_layer_starts : chkFn Tryz.prog 108 v_layout_layer_starts = true := by kernel_rfl
theorem c_layout_layer_begins : chkFn Tryz.prog 109 v_layout_layer_begins = true := by kernel_rfl
theorem c_layout_layer_closes : chkFn Tryz.prog 110 v_layout_layer_closes = true := by kernel_rfl
theorem c_layout_layer_opens : chkFn Tryz.prog 111 v_layout_layer_opens = true := by kernel_rfl
theorem c_layout_layer_make : chkFn Tryz.prog 112 v_layout_layer_make = true := by kernel_rfl
theorem c_parse_parser_peek : chkFn Tryz.prog 113 v_parse_parser_peek = true := by kernel_rfl
theorem c_parse_parser_lambda : chkFn Tryz.prog 114 v_parse_parser_lambda = true := by kernel_rfl
theorem c_parse_parser_block : chkFn Tryz.prog 115 v_parse_parser_block = true := by kernel_rfl
theorem c_parse_parser_operand_1 : chkFn Tryz.prog 116 v_parse_parser_operand_1 = true := by kernel_rfl
theorem c_parse_parser_clause : chkFn Tryz.prog 117 v_parse_parser_clause = true := by kernel_rfl
theorem c_parse_parser_operand_2 : chkFn Tryz.prog 118 v_parse_parser_operand_2 = true := by kernel_rfl
theorem c_parse_parser_alt : chkFn Tryz.prog 119 v_parse_parser_alt = true := by kernel_rfl
theorem c_parse_parser_aexp : chkFn Tryz.prog 120 v_parse_parser_aexp = true := by kernel_rfl
theorem c_parse_parser_argument : chkFn Tryz.prog 121 v_parse_parser_argument = true := by kernel_rfl
theorem c_parse_grower_spans : chkFn Tryz.prog 122 v_parse_grower_spans = true := by kernel_rfl
theorem c_parse_grower_grown_1 : chkFn Tryz.prog 123 v_parse_grower_grown_1 = true := by kernel_rfl
theorem c_r02_blank : chkFn Tryz.prog 124 v_r02_blank = true := by kernel_rfl
theorem c_r02_length : chkFn Tryz.prog 125 v_r02_length = true := by kernel_rfl
theorem c_r02_Place : chkFn Tryz.prog 126 v_r02_Place = true := by kernel_rfl
theorem c_r02_fault : chkFn Tryz.prog 127 v_r02_fault = true := by kernel_rfl
theorem c_r02_kindOf : chkFn Tryz.prog 128 v_r02_kindOf = true := by kernel_rfl
theorem c_r02_number : chkFn Tryz.prog 129 v_r02_number = true := by kernel_rfl
theorem c_show_operator : chkFn Tryz.prog 140 v_show_operator = true := by kernel_rfl
theorem c_show_writer_bracket : chkFn Tryz.prog 141 v_show_writer_bracket = true := by kernel_rfl
theorem c_show_writer_operand_1 : chkFn Tryz.prog 142 v_show_writer_operand_1 = true := by kernel_rfl
theorem c_show_writer_name : chkFn Tryz.prog 144 v_show_writer_name = true := by kernel_rfl
theorem c_show_writer_number : chkFn Tryz.prog 145 v_show_writer_number = true := by kernel_rfl
theorem c_show_writer_atom_1 : chkFn Tryz.prog 146 v_show_writer_atom_1 = true := by kernel_rfl
theorem c_show_writer_pats : chkFn Tryz.prog 148 v_show_writer_pats = true := by kernel_rfl
theorem c_lex_reader_remark : chkFn Tryz.prog 149 v_lex_reader_remark = true := by kernel_rfl
theorem c_lex_classOf : chkFn Tryz.prog 150 v_lex_classOf = true := by kernel_rfl
theorem c_lex_goesOn : chkFn Tryz.prog 151 v_lex_goesOn = true := by kernel_rfl
theorem c_lex_kind : chkFn Tryz.prog 152 v_lex_kind = true := by kernel_rfl
theorem c_lex_value : chkFn Tryz.prog 153 v_lex_value = true := by kernel_rfl
theorem c_layout_layer_column : chkFn Tryz.prog 154 v_layout_layer_column = true := by kernel_rfl
theorem c_layout_layer_push : chkFn Tryz.prog 155 v_layout_layer_push = true := by kernel_rfl
theorem c_layout_layer_inLaid : chkFn Tryz.prog 156 v_layout_layer_inLaid = true := by kernel_rfl
theorem c_layout_layer_block : chkFn Tryz.prog 157 v_layout_layer_block = true := by kernel_rfl
theorem c_layout_layer_find : chkFn Tryz.prog 158 v_layout_layer_find = true := by kernel_rfl
theorem c_layout_layer_closeTo : chkFn Tryz.prog 159 v_layout_layer_closeTo = true := by kernel_rfl
theorem c_parse_parser_want : chkFn Tryz.prog 160 v_parse_parser_want = true := by kernel_rfl
theorem c_parse_parser_pattern : chkFn Tryz.prog 161 v_parse_parser_pattern = true := by kernel_rfl
theorem c_parse_parser_apat : chkFn Tryz.prog 162 v_parse_parser_apat = true := by kernel_rfl
theorem c_parse_parser_body : chkFn Tryz.prog 163 v_parse_parser_body = true := by kernel_rfl
theorem c_parse_parser_pat : chkFn Tryz.prog 164 v_parse_parser_pat = true := by kernel_rfl
theorem c_parse_parser_plain : chkFn Tryz.prog 165 v_parse_parser_plain = true := by kernel_rfl
theorem c_parse_parser_ahead : chkFn Tryz.prog 166 v_parse_parser_ahead = true := by kernel_rfl
theorem c_parse_parser_number : chkFn Tryz.prog 167 v_parse_parser_number = true := by kernel_rfl
theorem c_parse_parser_operator : chkFn Tryz.prog 168 v_parse_parser_operator = true := by kernel_rfl
theorem c_fix_Find : chkFn Tryz.prog 169 v_fix_Find = true := by kernel_rfl
theorem c_fix_Resolve : chkFn Tryz.prog 170 v_fix_Resolve = true := by kernel_rfl
theorem c_r02_In : chkFn Tryz.prog 171 v_r02_In = true := by kernel_rfl
theorem c_r02_Small : chkFn Tryz.prog 172 v_r02_Small = true := by kernel_rfl
theorem c_r02_Large : chkFn Tryz.prog 173 v_r02_Large = true := by kernel_rfl
theorem c_r02_Inner : chkFn Tryz.prog 174 v_r02_Inner = true := by kernel_rfl
theorem c_r02_Digit : chkFn Tryz.prog 175 v_r02_Digit = true := by kernel_rfl
theorem c_r02_Sign : chkFn Tryz.prog 176 v_r02_Sign = true := by kernel_rfl
theorem c_r02_Has : chkFn Tryz.prog 177 v_r02_Has = true := by kernel_rfl
theorem c_r02_Words : chkFn Tryz.prog 178 v_r02_Words = true := by kernel_rfl
theorem c_r01_Parse : chkFn Tryz.prog 179 v_r01_Parse = true := by kernel_rfl
theorem c_show_writer_name_1 : chkFn Tryz.prog 197 v_show_writer_name_1 = true := by kernel_rfl
theorem c_show_writer_number_1 : chkFn Tryz.prog 198 v_show_writer_number_1 = true := by kernel_rfl
theorem c_num_Text : chkFn Tryz.prog 199 v_num_Text = true := by kernel_rfl
theorem c_show_writer_pats_1 : chkFn Tryz.prog 201 v_show_writer_pats_1 = true := by kernel_rfl
theorem c_lex_Word : chkFn Tryz.prog 202 v_lex_Word = true := by kernel_rfl
theorem c_num_Parse : chkFn Tryz.prog 203 v_num_Parse = true := by kernel_rfl
theorem c_parse_parser_minus : chkFn Tryz.prog 204 v_parse_parser_minus = true := by kernel_rfl
theorem c_fix_Default : chkFn Tryz.prog 205 v_fix_Default = true := by kernel_rfl
theorem c_fix_right : chkFn Tryz.prog 206 v_fix_right = true := by kernel_rfl
theorem c_fix_grouping_takes : chkFn Tryz.prog 207 v_fix_grouping_takes = true := by kernel_rfl
theorem c_fix_grouping_reduce : chkFn Tryz.prog 208 v_fix_grouping_reduce = true := by kernel_rfl
theorem c_r01_plain : chkFn Tryz.prog 209 v_r01_plain = true := by kernel_rfl
theorem c_r01_Text : chkFn Tryz.prog 210 v_r01_Text = true := by kernel_rfl
theorem c_r01_signed : chkFn Tryz.prog 211 v_r01_signed = true := by kernel_rfl
theorem c_num_Op : chkFn Tryz.prog 223 v_num_Op = true := by kernel_rfl
theorem c_num_Rel : chkFn Tryz.prog 224 v_num_Rel = true := by kernel_rfl
theorem c_r01_Digits : chkFn Tryz.prog 225 v_r01_Digits = true := by kernel_rfl
theorem c_num_Name : chkFn Tryz.prog 227 v_num_Name = true := by kernel_rfl
theorem mix : Tryz.prog.follows .mixedOrders = true := by kernel_rfl
theorem tab_ok : tabOk Tryz.prog tab := by
  intro e h
  unfold tab at h
  rcases List.mem_cons.1 h with rfl | h; exact c_l19_TermOf
  rcases List.mem_cons.1 h with rfl | h; exact c_l19_TermTells
  rcases List.mem_cons.1 h with rfl | h; exact c_term_Of
  rcases List.mem_cons.1 h with rfl | h; exact c_r19_Of
  rcases List.mem_cons.1 h with rfl | h; exact c_r14_SameTerm
  rcases List.mem_cons.1 h with rfl | h; exact c_l19_known
  rcases List.mem_cons.1 h with rfl | h; exact c_term_Read
  rcases List.mem_cons.1 h with rfl | h; exact c_l19_small
  rcases List.mem_cons.1 h with rfl | h; exact c_term_Expr
  rcases List.mem_cons.1 h with rfl | h; exact c_r19_Right
  rcases List.mem_cons.1 h with rfl | h; exact c_term_Text
  rcases List.mem_cons.1 h with rfl | h; exact c_term_Right
  rcases List.mem_cons.1 h with rfl | h; exact c_term_Size
  rcases List.mem_cons.1 h with rfl | h; exact c_r19_Size
  rcases List.mem_cons.1 h with rfl | h; exact c_r06_SameExpr
  rcases List.mem_cons.1 h with rfl | h; exact c_r19_Expr
  rcases List.mem_cons.1 h with rfl | h; exact c_term_Same
  rcases List.mem_cons.1 h with rfl | h; exact c_show_RightExpr
  rcases List.mem_cons.1 h with rfl | h; exact c_term_of
  rcases List.mem_cons.1 h with rfl | h; exact c_r07_RightExpr
  rcases List.mem_cons.1 h with rfl | h; exact c_parse_Expr
  rcases List.mem_cons.1 h with rfl | h; exact c_r19_Wide
  rcases List.mem_cons.1 h with rfl | h; exact c_term_expr
  rcases List.mem_cons.1 h with rfl | h; exact c_r07_Is
  rcases List.mem_cons.1 h with rfl | h; exact c_show_Expr
  rcases List.mem_cons.1 h with rfl | h; exact c_term_size
  rcases List.mem_cons.1 h with rfl | h; exact c_r01_Size
  rcases List.mem_cons.1 h with rfl | h; exact c_r06_SamePats
  rcases List.mem_cons.1 h with rfl | h; exact c_r06_SameRhs
  rcases List.mem_cons.1 h with rfl | h; exact c_r06_SameExprs
  rcases List.mem_cons.1 h with rfl | h; exact c_r06_SameBinds
  rcases List.mem_cons.1 h with rfl | h; exact c_show_all_api_Expr_
  rcases List.mem_cons.1 h with rfl | h; exact c_show_variable
  rcases List.mem_cons.1 h with rfl | h; exact c_show_is
  rcases List.mem_cons.1 h with rfl | h; exact c_show_all_string_
  rcases List.mem_cons.1 h with rfl | h; exact c_show_param
  rcases List.mem_cons.1 h with rfl | h; exact c_show_rightBinds
  rcases List.mem_cons.1 h with rfl | h; exact c_show_all_api_Alt_
  rcases List.mem_cons.1 h with rfl | h; exact c_show_rightAlt
  rcases List.mem_cons.1 h with rfl | h; exact c_r07_rightExprs
  rcases List.mem_cons.1 h with rfl | h; exact c_r07_has
  rcases List.mem_cons.1 h with rfl | h; exact c_r07_Named
  rcases List.mem_cons.1 h with rfl | h; exact c_r07_rightBinds
  rcases List.mem_cons.1 h with rfl | h; exact c_r07_RightPat
  rcases List.mem_cons.1 h with rfl | h; exact c_r07_rightRhs
  rcases List.mem_cons.1 h with rfl | h; exact c_parse_begin
  rcases List.mem_cons.1 h with rfl | h; exact c_parse_parser_text
  rcases List.mem_cons.1 h with rfl | h; exact c_parse_parser_expr
  rcases List.mem_cons.1 h with rfl | h; exact c_parse_parser_ends
  rcases List.mem_cons.1 h with rfl | h; exact c_parse_grower_expr
  rcases List.mem_cons.1 h with rfl | h; exact c_r02_One
  rcases List.mem_cons.1 h with rfl | h; exact c_show_writer_expr
  rcases List.mem_cons.1 h with rfl | h; exact c_term_magnitude
  rcases List.mem_cons.1 h with rfl | h; exact c_lex_One
  rcases List.mem_cons.1 h with rfl | h; exact c_show_all_api_Pat_
  rcases List.mem_cons.1 h with rfl | h; exact c_show_RightPat
  rcases List.mem_cons.1 h with rfl | h; exact c_show_rightRhs
  rcases List.mem_cons.1 h with rfl | h; exact c_r07_RightPats
  rcases List.mem_cons.1 h with rfl | h; exact c_lex_Tokens
  rcases List.mem_cons.1 h with rfl | h; exact c_layout_Lay
  rcases List.mem_cons.1 h with rfl | h; exact c_parse_parser_is
  rcases List.mem_cons.1 h with rfl | h; exact c_parse_parser_fails
  rcases List.mem_cons.1 h with rfl | h; exact c_parse_parser_next
  rcases List.mem_cons.1 h with rfl | h; exact c_parse_parser_operand
  rcases List.mem_cons.1 h with rfl | h; exact c_parse_parser_kind
  rcases List.mem_cons.1 h with rfl | h; exact c_parse_grower_grown
  rcases List.mem_cons.1 h with rfl | h; exact c_parse_grower_binds
  rcases List.mem_cons.1 h with rfl | h; exact c_parse_grower_rhs
  rcases List.mem_cons.1 h with rfl | h; exact c_r02_Tokens
  rcases List.mem_cons.1 h with rfl | h; exact c_show_infix
  rcases List.mem_cons.1 h with rfl | h; exact c_show_writer_operand
  rcases List.mem_cons.1 h with rfl | h; exact c_show_writer_put
  rcases List.mem_cons.1 h with rfl | h; exact c_show_writer_function
  rcases List.mem_cons.1 h with rfl | h; exact c_show_writer_atom
  rcases List.mem_cons.1 h with rfl | h; exact c_show_writer_clauses
  rcases List.mem_cons.1 h with rfl | h; exact c_show_writer_parted
  rcases List.mem_cons.1 h with rfl | h; exact c_show_writer_expr_1
  rcases List.mem_cons.1 h with rfl | h; exact c_show_writer_pat
  rcases List.mem_cons.1 h with rfl | h; exact c_show_writer_rhs
  rcases List.mem_cons.1 h with rfl | h; exact c_show_all_api_Rhs_
  rcases List.mem_cons.1 h with rfl | h; exact c_show_rightRhs_1
  rcases List.mem_cons.1 h with rfl | h; exact c_lex_reader_skip
  rcases List.mem_cons.1 h with rfl | h; exact c_lex_reader_next
  rcases List.mem_cons.1 h with rfl | h; exact c_layout_layer_starts
  rcases List.mem_cons.1 h with rfl | h; exact c_layout_layer_begins
  rcases List.mem_cons.1 h with rfl | h; exact c_layout_layer_closes
  rcases List.mem_cons.1 h with rfl | h; exact c_layout_layer_opens
  rcases List.mem_cons.1 h with rfl | h; exact c_layout_layer_make
  rcases List.mem_cons.1 h with rfl | h; exact c_parse_parser_peek
  rcases List.mem_cons.1 h with rfl | h; exact c_parse_parser_lambda
  rcases List.mem_cons.1 h with rfl | h; exact c_parse_parser_block
  rcases List.mem_cons.1 h with rfl | h; exact c_parse_parser_operand_1
  rcases List.mem_cons.1 h with rfl | h; exact c_parse_parser_clause
  rcases List.mem_cons.1 h with rfl | h; exact c_parse_parser_operand_2
  rcases List.mem_cons.1 h with rfl | h; exact c_parse_parser_alt
  rcases List.mem_cons.1 h with rfl | h; exact c_parse_parser_aexp
  rcases List.mem_cons.1 h with rfl | h; exact c_parse_parser_argument
  rcases List.mem_cons.1 h with rfl | h; exact c_parse_grower_spans
  rcases List.mem_cons.1 h with rfl | h; exact c_parse_grower_grown_1
  rcases List.mem_cons.1 h with rfl | h; exact c_r02_blank
  rcases List.mem_cons.1 h with rfl | h; exact c_r02_length
  rcases List.mem_cons.1 h with rfl | h; exact c_r02_Place
  rcases List.mem_cons.1 h with rfl | h; exact c_r02_fault
  rcases List.mem_cons.1 h with rfl | h; exact c_r02_kindOf
  rcases List.mem_cons.1 h with rfl | h; exact c_r02_number
  rcases List.mem_cons.1 h with rfl | h; exact c_show_operator
  rcases List.mem_cons.1 h with rfl | h; exact c_show_writer_bracket
  rcases List.mem_cons.1 h with rfl | h; exact c_show_writer_operand_1
  rcases List.mem_cons.1 h with rfl | h; exact c_show_writer_name
  rcases List.mem_cons.1 h with rfl | h; exact c_show_writer_number
  rcases List.mem_cons.1 h with rfl | h; exact c_show_writer_atom_1
  rcases List.mem_cons.1 h with rfl | h; exact c_show_writer_pats
  rcases List.mem_cons.1 h with rfl | h; exact c_lex_reader_remark
  rcases List.mem_cons.1 h with rfl | h; exact c_lex_classOf
  rcases List.mem_cons.1 h with rfl | h; exact c_lex_goesOn
  rcases List.mem_cons.1 h with rfl | h; exact c_lex_kind
  rcases List.mem_cons.1 h with rfl | h; exact c_lex_value
  rcases List.mem_cons.1 h with rfl | h; exact c_layout_layer_column
  rcases List.mem_cons.1 h with rfl | h; exact c_layout_layer_push
  rcases List.mem_cons.1 h with rfl | h; exact c_layout_layer_inLaid
  rcases List.mem_cons.1 h with rfl | h; exact c_layout_layer_block
  rcases List.mem_cons.1 h with rfl | h; exact c_layout_layer_find
  rcases List.mem_cons.1 h with rfl | h; exact c_layout_layer_closeTo
  rcases List.mem_cons.1 h with rfl | h; exact c_parse_parser_want
  rcases List.mem_cons.1 h with rfl | h; exact c_parse_parser_pattern
  rcases List.mem_cons.1 h with rfl | h; exact c_parse_parser_apat
  rcases List.mem_cons.1 h with rfl | h; exact c_parse_parser_body
  rcases List.mem_cons.1 h with rfl | h; exact c_parse_parser_pat
  rcases List.mem_cons.1 h with rfl | h; exact c_parse_parser_plain
  rcases List.mem_cons.1 h with rfl | h; exact c_parse_parser_ahead
  rcases List.mem_cons.1 h with rfl | h; exact c_parse_parser_number
  rcases List.mem_cons.1 h with rfl | h; exact c_parse_parser_operator
  rcases List.mem_cons.1 h with rfl | h; exact c_fix_Find
  rcases List.mem_cons.1 h with rfl | h; exact c_fix_Resolve
  rcases List.mem_cons.1 h with rfl | h; exact c_r02_In
  rcases List.mem_cons.1 h with rfl | h; exact c_r02_Small
  rcases List.mem_cons.1 h with rfl | h; exact c_r02_Large
  rcases List.mem_cons.1 h with rfl | h; exact c_r02_Inner
  rcases List.mem_cons.1 h with rfl | h; exact c_r02_Digit
  rcases List.mem_cons.1 h with rfl | h; exact c_r02_Sign
  rcases List.mem_cons.1 h with rfl | h; exact c_r02_Has
  rcases List.mem_cons.1 h with rfl | h; exact c_r02_Words
  rcases List.mem_cons.1 h with rfl | h; exact c_r01_Parse
  rcases List.mem_cons.1 h with rfl | h; exact c_show_writer_name_1
  rcases List.mem_cons.1 h with rfl | h; exact c_show_writer_number_1
  rcases List.mem_cons.1 h with rfl | h; exact c_num_Text
  rcases List.mem_cons.1 h with rfl | h; exact c_show_writer_pats_1
  rcases List.mem_cons.1 h with rfl | h; exact c_lex_Word
  rcases List.mem_cons.1 h with rfl | h; exact c_num_Parse
  rcases List.mem_cons.1 h with rfl | h; exact c_parse_parser_minus
  rcases List.mem_cons.1 h with rfl | h; exact c_fix_Default
  rcases List.mem_cons.1 h with rfl | h; exact c_fix_right
  rcases List.mem_cons.1 h with rfl | h; exact c_fix_grouping_takes
  rcases List.mem_cons.1 h with rfl | h; exact c_fix_grouping_reduce
  rcases List.mem_cons.1 h with rfl | h; exact c_r01_plain
  rcases List.mem_cons.1 h with rfl | h; exact c_r01_Text
  rcases List.mem_cons.1 h with rfl | h; exact c_r01_signed
  rcases List.mem_cons.1 h with rfl | h; exact c_num_Op
  rcases List.mem_cons.1 h with rfl | h; exact c_num_Rel
  rcases List.mem_cons.1 h with rfl | h; exact c_r01_Digits
  rcases List.mem_cons.1 h with rfl | h; exact c_num_Name
  cases h

end Go.Proofs.YtoaohapbbnpbeaaGreat.Vm
namespace Go.Proofs.YtoaohapbbnpbeaaGreat.Vm
open Go
set_option linter.unusedSimpArgs false

/-- A function that turns nothing, and is handed no place. -/
def Pu (f : Nat) (args : List V) (r : V) : Prop := T Tryz.prog f args [] r [] ∧ idsL 0 args = true
theorem Pu.at {f : Nat} {a : List V} {r : V} (h : Pu f a r) {args : List V} (e : args.map norm0 = a) (H : Heap) : T Tryz.prog f args H r H := (h.1.frame h.2 H).weak' e
theorem Pu.al {f : Nat} {a : List V} {r : V} (h : Pu f a r) {args : List V} (e : args.map norm0 = a) : T Tryz.prog f args [] r [] := h.1.weak' e

noncomputable def eqB {α : Type} (a b : α) : Bool := @decide (a = b) (Classical.propDecidable _)
theorem eqB_true {α : Type} {a b : α} (h : a = b) : eqB a b = true := @decide_eq_true _ (Classical.propDecidable _) h
theorem eqB_false {α : Type} {a b : α} (h : a ≠ b) : eqB a b = false := @decide_eq_false _ (Classical.propDecidable _) h
theorem eqB_iff {α : Type} {a b : α} : eqB a b = true ↔ a = b := by unfold eqB; simp

section
variable {H : Heap}
theorem gc_appN {l : Heap} {i v : Nat} : getCells (H ++ l) (H.length + i) v = getCells l i v := by
  unfold getCells; rw [List.getElem?_append_right (by omega), Nat.add_sub_cancel_left]
theorem gc_app0 {l : Heap} {v : Nat} : getCells (H ++ l) H.length v = getCells l 0 v := gc_appN (i := 0)
theorem set_appN {l : Heap} {i : Nat} {o : Obj} : (H ++ l).set (H.length + i) o = H ++ l.set i o := by
  rw [List.set_append_right _ _ (by omega), Nat.add_sub_cancel_left]
theorem set_app0 {l : Heap} {o : Obj} : (H ++ l).set H.length o = H ++ l.set 0 o := set_appN (i := 0)
end
@[go_sem] theorem gc_hit {v : Nat} {cs : List V} {H : Heap} : getCells (.cells v cs :: H) 0 v = some cs := by simp [getCells]
@[go_sem] theorem gc_next {o : Obj} {v i : Nat} {H : Heap} : getCells (o :: H) (i + 1) v = getCells H i v := by simp [getCells]
theorem inc64 {i : Nat} (h : i < 4611686018427387904) : IntKind.i64.wrap ((i : Int) + 1) = ((i + 1 : Nat) : Int) := by
  rw [wrap64 (by omega) (by omega)]; rfl

theorem tyC_eq (k n : Int) (s : Str) (xs : List Ty) : tyC (.mk k n s xs) = [.int .i64 k, .int .i64 n, .str s, .sl false 4 (xs.map tyC)] := by rw [tyC]
theorem paC_eq (k : Int) (s : Str) (n : Int) (xs : List Pa) (l c : Int) : paC (.mk k s n xs l c) = [.int .i64 k, .str s, .int .i64 n, .sl false 6 (xs.map paC), .int .i64 l, .int .i64 c] := by rw [paC]

/-! Bounds: no list is too long. -/
inductive TyB : Ty → Prop
  | mk {k n s xs} (hl : xs.length * 56 ≤ 140737488355328) (h : ∀ x ∈ xs, TyB x) : TyB (.mk k n s xs)
inductive PaB : Pa → Prop
  | mk {k s n xs l c} (hl : xs.length * 72 ≤ 140737488355328) (h : ∀ x ∈ xs, PaB x) : PaB (.mk k s n xs l c)
mutual
inductive ExB : Ex → Prop
  | mk {k s n ps xs al bs l c} (h1 : ps.length * 16 ≤ 140737488355328) (h2 : xs.length * 144 ≤ 140737488355328) (h3 : al.length * 96 ≤ 140737488355328) (h4 : bs.length * 56 ≤ 140737488355328)
      (h5 : ∀ x ∈ xs, ExB x) (h6 : ∀ x ∈ al, AlB x) (h7 : ∀ x ∈ bs, BiB x) : ExB (.mk k s n ps xs al bs l c)
inductive AlB : Al → Prop
  | mk {p rs} (h1 : PaB p) (h2 : rs.length * 168 ≤ 140737488355328) (h3 : ∀ x ∈ rs, RhB x) : AlB (.mk p rs)
inductive RhB : Rh → Prop
  | mk {g b} (h1 : g.length * 144 ≤ 140737488355328) (h2 : ∀ x ∈ g, ExB x) (h3 : ExB b) : RhB (.mk g b)
inductive ClB : Cl → Prop
  | mk {ps rs} (h1 : ps.length * 72 ≤ 140737488355328) (h2 : ∀ x ∈ ps, PaB x) (h3 : rs.length * 168 ≤ 140737488355328) (h4 : ∀ x ∈ rs, RhB x) : ClB (.mk ps rs)
inductive BiB : Bi → Prop
  | mk {s cs l c} (h1 : cs.length * 48 ≤ 140737488355328) (h2 : ∀ x ∈ cs, ClB x) : BiB (.mk s cs l c)
end
def LB {α : Type} (n : Nat) (p : α → Prop) (l : List α) : Prop := l.length * n ≤ 140737488355328 ∧ ∀ x ∈ l, p x

/-- One more of two lists. -/
theorem take_next {α : Type} {a b : List α} {i : Nat} {x y : α} (h : a.take i = b.take i) (h1 : a[i]? = some x) (h2 : b[i]? = some y) : (a.take (i + 1) = b.take (i + 1)) ↔ x = y := by
  rw [List.take_add_one, List.take_add_one, h1, h2, h]
  simp
theorem take_ne {α : Type} {a b : List α} {i : Nat} {x y : α} (h1 : a[i]? = some x) (h2 : b[i]? = some y) (h : x ≠ y) : a ≠ b := by
  intro e; rw [e, h2] at h1; cases h1; exact h rfl
theorem bool_eqB {α : Type} {b : Bool} {x y : α} (h : b = true ↔ x = y) : eqB x y = b := by
  cases b with
  | true => exact eqB_true (h.1 rfl)
  | false => exact eqB_false fun e => by have := h.2 e; cases this

theorem neq_len {α β : Type} {a : List α} {b : List β} : (((a.length : Int) != b.length) = true) = (a.length ≠ b.length) := by
  simp; omega
theorem eq_len {α β : Type} {a : List α} {b : List β} : (((a.length : Int) != b.length) = false) = (a.length = b.length) := by
  simp; omega
theorem lt_len {α : Type} {a : List α} {i : Nat} : ((i : Int) < (a.length : Int)) = (i < a.length) := by simp
theorem nlt_len {α : Type} {a : List α} {i : Nat} : (¬ (i : Int) < (a.length : Int)) = (a.length ≤ i) := by simp
theorem neqB {α : Type} [BEq α] [LawfulBEq α] {a b : α} : ((a != b) = true) = (a ≠ b) := by simp
theorem eqBB {α : Type} [BEq α] [LawfulBEq α] {a b : α} : ((a != b) = false) = (a = b) := by simp
theorem nbeq {α : Type} [BEq α] [LawfulBEq α] {a b : α} : ((!(a == b)) = true) = (a ≠ b) := by simp
theorem nbeq' {α : Type} [BEq α] [LawfulBEq α] {a b : α} : ((!(a == b)) = false) = (a = b) := by simp
theorem LB.lt {α : Type} {n : Nat} {p : α → Prop} {l : List α} (h : LB n p l) (hn : 0 < n := by decide) : l.length < 4611686018427387903 := by
  have := h.1
  have : l.length * 1 ≤ l.length * n := Nat.mul_le_mul_left _ hn
  omega
theorem take_all {α : Type} {a b : List α} {i : Nat} (h : a.take i = b.take i) (h1 : a.length ≤ i) (h2 : a.length = b.length) : a = b := by
  rwa [List.take_of_length_le h1, List.take_of_length_le (by omega)] at h
end Go.Proofs.YtoaohapbbnpbeaaGreat.Vm
