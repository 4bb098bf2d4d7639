/- The law CodeLong answers true, and its input reads behind the call as before, for every input of bulk at most 1048576. Part 3 of its proof. -/
import Derived.Test.YtnijfjppolamlaaMirCl2
import Derived.Test.YtnijfjppolamlaaProg
import Derived.KernelRfl
-- 8 9 10 11 12 18 20 24 40 41 14 21 42 43 44 50 46 76 77 78 47 51 52 79 80 81 83 84 102 87 103 82 114 104 105 106
set_option maxRecDepth 100000
namespace Go.Mir.Try
open Go.Proofs
def g8 : VG := [(1, [21, 24, 25, 35, 36, 38, 39, 48, 49, 69, 70, 72, 73]), (4, [46, 79, 84, 89, 91, 95, 99, 123, 129]), (5, [43]), (6, [52]), (7, [61, 66, 67, 68]), (9, [57]), (11, [105]), (12, [118]), (14, [110]), (15, [151]), (17, [134]), (18, [156]), (20, [138]), (24, [25]), (35, [36, 38, 39]), (36, [38, 39]), (38, [39]), (40, [34]), (48, [49]), (53, [51]), (66, [67, 68]), (67, [68]), (69, [70, 72, 73]), (70, [72, 73]), (72, [73]), (89, [91]), (106, [104]), (124, [122]), (130, [128])]
def a8 : FAnn := { pm := [.ro], rt := g8.un, regs := [(0, { keep := some [1] }), (1, { md := [(1, .cp)], keep := some [1, 22] }), (2, { keep := some [2] }), (3, { keep := some [1, 3] }), (4, { keep := some [1, 3, 31] }), (6, { md := [(5, .cp), (6, .tk), (9, .fz)], keep := some [1, 3, 4, 5] }), (7, { md := [(1, .cp)], keep := some [1, 3, 4, 45] }), (8, { md := [(1, .cp)], keep := some [1, 3, 4, 6], dr := [(false, [4]), (false, [4, 46]), (false, [1]), (false, [1, 48]), (true, [1, 21, 24, 25, 35, 36, 38, 39, 47, 48, 49, 50, 69, 70, 72, 73]), (true, [6, 50, 52])], cl := [[], [0], [], [2], [0, 1, 2, 3], [0, 1, 2, 3, 4]] }), (9, { md := [(1, .cp), (2, .tk)], keep := some [1, 3, 4, 7, 8, 9] }), (10, { md := [(1, .cp), (17, .cp)], keep := some [1, 3, 4, 82], dr := [(false, [9]), (false, [9, 57]), (false, [58]), (false, [59]), (false, [7, 60]), (false, [7, 60, 61]), (false, [60, 62]), (false, [60, 63]), (false, [64]), (false, [7, 65]), (false, [7, 65, 66]), (false, [7, 65, 66, 67]), (false, [1, 65]), (false, [1, 65, 69]), (false, [3, 65]), (false, [1, 65, 69, 70, 71]), (false, [1, 65, 69, 70, 72]), (false, [1, 7, 65, 66, 67, 68, 69, 70, 72, 73]), (false, [65, 74]), (false, [65, 75]), (false, [76]), (false, [8, 77]), (false, [4, 77]), (false, [4, 77, 79]), (false, [77, 78, 80]), (false, [77, 81])], cl := [[], [0], [0, 1], [0, 1, 2], [0, 1, 2, 3], [0, 1, 2, 3, 4], [0, 1, 2, 3, 4, 5], [0, 1, 2, 3, 4, 5, 6], [0, 1, 2, 3, 4, 5, 6, 7], [0, 1, 2, 3, 4, 5, 6, 7, 8], [0, 1, 2, 3, 4, 5, 6, 7, 8, 9], [0, 1, 2, 3, 4, 5, 6, 7, 8, 9, 10], [0, 1, 2, 3, 4, 5, 6, 7, 8], [0, 1, 2, 3, 4, 5, 6, 7, 8, 12], [0, 1, 2, 3, 4, 5, 6, 7, 8], [0, 1, 2, 3, 4, 5, 6, 7, 8, 12, 13, 14], [0, 1, 2, 3, 4, 5, 6, 7, 8, 12, 13, 14, 15], [0, 1, 2, 3, 4, 5, 6, 7, 8, 9, 10, 11, 12, 13, 14, 15, 16], [0, 1, 2, 3, 4, 5, 6, 7, 8, 9, 10, 11, 12, 13, 14, 15, 16, 17], [0, 1, 2, 3, 4, 5, 6, 7, 8, 9, 10, 11, 12, 13, 14, 15, 16, 17, 18], [0, 1, 2, 3, 4, 5, 6, 7, 8, 9, 10, 11, 12, 13, 14, 15, 16, 17, 18, 19], [0, 1, 2, 3, 4, 5, 6, 7, 8, 9, 10, 11, 12, 13, 14, 15, 16, 17, 18, 19, 20], [0, 1, 2, 3, 4, 5, 6, 7, 8, 9, 10, 11, 12, 13, 14, 15, 16, 17, 18, 19, 20], [0, 1, 2, 3, 4, 5, 6, 7, 8, 9, 10, 11, 12, 13, 14, 15, 16, 17, 18, 19, 20, 22], [0, 1, 2, 3, 4, 5, 6, 7, 8, 9, 10, 11, 12, 13, 14, 15, 16, 17, 18, 19, 20, 21, 22, 23], [0, 1, 2, 3, 4, 5, 6, 7, 8, 9, 10, 11, 12, 13, 14, 15, 16, 17, 18, 19, 20, 21, 22, 23, 24]] }), (11, { keep := some [2] }), (12, { keep := some [1, 3, 4, 10] }), (13, { keep := some [1, 3, 4, 10, 86] }), (15, { keep := some [1, 3, 4, 10, 94] }), (16, { keep := some [2] }), (17, { md := [(2, .cp), (3, .cp), (7, .cp)], keep := some [1, 3, 4, 10, 11], dr := [(false, [4]), (false, [10]), (false, [4, 95, 96]), (false, [97]), (false, [4]), (false, [10]), (false, [100]), (false, [4, 99, 101]), (true, [98, 102, 103]), (true, [11, 103, 105])], cl := [[], [], [0, 1], [0, 1, 2], [], [], [5], [4, 5, 6], [0, 1, 2, 3, 4, 5, 6, 7], [0, 1, 2, 3, 4, 5, 6, 7, 8]] }), (18, { md := [(1, .cp), (2, .tk)], keep := some [1, 3, 4, 10, 12, 13, 14] }), (19, { md := [(1, .cp)], keep := some [1, 3, 4, 10, 121] }), (20, { keep := some [2] }), (14, { keep := some [1, 3, 4, 10] }), (21, { md := [(1, .cp), (2, .tk)], keep := some [1, 3, 4, 15, 16, 17] }), (22, { md := [(1, .cp), (2, .tk)], keep := some [1, 3, 15, 16, 17, 18, 19, 20] }), (23, { md := [(1, .cp), (5, .cp)], keep := some [1, 3, 159] }), (24, { keep := some [2] }), (5, { keep := some [1, 3] }), (25, { md := [(0, .cp)], keep := some [2] })] }
def g9 : VG := [(1, [118, 119]), (3, [36, 37, 45, 47, 57, 68, 69, 91, 103]), (5, [24, 25, 34, 35, 40]), (7, [77]), (8, [90]), (9, [79]), (10, [62, 108]), (11, [82]), (12, [95, 100, 101, 102]), (14, [85]), (16, [113]), (24, [34]), (25, [35]), (36, [37]), (48, [46]), (53, [51]), (58, [56]), (63, [61]), (68, [69]), (74, [67]), (100, [101, 102]), (101, [102]), (118, [119])]
def a9 : FAnn := { pm := [.ro], rt := g9.un, regs := [(0, { keep := some [1] }), (1, { keep := some [1, 3] }), (2, { keep := some [1, 3, 4] }), (3, { keep := some [1, 3, 4, 19] }), (5, { keep := some [1, 3, 4, 5] }), (6, { keep := some [1, 3, 4, 5] }), (7, { keep := some [1, 3, 4] }), (4, { keep := some [1, 3, 4] }), (8, { md := [(1, .cp), (2, .tk)], keep := some [1, 3, 6, 7] }), (9, { md := [(1, .cp), (2, .tk)], keep := some [1, 3, 7, 8, 9] }), (10, { md := [(1, .cp), (2, .tk)], keep := some [1, 3, 7, 8, 9, 10, 11] }), (11, { md := [(1, .cp), (2, .tk)], keep := some [1, 3, 7, 8, 9, 10, 11, 12, 13, 14] }), (12, { md := [(4, .fz), (6, .cp), (7, .tk)], keep := some [1, 3, 7, 8, 9, 10, 11, 12, 13, 14, 16] }), (13, { md := [(1, .cp), (3, .cp), (6, .cp), (9, .cp), (15, .cp), (27, .cp), (37, .cp), (47, .cp)], keep := some [2], dr := [(false, [7]), (false, [7, 77]), (false, [9]), (false, [9, 79]), (false, [78, 80]), (false, [11]), (false, [11, 82]), (false, [81, 83]), (false, [14]), (false, [14, 85]), (false, [84, 86]), (false, [87]), (false, [88]), (false, [8, 89]), (false, [3, 89]), (false, [3, 8, 89, 90, 91]), (false, [89, 92]), (false, [93]), (false, [12, 94]), (false, [12, 94, 95]), (false, [94, 96]), (false, [94, 97]), (false, [98]), (false, [12, 99]), (false, [12, 99, 100]), (false, [12, 99, 100, 101]), (false, [3, 99]), (false, [3, 12, 99, 100, 101, 102, 103]), (false, [99, 104]), (false, [105]), (false, [13, 106]), (false, [10, 106]), (false, [10, 106, 108]), (false, [106, 107, 109]), (false, [106, 110]), (false, [111]), (false, [16, 112]), (false, [16, 112, 113]), (false, [112, 114]), (false, [112, 115]), (false, [116]), (false, [1, 117]), (false, [1, 117, 118]), (false, [1, 117, 118, 119]), (false, [117, 120]), (false, [117, 121]), (false, [122]), (false, [123]), (false, [123, 124]), (true, [2, 125])], cl := [[], [0], [], [0, 1, 2], [0, 1, 2, 3], [], [0, 1, 2, 3, 5], [0, 1, 2, 3, 4, 5, 6], [], [0, 1, 2, 3, 5, 6, 8], [0, 1, 2, 3, 4, 5, 6, 7, 8, 9], [0, 1, 2, 3, 4, 5, 6, 7, 8, 9, 10], [0, 1, 2, 3, 4, 5, 6, 7, 8, 9, 10, 11], [0, 1, 2, 3, 4, 5, 6, 7, 8, 9, 10, 11, 12], [0, 1, 2, 3, 4, 5, 6, 7, 8, 9, 10, 11, 12], [0, 1, 2, 3, 4, 5, 6, 7, 8, 9, 10, 11, 12, 13, 14], [0, 1, 2, 3, 4, 5, 6, 7, 8, 9, 10, 11, 12, 13, 14, 15], [0, 1, 2, 3, 4, 5, 6, 7, 8, 9, 10, 11, 12, 13, 14, 15, 16], [0, 1, 2, 3, 4, 5, 6, 7, 8, 9, 10, 11, 12, 13, 14, 15, 16, 17], [0, 1, 2, 3, 4, 5, 6, 7, 8, 9, 10, 11, 12, 13, 14, 15, 16, 17, 18], [0, 1, 2, 3, 4, 5, 6, 7, 8, 9, 10, 11, 12, 13, 14, 15, 16, 17, 18, 19], [0, 1, 2, 3, 4, 5, 6, 7, 8, 9, 10, 11, 12, 13, 14, 15, 16, 17, 18, 19, 20], [0, 1, 2, 3, 4, 5, 6, 7, 8, 9, 10, 11, 12, 13, 14, 15, 16, 17, 18, 19, 20, 21], [0, 1, 2, 3, 4, 5, 6, 7, 8, 9, 10, 11, 12, 13, 14, 15, 16, 17, 18, 19, 20, 21, 22], [0, 1, 2, 3, 4, 5, 6, 7, 8, 9, 10, 11, 12, 13, 14, 15, 16, 17, 18, 19, 20, 21, 22, 23], [0, 1, 2, 3, 4, 5, 6, 7, 8, 9, 10, 11, 12, 13, 14, 15, 16, 17, 18, 19, 20, 21, 22, 23, 24], [0, 1, 2, 3, 4, 5, 6, 7, 8, 9, 10, 11, 12, 13, 14, 15, 16, 17, 18, 19, 20, 21, 22], [0, 1, 2, 3, 4, 5, 6, 7, 8, 9, 10, 11, 12, 13, 14, 15, 16, 17, 18, 19, 20, 21, 22, 23, 24, 25, 26], [0, 1, 2, 3, 4, 5, 6, 7, 8, 9, 10, 11, 12, 13, 14, 15, 16, 17, 18, 19, 20, 21, 22, 23, 24, 25, 26, 27], [0, 1, 2, 3, 4, 5, 6, 7, 8, 9, 10, 11, 12, 13, 14, 15, 16, 17, 18, 19, 20, 21, 22, 23, 24, 25, 26, 27, 28], [0, 1, 2, 3, 4, 5, 6, 7, 8, 9, 10, 11, 12, 13, 14, 15, 16, 17, 18, 19, 20, 21, 22, 23, 24, 25, 26, 27, 28, 29], [0, 1, 2, 3, 4, 5, 6, 7, 8, 9, 10, 11, 12, 13, 14, 15, 16, 17, 18, 19, 20, 21, 22, 23, 24, 25, 26, 27, 28, 29], [0, 1, 2, 3, 4, 5, 6, 7, 8, 9, 10, 11, 12, 13, 14, 15, 16, 17, 18, 19, 20, 21, 22, 23, 24, 25, 26, 27, 28, 29, 31], [0, 1, 2, 3, 4, 5, 6, 7, 8, 9, 10, 11, 12, 13, 14, 15, 16, 17, 18, 19, 20, 21, 22, 23, 24, 25, 26, 27, 28, 29, 30, 31, 32], [0, 1, 2, 3, 4, 5, 6, 7, 8, 9, 10, 11, 12, 13, 14, 15, 16, 17, 18, 19, 20, 21, 22, 23, 24, 25, 26, 27, 28, 29, 30, 31, 32, 33], [0, 1, 2, 3, 4, 5, 6, 7, 8, 9, 10, 11, 12, 13, 14, 15, 16, 17, 18, 19, 20, 21, 22, 23, 24, 25, 26, 27, 28, 29, 30, 31, 32, 33, 34], [0, 1, 2, 3, 4, 5, 6, 7, 8, 9, 10, 11, 12, 13, 14, 15, 16, 17, 18, 19, 20, 21, 22, 23, 24, 25, 26, 27, 28, 29, 30, 31, 32, 33, 34, 35], [0, 1, 2, 3, 4, 5, 6, 7, 8, 9, 10, 11, 12, 13, 14, 15, 16, 17, 18, 19, 20, 21, 22, 23, 24, 25, 26, 27, 28, 29, 30, 31, 32, 33, 34, 35, 36], [0, 1, 2, 3, 4, 5, 6, 7, 8, 9, 10, 11, 12, 13, 14, 15, 16, 17, 18, 19, 20, 21, 22, 23, 24, 25, 26, 27, 28, 29, 30, 31, 32, 33, 34, 35, 36, 37], [0, 1, 2, 3, 4, 5, 6, 7, 8, 9, 10, 11, 12, 13, 14, 15, 16, 17, 18, 19, 20, 21, 22, 23, 24, 25, 26, 27, 28, 29, 30, 31, 32, 33, 34, 35, 36, 37, 38], [0, 1, 2, 3, 4, 5, 6, 7, 8, 9, 10, 11, 12, 13, 14, 15, 16, 17, 18, 19, 20, 21, 22, 23, 24, 25, 26, 27, 28, 29, 30, 31, 32, 33, 34, 35, 36, 37, 38, 39], [0, 1, 2, 3, 4, 5, 6, 7, 8, 9, 10, 11, 12, 13, 14, 15, 16, 17, 18, 19, 20, 21, 22, 23, 24, 25, 26, 27, 28, 29, 30, 31, 32, 33, 34, 35, 36, 37, 38, 39, 40], [0, 1, 2, 3, 4, 5, 6, 7, 8, 9, 10, 11, 12, 13, 14, 15, 16, 17, 18, 19, 20, 21, 22, 23, 24, 25, 26, 27, 28, 29, 30, 31, 32, 33, 34, 35, 36, 37, 38, 39, 40, 41], [0, 1, 2, 3, 4, 5, 6, 7, 8, 9, 10, 11, 12, 13, 14, 15, 16, 17, 18, 19, 20, 21, 22, 23, 24, 25, 26, 27, 28, 29, 30, 31, 32, 33, 34, 35, 36, 37, 38, 39, 40, 41, 42], [0, 1, 2, 3, 4, 5, 6, 7, 8, 9, 10, 11, 12, 13, 14, 15, 16, 17, 18, 19, 20, 21, 22, 23, 24, 25, 26, 27, 28, 29, 30, 31, 32, 33, 34, 35, 36, 37, 38, 39, 40, 41, 42, 43], [0, 1, 2, 3, 4, 5, 6, 7, 8, 9, 10, 11, 12, 13, 14, 15, 16, 17, 18, 19, 20, 21, 22, 23, 24, 25, 26, 27, 28, 29, 30, 31, 32, 33, 34, 35, 36, 37, 38, 39, 40, 41, 42, 43, 44], [0, 1, 2, 3, 4, 5, 6, 7, 8, 9, 10, 11, 12, 13, 14, 15, 16, 17, 18, 19, 20, 21, 22, 23, 24, 25, 26, 27, 28, 29, 30, 31, 32, 33, 34, 35, 36, 37, 38, 39, 40, 41, 42, 43, 44, 45], [0, 1, 2, 3, 4, 5, 6, 7, 8, 9, 10, 11, 12, 13, 14, 15, 16, 17, 18, 19, 20, 21, 22, 23, 24, 25, 26, 27, 28, 29, 30, 31, 32, 33, 34, 35, 36, 37, 38, 39, 40, 41, 42, 43, 44, 45, 46], [0, 1, 2, 3, 4, 5, 6, 7, 8, 9, 10, 11, 12, 13, 14, 15, 16, 17, 18, 19, 20, 21, 22, 23, 24, 25, 26, 27, 28, 29, 30, 31, 32, 33, 34, 35, 36, 37, 38, 39, 40, 41, 42, 43, 44, 45, 46, 47], [0, 1, 2, 3, 4, 5, 6, 7, 8, 9, 10, 11, 12, 13, 14, 15, 16, 17, 18, 19, 20, 21, 22, 23, 24, 25, 26, 27, 28, 29, 30, 31, 32, 33, 34, 35, 36, 37, 38, 39, 40, 41, 42, 43, 44, 45, 46, 47, 48]] })] }
def g10 : VG := [(1, [16, 19, 20, 30, 31, 33, 34, 48, 49, 51, 52]), (3, [44, 56, 66, 90, 108]), (4, [35, 47, 72, 76, 80, 81, 82, 83, 114]), (6, [45]), (7, [41]), (8, [71]), (10, [61]), (11, [92]), (12, [98]), (13, [113]), (15, [102]), (19, [20]), (30, [31, 33, 34]), (31, [33, 34]), (33, [34]), (38, [29]), (48, [49, 51, 52]), (49, [51, 52]), (51, [52]), (57, [55]), (80, [81, 82]), (81, [82]), (86, [79]), (94, [89])]
def a10 : FAnn := { pm := [.ro], rt := g10.un, regs := [(0, { keep := some [1] }), (1, { md := [(1, .cp)], keep := some [1, 17] }), (2, { keep := some [2] }), (3, { keep := some [1, 3] }), (4, { keep := some [1, 3, 4] }), (5, { keep := some [1, 3, 4, 5] }), (6, { keep := some [1, 3, 4, 5, 26] }), (8, { md := [(8, .cp), (9, .tk)], keep := some [1, 3, 4, 5, 6, 7] }), (9, { md := [(1, .cp)], keep := some [1, 3, 4, 5, 6, 43] }), (10, { keep := some [1, 3, 4, 5] }), (11, { keep := some [1, 3, 4, 5] }), (7, { keep := some [1, 3, 4, 5] }), (12, { md := [(1, .cp), (2, .tk)], keep := some [3, 4, 8, 9, 10] }), (13, { md := [(1, .cp), (12, .cp)], keep := some [3, 4, 75] }), (14, { keep := some [2] }), (15, { keep := some [3, 4, 78] }), (16, { md := [(6, .cp), (7, .tk)], keep := some [3, 4, 11, 12] }), (17, { md := [(1, .cp), (4, .cp), (5, .tk)], keep := some [3, 4, 12, 13, 14, 15] }), (18, { md := [(1, .cp), (5, .cp), (17, .cp)], keep := some [117] }), (19, { keep := some [2] }), (20, { md := [(0, .cp)], keep := some [2] })] }
def g11 : VG := [(1, [5, 6, 9, 10, 13, 14, 17, 18, 22, 23, 33, 34, 36, 37]), (5, [6]), (9, [10]), (13, [14]), (17, [18]), (22, [23]), (33, [34, 36, 37]), (34, [36, 37]), (36, [37])]
def a11 : FAnn := { pm := [.ro], rt := g11.un, regs := [(0, { keep := some [1] }), (1, { md := [(2, .cp), (6, .cp)], keep := some [1, 3], dr := [(false, [1]), (false, [1, 5]), (false, [1, 5, 6]), (false, [7]), (false, [1]), (false, [1, 9]), (false, [1, 9, 10]), (false, [8, 11]), (false, [1]), (false, [1, 13]), (false, [1, 13, 14]), (false, [12, 15]), (false, [1]), (false, [1, 17]), (false, [1, 17, 18]), (false, [16, 19]), (true, [3, 20])], cl := [[], [0], [0, 1], [0, 1, 2], [], [4], [0, 1, 2, 4, 5], [0, 1, 2, 3, 4, 5, 6], [], [8], [8, 9], [0, 1, 2, 3, 4, 5, 6, 7, 8, 9, 10], [], [12], [12, 13], [0, 1, 2, 3, 4, 5, 6, 7, 8, 9, 10, 11, 12, 13, 14], [0, 1, 2, 3, 4, 5, 6, 7, 8, 9, 10, 11, 12, 13, 14, 15]] }), (2, { keep := some [1, 3, 4] }), (3, { keep := some [1, 3, 4, 29] }), (5, { md := [(6, .cp)], keep := some [1, 3, 4] }), (4, { keep := some [1, 3, 4] }), (6, { keep := some [2] })] }
def g12 : VG := [(0, [6, 12, 14]), (3, [2, 11, 18]), (12, [14])]
def a12 : FAnn := { pm := [.ro], rt := g12.un, regs := [(0, { keep := some [0] }), (1, { keep := some [0, 3] }), (2, { keep := some [0, 3, 4] }), (3, { keep := some [0, 3, 4, 8] }), (5, { keep := some [0, 3, 4] }), (4, { keep := some [0, 3, 4] }), (6, { keep := some [2, 3] })] }
def g18 : VG := [(0, [3])]
def a18 : FAnn := { pm := [.ro], rt := g18.un, regs := [(0, { keep := some [0] }), (1, { keep := some [2] })] }
def g20 : VG := [(2, [5, 11, 12]), (3, [7, 13, 14]), (11, [12]), (13, [14])]
def a20 : FAnn := { pm := [.ro, .ro], rt := g20.un, regs := [(0, { keep := some [2, 3] }), (1, { md := [(10, .cp)], keep := some [4] })] }
def g24 : VG := [(1, [10, 29]), (3, [19]), (4, [28]), (5, [23]), (11, [9]), (16, [14])]
def a24 : FAnn := { pm := [], rt := g24.un, regs := [(0, { keep := some [] }), (1, { keep := some [1] }), (2, { md := [(1, .cp), (2, .tk)], keep := some [1, 2, 3] }), (3, { md := [(1, .cp), (2, .tk)], keep := some [1, 3, 4, 5] }), (4, { md := [(1, .cp), (5, .cp), (11, .cp)], keep := some [0] })] }
def g40 : VG := [(3, [8, 21])]
def a40 : FAnn := { pm := [.ro, .ro, .ro], rt := g40.un, regs := [(0, { keep := some [1, 2, 3] }), (1, { md := [(1, .cp), (5, .cp), (10, .cp)], keep := some [1, 2, 3, 20] }), (2, { keep := some [6, 7] }), (3, { md := [(3, .cp)], keep := some [6, 7] })] }
def g41 : VG := [(0, [18]), (6, [24]), (21, [17])]
def a41 : FAnn := { pm := [.ro, .ro, .ro], rt := g41.un, regs := [(0, { keep := some [0, 1, 2] }), (1, { md := [(1, .cp), (5, .cp)], keep := some [0, 1, 2, 16] }), (2, { keep := some [6, 7, 8] }), (3, { md := [(3, .cp), (4, .tk)], keep := some [6, 7] }), (4, { keep := some [6, 7, 8] })] }
def g14 : VG := [(1, [4, 7])]
def a14 : FAnn := { pm := [.ro], rt := g14.un, regs := [(0, { keep := some [1] }), (1, { md := [(1, .cp)], keep := some [1, 6] }), (2, { keep := some [2, 3] }), (3, { md := [(1, .cp)], keep := some [2, 3] })] }
def g21 : VG := [(4, [10, 13, 18, 19, 20, 28, 33, 34, 35, 38, 39, 40]), (5, [26, 27, 32, 45, 50]), (18, [19, 20]), (19, [20]), (26, [27]), (33, [34, 35]), (34, [35]), (38, [39, 40]), (39, [40])]
def a21 : FAnn := { pm := [.ro], rt := g21.un, regs := [(0, { keep := some [0, 2] }), (1, { keep := some [2, 4] }), (2, { keep := some [2, 4, 5] }), (3, { keep := some [2, 4, 5, 6] }), (4, { keep := some [2, 4, 5, 6, 23] }), (6, { keep := some [2, 4, 5, 6], dr := [(false, [5]), (false, [5, 26]), (false, [4]), (true, [4, 10, 13, 18, 19, 20, 28, 29, 33, 34, 35, 38, 39, 40]), (true, [29, 30]), (true, [5, 26, 27, 30, 31, 32, 45, 50]), (false, [5]), (true, [5, 26, 27, 31, 32, 45, 50])], cl := [[], [0], [], [2], [2, 3], [0, 1, 2, 3, 4], [0, 1, 2, 3, 4, 5], [0, 1, 2, 3, 4, 5, 6]] }), (5, { keep := some [2, 4, 5, 6] }), (7, { md := [(13, .cp)], keep := some [2, 5, 48] }), (8, { keep := some [2, 3] }), (9, { keep := some [2, 3] })] }
def g42 : VG := [(0, [6, 12, 17, 19, 20]), (1, [8, 21, 23, 24]), (17, [19, 20]), (19, [20]), (21, [23, 24]), (23, [24])]
def a42 : FAnn := { pm := [.ro, .ro], rt := g42.un, regs := [(0, { keep := some [0, 1] }), (1, { keep := some [0, 1, 10] }), (2, { keep := some [4] }), (3, { keep := some [0, 1, 5] }), (4, { keep := some [0, 1, 5, 14] }), (6, { md := [(8, .cp)], keep := some [0, 1, 5, 26], dr := [(false, [0]), (false, [5]), (false, [0, 17, 18]), (false, [0, 17, 19]), (false, [1]), (false, [5]), (false, [1, 21, 22]), (false, [1, 21, 23]), (false, [0, 1, 17, 19, 20, 21, 23, 24]), (false, [25])], cl := [[], [], [0, 1], [0, 1, 2], [], [], [4, 5], [4, 5, 6], [0, 1, 2, 3, 4, 5, 6, 7], [0, 1, 2, 3, 4, 5, 6, 7, 8]] }), (7, { keep := some [4] }), (5, { keep := some [0, 1, 5] }), (8, { keep := some [4] })] }
def g43 : VG := [(0, [5, 8, 18, 20, 21, 22]), (18, [20, 21, 22]), (20, [21, 22]), (21, [22])]
def a43 : FAnn := { pm := [.ro], rt := g43.un, regs := [(0, { keep := some [0] }), (1, { keep := some [0, 3] }), (2, { keep := some [0, 3, 4] }), (3, { keep := some [0, 3, 4, 14] }), (5, { md := [(6, .cp)], keep := some [0, 3, 4] }), (4, { keep := some [0, 3, 4] }), (6, { keep := some [2] })] }
def g44 : VG := [(0, [5, 8, 18, 20]), (18, [20])]
def a44 : FAnn := { pm := [.ro], rt := g44.un, regs := [(0, { keep := some [0] }), (1, { keep := some [0, 3] }), (2, { keep := some [0, 3, 4] }), (3, { keep := some [0, 3, 4, 14] }), (5, { keep := some [0, 3, 4] }), (4, { keep := some [0, 3, 4] }), (6, { keep := some [2] })] }
def g50 : VG := [(0, [6, 12, 17, 19, 20]), (1, [8, 21, 23, 24]), (17, [19, 20]), (19, [20]), (21, [23, 24]), (23, [24])]
def a50 : FAnn := { pm := [.ro, .ro], rt := g50.un, regs := [(0, { keep := some [0, 1] }), (1, { keep := some [0, 1, 10] }), (2, { keep := some [4] }), (3, { keep := some [0, 1, 5] }), (4, { keep := some [0, 1, 5, 14] }), (6, { keep := some [0, 1, 5, 25], dr := [(false, [0]), (false, [5]), (false, [0, 17, 18]), (false, [0, 17, 19]), (false, [1]), (false, [5]), (false, [1, 21, 22]), (false, [1, 21, 23]), (false, [0, 1, 17, 19, 20, 21, 23, 24])], cl := [[], [], [0, 1], [0, 1, 2], [], [], [4, 5], [4, 5, 6], [0, 1, 2, 3, 4, 5, 6, 7]] }), (7, { keep := some [4] }), (5, { keep := some [0, 1, 5] }), (8, { keep := some [4] })] }
def g46 : VG := [(1, [3, 7, 12, 13, 18, 19]), (12, [13]), (18, [19])]
def a46 : FAnn := { pm := [.ro], rt := g46.un, regs := [(0, { keep := some [1] }), (1, { md := [(17, .cp)], keep := some [2] })] }
def g76 : VG := []
def a76 : FAnn := { pm := [.ro], rt := g76.un, regs := [(0, { keep := some [0] }), (1, { keep := some [2] })] }
def g77 : VG := [(3, [11]), (6, [48, 60]), (10, [28, 43, 49])]
def a77 : FAnn := { pm := [.ro, .ro, .ro], rt := g77.un, regs := [(0, { keep := some [1, 2, 3, 6] }), (1, { md := [(1, .cp)], keep := some [1, 2, 6, 7] }), (2, { keep := some [1, 2, 6, 7, 8] }), (3, { keep := some [1, 2, 6, 7, 8, 18] }), (5, { keep := some [1, 2, 6, 7, 8, 9] }), (6, { keep := some [1, 2, 6, 7, 8, 9, 10] }), (7, { md := [(10, .cp)], keep := some [1, 2, 6, 7, 8, 9, 10] }), (8, { keep := some [1, 2, 6, 7, 8, 9, 10] }), (9, { md := [(5, .cp)], keep := some [1, 2, 6, 7, 8, 9], dr := [(false, [6]), (false, [10]), (false, [10, 49]), (false, [9]), (false, [51]), (false, [52]), (false, [50, 53]), (true, [54, 55]), (true, [6, 48, 55, 56, 60]), (true, [6, 48, 56, 60])], cl := [[], [], [1], [], [3], [3, 4], [1, 2, 3, 4, 5], [1, 2, 3, 4, 5, 6], [0, 1, 2, 3, 4, 5, 6, 7], [0, 1, 2, 3, 4, 5, 6, 7, 8]] }), (10, { keep := some [1, 2, 6, 7, 8] }), (4, { keep := some [1, 2, 6, 7, 8] }), (11, { keep := some [6] })] }
def g78 : VG := [(0, [13]), (6, [23, 32]), (8, [24]), (18, [12])]
def a78 : FAnn := { pm := [.ro, .ro, .ro], rt := g78.un, regs := [(0, { keep := some [0, 1, 2, 6, 7] }), (1, { keep := some [0, 1, 2, 6, 7, 11] }), (2, { md := [(5, .cp), (6, .tk)], keep := some [0, 1, 2, 6, 7, 8, 9] }), (3, { keep := some [0, 1, 2, 6, 7, 8, 9, 22] }), (4, { keep := some [0, 1, 2, 6, 7] }), (5, { keep := some [6, 7] })] }
def g47 : VG := [(1, [6, 9, 10, 13, 14, 18, 19]), (3, [20, 33, 43, 48]), (5, [21, 24, 27, 34, 37, 44]), (9, [10]), (13, [14, 18, 19]), (14, [18, 19]), (18, [19])]
def a47 : FAnn := { pm := [.ro], rt := g47.un, regs := [(0, { keep := some [1] }), (1, { keep := some [1, 3], dr := [(false, [1]), (false, [1, 6]), (true, [7, 8]), (false, [1]), (false, [1, 9]), (false, [1, 9, 10]), (true, [8, 11, 12]), (true, [3, 12, 20, 33, 43, 48])], cl := [[], [0], [0, 1], [], [3], [3, 4], [0, 1, 2, 3, 4, 5], [0, 1, 2, 3, 4, 5, 6]] }), (2, { keep := some [1, 3, 13, 14, 15, 16] }), (3, { keep := some [1, 3, 13, 14, 15, 16, 17] }), (4, { keep := some [1, 3, 5, 13, 14, 15, 16] }), (5, { md := [(6, .cp)], keep := some [1, 3, 5, 13, 14, 15, 16], dr := [(false, [3]), (false, [5]), (false, [5, 21]), (false, [22]), (false, [5]), (false, [5, 24]), (false, [25]), (false, [5]), (false, [5, 27]), (false, [28]), (false, [29]), (true, [23, 26, 30, 31]), (true, [3, 20, 31, 32, 33, 43, 48]), (true, [3, 20, 32, 33, 43, 48])], cl := [[], [], [1], [1, 2], [], [4], [4, 5], [], [7], [7, 8], [7, 8, 9], [1, 2, 3, 4, 5, 6, 7, 8, 9, 10], [0, 1, 2, 3, 4, 5, 6, 7, 8, 9, 10, 11], [0, 1, 2, 3, 4, 5, 6, 7, 8, 9, 10, 11, 12]] }), (6, { keep := some [1, 3, 5, 13, 14, 15, 16], dr := [(false, [3]), (false, [5]), (false, [5, 34]), (true, [3, 20, 33, 35, 36, 43, 48]), (false, [5]), (false, [5, 37]), (false, [38]), (false, [39]), (true, [40, 41]), (true, [36, 41, 42]), (true, [3, 20, 33, 42, 43, 48])], cl := [[], [], [1], [0, 1, 2], [], [4], [4, 5], [4, 5, 6], [4, 5, 6, 7], [0, 1, 2, 3, 4, 5, 6, 7, 8], [0, 1, 2, 3, 4, 5, 6, 7, 8, 9]] }), (7, { keep := some [1, 3, 13, 14, 15, 16] }), (8, { keep := some [1, 3, 13, 14, 15, 16] }), (9, { keep := some [2] })] }
def g51 : VG := [(0, [8]), (11, [15])]
def a51 : FAnn := { pm := [.io, .ro], rt := g51.un, regs := [(0, { keep := some [0, 1] }), (1, { keep := some [0, 1, 5] }), (2, { keep := some [0, 5, 11, 12, 13] }), (3, { keep := some [0, 5, 11, 12, 13, 14] }), (4, { keep := some [0, 5, 7, 11, 12, 13] }), (5, { keep := some [0, 5, 11, 12, 13] }), (6, { keep := some [0, 5, 11, 12, 13] }), (7, { keep := some [0, 4] })] }
def g52 : VG := [(0, [4, 7, 12, 13, 14, 15, 21, 22, 23, 24, 28, 29]), (2, [6, 11, 27, 32, 33]), (12, [21, 22]), (13, [14, 15]), (14, [15]), (21, [22])]
def a52 : FAnn := { pm := [.io], rt := g52.un, regs := [(0, { keep := some [0, 2] }), (1, { keep := some [0, 2] }), (2, { keep := some [0, 2, 3] }), (3, { keep := some [0, 2, 3] }), (4, { keep := some [0, 2] }), (5, { keep := some [0, 2] }), (6, { keep := some [0, 2] }), (7, { keep := some [0, 2] })] }
def g79 : VG := [(0, [5, 8, 18, 20, 21, 24, 26, 27]), (18, [20, 21]), (20, [21]), (24, [26, 27]), (26, [27])]
def a79 : FAnn := { pm := [.ro], rt := g79.un, regs := [(0, { keep := some [0] }), (1, { keep := some [0, 3] }), (2, { keep := some [0, 3, 4] }), (3, { keep := some [0, 3, 4, 14] }), (5, { keep := some [0, 3, 4], dr := [(false, [3]), (false, [0]), (false, [4]), (false, [0, 18, 19]), (false, [0, 18, 20]), (false, [0, 18, 20, 21]), (false, [22]), (false, [0]), (false, [4]), (false, [0, 24, 25]), (false, [0, 24, 26]), (false, [0, 24, 26, 27]), (false, [28]), (false, [23, 29]), (false, [30]), (false, [17, 31]), (true, [3, 32])], cl := [[], [], [], [1, 2], [1, 2, 3], [1, 2, 3, 4], [1, 2, 3, 4, 5], [], [], [7, 8], [7, 8, 9], [7, 8, 9, 10], [7, 8, 9, 10, 11], [1, 2, 3, 4, 5, 6, 7, 8, 9, 10, 11, 12], [1, 2, 3, 4, 5, 6, 7, 8, 9, 10, 11, 12, 13], [0, 1, 2, 3, 4, 5, 6, 7, 8, 9, 10, 11, 12, 13, 14], [0, 1, 2, 3, 4, 5, 6, 7, 8, 9, 10, 11, 12, 13, 14, 15]] }), (4, { keep := some [0, 3, 4] }), (6, { keep := some [2] })] }
def g80 : VG := [(0, [5]), (1, [6])]
def a80 : FAnn := { pm := [.ro, .ro], rt := g80.un, regs := [(0, { keep := some [0, 1] }), (1, { md := [(2, .cp)], keep := some [4] })] }
def g81 : VG := [(1, [3])]
def a81 : FAnn := { pm := [.ro], rt := g81.un, regs := [(0, { keep := some [1] }), (1, { md := [(1, .cp)], keep := some [2] })] }
def g83 : VG := [(0, [5])]
def a83 : FAnn := { pm := [.own, .ro], rt := g83.un, regs := [(0, { keep := some [0, 1] }), (1, { keep := some [4] })] }
def g84 : VG := []
def a84 : FAnn := { pm := [.ro], rt := g84.un, regs := [(0, { keep := some [0] }), (1, { keep := some [3] }), (2, { keep := some [2] }), (3, { keep := some [2] })] }
def g102 : VG := [(0, [14, 19, 50]), (12, [46, 56]), (13, [43]), (14, [19]), (40, [38])]
def a102 : FAnn := { pm := [.ro, .ro, .ro], rt := g102.un, regs := [(0, { keep := some [0, 1, 2, 6] }), (1, { keep := some [0, 1, 2, 6, 8] }), (2, { keep := some [0, 1, 2, 6, 8, 14, 15, 16] }), (3, { keep := some [0, 1, 2, 6, 8, 14, 15, 16, 17] }), (4, { keep := some [0, 1, 2, 6, 8, 9, 10, 14, 15, 16] }), (5, { keep := some [0, 1, 2, 6, 8, 9, 10, 14, 15, 16, 23] }), (6, { keep := some [0, 1, 2, 6, 8, 9, 10, 11, 14, 15, 16] }), (7, { keep := some [0, 1, 2, 6, 8, 9, 10, 11, 14, 15, 16, 28] }), (8, { keep := some [0, 1, 2, 6, 8, 9, 10, 14, 15, 16] }), (9, { keep := some [0, 1, 2, 6, 8, 9, 14, 15, 16, 37] }), (10, { md := [(1, .cp), (2, .tk)], keep := some [0, 1, 2, 6, 9, 12, 13] }), (11, { md := [(6, .cp), (10, .cp), (11, .cp)], keep := some [6, 9, 12, 55], dr := [(false, [13]), (false, [13, 43]), (false, [44]), (false, [12, 45]), (false, [1, 45]), (false, [2, 45]), (false, [12, 45, 46, 47, 48]), (false, [0, 45]), (false, [9, 45]), (false, [45, 51]), (false, [0, 45, 50, 52]), (false, [45, 49, 53]), (false, [45, 54])], cl := [[], [0], [0, 1], [0, 1, 2], [0, 1, 2], [0, 1, 2], [0, 1, 2, 3, 4, 5], [0, 1, 2], [0, 1, 2], [0, 1, 2, 8], [0, 1, 2, 7, 8, 9], [0, 1, 2, 3, 4, 5, 6, 7, 8, 9, 10], [0, 1, 2, 3, 4, 5, 6, 7, 8, 9, 10, 11]] }), (12, { keep := some [6, 7] }), (13, { keep := some [0, 1, 2, 6, 8, 14, 15, 16] }), (14, { keep := some [6, 7] })] }
def g87 : VG := [(0, [6, 7, 8, 12, 13, 14, 19, 20, 21, 22, 23, 24, 28, 29, 30, 31, 35, 36]), (6, [7, 8]), (7, [8]), (12, [13, 14]), (13, [14]), (19, [20, 21]), (20, [21]), (22, [23, 24]), (23, [24]), (28, [35, 36]), (29, [30, 31]), (30, [31]), (35, [36])]
def a87 : FAnn := { pm := [.io, .ro], rt := g87.un, regs := [(0, { keep := some [0, 1] }), (1, { keep := some [0, 1, 18] }), (2, { keep := some [0] }), (3, { keep := some [0, 4] }), (4, { keep := some [0, 1, 5] }), (5, { keep := some [0, 5] }), (6, { keep := some [0, 4] })] }
def g103 : VG := [(0, [6, 12, 14, 15]), (1, [11]), (12, [14, 15]), (14, [15])]
def a103 : FAnn := { pm := [.ro, .ro], rt := g103.un, regs := [(0, { keep := some [0, 1] }), (1, { keep := some [0, 1, 7, 8] }), (2, { keep := some [0, 1, 7, 8, 9] }), (3, { keep := some [0, 1, 5, 7, 8] }), (4, { keep := some [0, 1, 5, 7, 8, 16] }), (5, { keep := some [4] }), (6, { keep := some [0, 1, 7, 8] }), (7, { keep := some [4] })] }
def g82 : VG := [(1, [3, 7, 12, 17, 21])]
def a82 : FAnn := { pm := [.ro], rt := g82.un, regs := [(0, { keep := some [1] }), (1, { md := [(2, .cp), (3, .tk), (6, .cp), (11, .cp)], keep := some [2] })] }
def g114 : VG := [(0, [6, 11, 16, 18]), (1, [8, 20, 22]), (16, [18]), (20, [22])]
def a114 : FAnn := { pm := [.ro, .ro], rt := g114.un, regs := [(0, { keep := some [0, 1] }), (1, { keep := some [0, 1, 10] }), (2, { keep := some [4] }), (3, { keep := some [0, 1, 12, 13] }), (4, { keep := some [0, 1, 12, 13, 14] }), (5, { keep := some [0, 1, 5, 12, 13] }), (6, { keep := some [0, 1, 12, 13, 24], dr := [(false, [0]), (false, [5]), (false, [0, 16, 17]), (false, [0, 16, 18]), (false, [1]), (false, [5]), (false, [1, 20, 21]), (false, [1, 20, 22]), (false, [19, 23])], cl := [[], [], [0, 1], [0, 1, 2], [], [], [4, 5], [4, 5, 6], [0, 1, 2, 3, 4, 5, 6, 7]] }), (7, { keep := some [4] }), (8, { keep := some [0, 1, 12, 13] }), (9, { keep := some [4] })] }
def g104 : VG := []
def a104 : FAnn := { pm := [.ro], rt := g104.un, regs := [(0, { keep := some [0] }), (1, { keep := some [2] })] }
def g105 : VG := []
def a105 : FAnn := { pm := [.ro], rt := g105.un, regs := [(0, { keep := some [0] }), (1, { keep := some [2] })] }
def g106 : VG := []
def a106 : FAnn := { pm := [.ro], rt := g106.un, regs := [(0, { keep := some [0] }), (1, { keep := some [2] })] }

def b8 : IC := .seq (.reg [⟨some 1, none, .box (.tmp 0)⟩, ⟨some 2, none, .mov .tk (.con (.bool false))⟩] (some [1])) (.seq (.seq (.reg [⟨some 21, none, .load .cp true 4 (.tmp 1)⟩, ⟨some 22, none, .callr 11 [.tmp 21]⟩] (some [1, 22])) (.cond (.tmp 22) (.seq (.reg [⟨some 2, none, .mov .tk (.con (.bool true))⟩] (some [2])) .ret) .skip)) (.seq (.seq (.reg [⟨some 3, none, .mov .tk (.con (.int .i64 0))⟩] (some [1, 3])) (.block 0 (.loop (.seq (.seq (.reg [⟨some 23, none, .mov .cp (.tmp 3)⟩, ⟨some 24, none, .fieldA 0 (.tmp 1)⟩, ⟨some 25, none, .load .cp false 1 (.tmp 24)⟩, ⟨some 26, none, .len false (.tmp 25)⟩, ⟨some 27, none, .bin none .lss (.tmp 23) (.tmp 26)⟩, ⟨some 28, none, .mov .cp (.tmp 27)⟩, ⟨some 29, some (28, true), .mov .cp (.tmp 3)⟩, ⟨some 30, some (28, true), .bin none .lss (.tmp 29) (.con (.int .i64 6))⟩, ⟨some 31, none, .pick (.tmp 28) (.tmp 30) (.con (.bool false))⟩] (some [1, 3, 31])) (.cond (.tmp 31) .skip (.exit 0))) (.seq (.block 1 (.seq (.reg [⟨some 35, none, .fieldA 0 (.tmp 1)⟩, ⟨some 36, none, .load .cp false 1 (.tmp 35)⟩, ⟨some 37, none, .mov .cp (.tmp 3)⟩, ⟨some 38, none, .indexA 2 (.tmp 36) (.tmp 37)⟩, ⟨some 39, none, .load .cp true 2 (.tmp 38)⟩, ⟨some 40, none, .callr 40 [.tmp 39, .con (.int .i64 5), .con (.int .i64 9)]⟩, ⟨some 34, none, .mov .tk (.tmp 40)⟩, ⟨some 41, none, .extract 0 (.tmp 34)⟩, ⟨some 42, none, .extract 1 (.tmp 34)⟩, ⟨some 4, none, .mov .fz (.tmp 41)⟩, ⟨some 5, none, .mov .tk (.tmp 42)⟩] (some [1, 3, 4, 5])) (.seq (.seq (.reg [⟨some 43, none, .mov .cp (.tmp 5)⟩, ⟨some 44, none, .callr 18 [.tmp 43]⟩, ⟨some 45, none, .bin none .neq (.tmp 44) (.con (.int .i64 0))⟩] (some [1, 3, 4, 45])) (.cond (.tmp 45) (.exit 1) .skip)) (.seq (.drw [(⟨some 46, none, .mov .cp (.tmp 4)⟩, false, [4]), (⟨some 47, none, .callr 12 [.tmp 46]⟩, false, [4, 46]), (⟨some 48, none, .fieldA 1 (.tmp 1)⟩, false, [1]), (⟨some 49, none, .load .cp false 1 (.tmp 48)⟩, false, [1, 48]), (⟨some 50, none, .app false 9 1 16 (.tmp 47) (.tmp 49)⟩, true, [1, 21, 24, 25, 35, 36, 38, 39, 47, 48, 49, 50, 69, 70, 72, 73]), (⟨some 6, none, .mov .tk (.tmp 50)⟩, true, [6, 50, 52])] (some [1, 3, 4, 6])) (.seq (.reg [⟨some 52, none, .mov .cp (.tmp 6)⟩, ⟨some 53, none, .callr 41 [.tmp 52, .con (.int .i64 5), .con (.int .i64 9)]⟩, ⟨some 51, none, .mov .tk (.tmp 53)⟩, ⟨some 54, none, .extract 0 (.tmp 51)⟩, ⟨some 55, none, .extract 1 (.tmp 51)⟩, ⟨some 56, none, .extract 2 (.tmp 51)⟩, ⟨some 7, none, .mov .tk (.tmp 54)⟩, ⟨some 8, none, .mov .tk (.tmp 55)⟩, ⟨some 9, none, .mov .tk (.tmp 56)⟩] (some [1, 3, 4, 7, 8, 9])) (.seq (.seq (.drw [(⟨some 57, none, .mov .cp (.tmp 9)⟩, false, [9]), (⟨some 58, none, .callr 18 [.tmp 57]⟩, false, [9, 57]), (⟨some 59, none, .bin none .neq (.tmp 58) (.con (.int .i64 0))⟩, false, [58]), (⟨some 60, none, .mov .cp (.tmp 59)⟩, false, [59]), (⟨some 61, some (60, false), .mov .cp (.tmp 7)⟩, false, [7, 60]), (⟨some 62, some (60, false), .len false (.tmp 61)⟩, false, [7, 60, 61]), (⟨some 63, some (60, false), .bin none .eql (.tmp 62) (.con (.int .i64 0))⟩, false, [60, 62]), (⟨some 64, none, .pick (.tmp 60) (.con (.bool true)) (.tmp 63)⟩, false, [60, 63]), (⟨some 65, none, .mov .cp (.tmp 64)⟩, false, [64]), (⟨some 66, some (65, false), .mov .cp (.tmp 7)⟩, false, [7, 65]), (⟨some 67, some (65, false), .indexA 2 (.tmp 66) (.con (.int .i64 0))⟩, false, [7, 65, 66]), (⟨some 68, some (65, false), .load .cp true 2 (.tmp 67)⟩, false, [7, 65, 66, 67]), (⟨some 69, some (65, false), .fieldA 0 (.tmp 1)⟩, false, [1, 65]), (⟨some 70, some (65, false), .load .cp false 1 (.tmp 69)⟩, false, [1, 65, 69]), (⟨some 71, some (65, false), .mov .cp (.tmp 3)⟩, false, [3, 65]), (⟨some 72, some (65, false), .indexA 2 (.tmp 70) (.tmp 71)⟩, false, [1, 65, 69, 70, 71]), (⟨some 73, some (65, false), .load .cp true 2 (.tmp 72)⟩, false, [1, 65, 69, 70, 72]), (⟨some 74, some (65, false), .callr 20 [.tmp 68, .tmp 73]⟩, false, [1, 7, 65, 66, 67, 68, 69, 70, 72, 73]), (⟨some 75, some (65, false), .un .not (.tmp 74)⟩, false, [65, 74]), (⟨some 76, none, .pick (.tmp 65) (.con (.bool true)) (.tmp 75)⟩, false, [65, 75]), (⟨some 77, none, .mov .cp (.tmp 76)⟩, false, [76]), (⟨some 78, some (77, false), .mov .cp (.tmp 8)⟩, false, [8, 77]), (⟨some 79, some (77, false), .mov .cp (.tmp 4)⟩, false, [4, 77]), (⟨some 80, some (77, false), .len false (.tmp 79)⟩, false, [4, 77, 79]), (⟨some 81, some (77, false), .bin none .lss (.tmp 78) (.tmp 80)⟩, false, [77, 78, 80]), (⟨some 82, none, .pick (.tmp 77) (.con (.bool true)) (.tmp 81)⟩, false, [77, 81])] (some [1, 3, 4, 82])) (.cond (.tmp 82) (.seq (.reg [⟨some 2, none, .mov .tk (.con (.bool false))⟩] (some [2])) .ret) .skip)) (.seq (.seq (.reg [⟨some 10, none, .mov .tk (.con (.int .i64 0))⟩] (some [1, 3, 4, 10])) (.block 2 (.loop (.seq (.seq (.reg [⟨some 83, none, .mov .cp (.tmp 10)⟩, ⟨some 84, none, .mov .cp (.tmp 4)⟩, ⟨some 85, none, .len false (.tmp 84)⟩, ⟨some 86, none, .bin none .lss (.tmp 83) (.tmp 85)⟩] (some [1, 3, 4, 10, 86])) (.cond (.tmp 86) .skip (.exit 2))) (.seq (.block 3 (.seq (.seq (.reg [⟨some 89, none, .mov .cp (.tmp 4)⟩, ⟨some 90, none, .mov .cp (.tmp 10)⟩, ⟨some 91, none, .indexA 1 (.tmp 89) (.tmp 90)⟩, ⟨some 92, none, .load .cp false 1 (.tmp 91)⟩, ⟨some 93, none, .len true (.tmp 92)⟩, ⟨some 94, none, .bin none .neq (.tmp 93) (.con (.int .i64 32))⟩] (some [1, 3, 4, 10, 94])) (.cond (.tmp 94) (.seq (.reg [⟨some 2, none, .mov .tk (.con (.bool false))⟩] (some [2])) .ret) .skip)) (.seq (.drw [(⟨some 95, none, .mov .cp (.tmp 4)⟩, false, [4]), (⟨some 96, none, .mov .cp (.tmp 10)⟩, false, [10]), (⟨some 97, none, .cut 1 (.tmp 95) none (some (.tmp 96))⟩, false, [4, 95, 96]), (⟨some 98, none, .callr 12 [.tmp 97]⟩, false, [97]), (⟨some 99, none, .mov .cp (.tmp 4)⟩, false, [4]), (⟨some 100, none, .mov .cp (.tmp 10)⟩, false, [10]), (⟨some 101, none, .bin none .add (.tmp 100) (.con (.int .i64 1))⟩, false, [100]), (⟨some 102, none, .cut 1 (.tmp 99) (some (.tmp 101)) none⟩, false, [4, 99, 101]), (⟨some 103, none, .app false 9 1 16 (.tmp 98) (.tmp 102)⟩, true, [98, 102, 103]), (⟨some 11, none, .mov .tk (.tmp 103)⟩, true, [11, 103, 105])] (some [1, 3, 4, 10, 11])) (.seq (.reg [⟨some 105, none, .mov .cp (.tmp 11)⟩, ⟨some 106, none, .callr 41 [.tmp 105, .con (.int .i64 5), .con (.int .i64 9)]⟩, ⟨some 104, none, .mov .tk (.tmp 106)⟩, ⟨some 107, none, .extract 0 (.tmp 104)⟩, ⟨some 108, none, .extract 1 (.tmp 104)⟩, ⟨some 109, none, .extract 2 (.tmp 104)⟩, ⟨some 12, none, .mov .tk (.tmp 107)⟩, ⟨some 13, none, .mov .tk (.tmp 108)⟩, ⟨some 14, none, .mov .tk (.tmp 109)⟩] (some [1, 3, 4, 10, 12, 13, 14])) (.seq (.reg [⟨some 110, none, .mov .cp (.tmp 14)⟩, ⟨some 111, none, .callr 18 [.tmp 110]⟩, ⟨some 112, none, .bin none .neq (.tmp 111) (.con (.int .i64 0))⟩, ⟨some 113, none, .mov .cp (.tmp 112)⟩, ⟨some 114, some (113, false), .mov .cp (.tmp 13)⟩, ⟨some 115, some (113, false), .bin none .neq (.tmp 114) (.con (.int .i64 0))⟩, ⟨some 116, none, .pick (.tmp 113) (.con (.bool true)) (.tmp 115)⟩, ⟨some 117, none, .mov .cp (.tmp 116)⟩, ⟨some 118, some (117, false), .mov .cp (.tmp 12)⟩, ⟨some 119, some (117, false), .len false (.tmp 118)⟩, ⟨some 120, some (117, false), .bin none .neq (.tmp 119) (.con (.int .i64 0))⟩, ⟨some 121, none, .pick (.tmp 117) (.con (.bool true)) (.tmp 120)⟩] (some [1, 3, 4, 10, 121])) (.cond (.tmp 121) (.seq (.reg [⟨some 2, none, .mov .tk (.con (.bool false))⟩] (some [2])) .ret) .skip)))))) (.reg [⟨some 87, none, .mov .cp (.tmp 10)⟩, ⟨some 88, none, .bin none .add (.tmp 87) (.con (.int .i64 1))⟩, ⟨some 10, none, .mov .tk (.tmp 88)⟩] (some [1, 3, 4, 10]))))))) (.seq (.reg [⟨some 123, none, .mov .cp (.tmp 4)⟩, ⟨some 124, none, .callr 41 [.tmp 123, .con (.int .i64 6), .con (.int .i64 9)]⟩, ⟨some 122, none, .mov .tk (.tmp 124)⟩, ⟨some 125, none, .extract 0 (.tmp 122)⟩, ⟨some 126, none, .extract 1 (.tmp 122)⟩, ⟨some 127, none, .extract 2 (.tmp 122)⟩, ⟨some 15, none, .mov .tk (.tmp 125)⟩, ⟨some 16, none, .mov .tk (.tmp 126)⟩, ⟨some 17, none, .mov .tk (.tmp 127)⟩] (some [1, 3, 4, 15, 16, 17])) (.seq (.reg [⟨some 129, none, .mov .cp (.tmp 4)⟩, ⟨some 130, none, .callr 41 [.tmp 129, .con (.int .i64 5), .con (.int .i64 8)]⟩, ⟨some 128, none, .mov .tk (.tmp 130)⟩, ⟨some 131, none, .extract 0 (.tmp 128)⟩, ⟨some 132, none, .extract 1 (.tmp 128)⟩, ⟨some 133, none, .extract 2 (.tmp 128)⟩, ⟨some 18, none, .mov .tk (.tmp 131)⟩, ⟨some 19, none, .mov .tk (.tmp 132)⟩, ⟨some 20, none, .mov .tk (.tmp 133)⟩] (some [1, 3, 15, 16, 17, 18, 19, 20])) (.seq (.reg [⟨some 134, none, .mov .cp (.tmp 17)⟩, ⟨some 135, none, .callr 18 [.tmp 134]⟩, ⟨some 136, none, .bin none .neq (.tmp 135) (.con (.int .i64 0))⟩, ⟨some 137, none, .mov .cp (.tmp 136)⟩, ⟨some 138, some (137, false), .mov .cp (.tmp 20)⟩, ⟨some 139, some (137, false), .callr 18 [.tmp 138]⟩, ⟨some 140, some (137, false), .bin none .neq (.tmp 139) (.con (.int .i64 0))⟩, ⟨some 141, none, .pick (.tmp 137) (.con (.bool true)) (.tmp 140)⟩, ⟨some 142, none, .mov .cp (.tmp 141)⟩, ⟨some 143, some (142, false), .mov .cp (.tmp 16)⟩, ⟨some 144, some (142, false), .bin none .neq (.tmp 143) (.con (.int .i64 0))⟩, ⟨some 145, none, .pick (.tmp 142) (.con (.bool true)) (.tmp 144)⟩, ⟨some 146, none, .mov .cp (.tmp 145)⟩, ⟨some 147, some (146, false), .mov .cp (.tmp 19)⟩, ⟨some 148, some (146, false), .bin none .neq (.tmp 147) (.con (.int .i64 0))⟩, ⟨some 149, none, .pick (.tmp 146) (.con (.bool true)) (.tmp 148)⟩, ⟨some 150, none, .mov .cp (.tmp 149)⟩, ⟨some 151, some (150, false), .mov .cp (.tmp 15)⟩, ⟨some 152, some (150, false), .len false (.tmp 151)⟩, ⟨some 153, some (150, false), .bin none .neq (.tmp 152) (.con (.int .i64 0))⟩, ⟨some 154, none, .pick (.tmp 150) (.con (.bool true)) (.tmp 153)⟩, ⟨some 155, none, .mov .cp (.tmp 154)⟩, ⟨some 156, some (155, false), .mov .cp (.tmp 18)⟩, ⟨some 157, some (155, false), .len false (.tmp 156)⟩, ⟨some 158, some (155, false), .bin none .neq (.tmp 157) (.con (.int .i64 0))⟩, ⟨some 159, none, .pick (.tmp 155) (.con (.bool true)) (.tmp 158)⟩] (some [1, 3, 159])) (.cond (.tmp 159) (.seq (.reg [⟨some 2, none, .mov .tk (.con (.bool false))⟩] (some [2])) .ret) .skip))))))))))) (.reg [⟨some 32, none, .mov .cp (.tmp 3)⟩, ⟨some 33, none, .bin none .add (.tmp 32) (.con (.int .i64 1))⟩, ⟨some 3, none, .mov .tk (.tmp 33)⟩] (some [1, 3]))))))) (.seq (.reg [⟨some 160, none, .callr 24 []⟩, ⟨some 2, none, .mov .tk (.tmp 160)⟩] (some [2])) .ret)))
def pf8 : PFunc := ⟨1, [.ro], g8.un, [.tmp 2], b8⟩
theorem pe8 : prepF Go.Proofs.Try.prog a8 Go.Proofs.Try.f8 = some pf8 := by kernel_rfl
def b9 : IC := .seq (.reg [⟨some 1, none, .box (.tmp 0)⟩, ⟨some 2, none, .mov .tk (.con (.bool false))⟩] (some [1])) (.seq (.reg [⟨some 17, none, .build true [.d (.sc (.int .i64 0)), .own 84 []] [(0, 1, .con (.int .i64 1073741824))]⟩, ⟨some 3, none, .alloc [.d (.sc (.int .i64 0)), .own 84 []]⟩, ⟨none, none, .store 2 (.tmp 3) (.tmp 17)⟩] (some [1, 3])) (.seq (.seq (.reg [⟨some 4, none, .mov .tk (.con (.int .i64 0))⟩] (some [1, 3, 4])) (.block 0 (.loop (.seq (.seq (.reg [⟨some 18, none, .mov .cp (.tmp 4)⟩, ⟨some 19, none, .bin none .lss (.tmp 18) (.con (.int .i64 64))⟩] (some [1, 3, 4, 19])) (.cond (.tmp 19) .skip (.exit 0))) (.seq (.block 1 (.seq (.reg [⟨some 22, none, .bslice 5 [.d (.sc (.int .u8 0))] 12 [(0, .con (.int .u8 107)), (1, .con (.int .u8 107)), (2, .con (.int .u8 107)), (3, .con (.int .u8 107)), (4, .con (.int .u8 107)), (5, .con (.int .u8 107)), (6, .con (.int .u8 107)), (7, .con (.int .u8 107)), (8, .con (.int .u8 107)), (9, .con (.int .u8 107)), (10, .con (.int .u8 107)), (11, .con (.int .u8 107))]⟩, ⟨some 23, none, .s2s (.tmp 22)⟩, ⟨some 5, none, .mov .tk (.tmp 23)⟩] (some [1, 3, 4, 5])) (.seq (.reg [⟨some 24, none, .mov .cp (.tmp 5)⟩, ⟨some 25, none, .mov .cp (.tmp 5)⟩, ⟨some 26, none, .mov .cp (.tmp 4)⟩, ⟨some 27, none, .bin none .quo (.tmp 26) (.con (.int .i64 8))⟩, ⟨some 28, none, .bin none .add (.con (.int .i64 97)) (.tmp 27)⟩, ⟨some 29, none, .conv .u8 (.tmp 28)⟩, ⟨some 30, none, .mov .cp (.tmp 4)⟩, ⟨some 31, none, .bin none .rem (.tmp 30) (.con (.int .i64 8))⟩, ⟨some 32, none, .bin none .add (.con (.int .i64 97)) (.tmp 31)⟩, ⟨some 33, none, .conv .u8 (.tmp 32)⟩, ⟨some 34, none, .indexA 1 (.tmp 24) (.con (.int .i64 0))⟩, ⟨none, none, .store 1 (.tmp 34) (.tmp 29)⟩, ⟨some 35, none, .indexA 1 (.tmp 25) (.con (.int .i64 1))⟩, ⟨none, none, .store 1 (.tmp 35) (.tmp 33)⟩] (some [1, 3, 4, 5])) (.reg [⟨some 36, none, .fieldA 1 (.tmp 3)⟩, ⟨some 37, none, .load .cp false 1 (.tmp 36)⟩, ⟨some 38, none, .mov .cp (.tmp 4)⟩, ⟨some 39, none, .bin none .rem (.tmp 38) (.con (.int .i64 3))⟩, ⟨some 40, none, .mov .cp (.tmp 5)⟩, ⟨some 41, none, .b2s (.tmp 40)⟩, ⟨some 42, none, .build true [.d (.sc (.int .i64 0)), .d (.sc (.string (bs []))), .d (.sc (.string (bs []))), .d (.sc (.bool false))] [(0, 1, .tmp 39), (1, 1, .tmp 41), (2, 1, .con (.str (bs [118, 118, 118, 118, 118, 118, 118, 118, 118, 118, 118, 118, 118, 118, 118, 118, 118, 118, 118, 118])))]⟩, ⟨some 43, none, .bslice 84 [.d (.sc (.int .i64 0)), .d (.sc (.string (bs []))), .d (.sc (.string (bs []))), .d (.sc (.bool false))] 1 [(0, .tmp 42)]⟩, ⟨some 44, none, .app false 84 4 48 (.tmp 37) (.tmp 43)⟩, ⟨some 45, none, .fieldA 1 (.tmp 3)⟩, ⟨none, none, .store 1 (.tmp 45) (.tmp 44)⟩] (some [1, 3, 4]))))) (.reg [⟨some 20, none, .mov .cp (.tmp 4)⟩, ⟨some 21, none, .bin none .add (.tmp 20) (.con (.int .i64 1))⟩, ⟨some 4, none, .mov .tk (.tmp 21)⟩] (some [1, 3, 4]))))))) (.seq (.reg [⟨some 47, none, .load .cp true 2 (.tmp 3)⟩, ⟨some 48, none, .callr 14 [.tmp 47]⟩, ⟨some 46, none, .mov .tk (.tmp 48)⟩, ⟨some 49, none, .extract 0 (.tmp 46)⟩, ⟨some 50, none, .extract 1 (.tmp 46)⟩, ⟨some 6, none, .mov .tk (.tmp 49)⟩, ⟨some 7, none, .mov .tk (.tmp 50)⟩] (some [1, 3, 6, 7])) (.seq (.reg [⟨some 52, none, .mov .cp (.tmp 6)⟩, ⟨some 53, none, .callr 21 [.tmp 52]⟩, ⟨some 51, none, .mov .tk (.tmp 53)⟩, ⟨some 54, none, .extract 0 (.tmp 51)⟩, ⟨some 55, none, .extract 1 (.tmp 51)⟩, ⟨some 8, none, .alloc [.d (.sc (.int .i64 0)), .own 84 []]⟩, ⟨none, none, .store 2 (.tmp 8) (.tmp 54)⟩, ⟨some 9, none, .mov .tk (.tmp 55)⟩] (some [1, 3, 7, 8, 9])) (.seq (.reg [⟨some 57, none, .load .cp true 2 (.tmp 3)⟩, ⟨some 58, none, .callr 40 [.tmp 57, .con (.int .i64 3), .con (.int .i64 4)]⟩, ⟨some 56, none, .mov .tk (.tmp 58)⟩, ⟨some 59, none, .extract 0 (.tmp 56)⟩, ⟨some 60, none, .extract 1 (.tmp 56)⟩, ⟨some 10, none, .mov .tk (.tmp 59)⟩, ⟨some 11, none, .mov .tk (.tmp 60)⟩] (some [1, 3, 7, 8, 9, 10, 11])) (.seq (.reg [⟨some 62, none, .mov .cp (.tmp 10)⟩, ⟨some 63, none, .callr 41 [.tmp 62, .con (.int .i64 3), .con (.int .i64 4)]⟩, ⟨some 61, none, .mov .tk (.tmp 63)⟩, ⟨some 64, none, .extract 0 (.tmp 61)⟩, ⟨some 65, none, .extract 1 (.tmp 61)⟩, ⟨some 66, none, .extract 2 (.tmp 61)⟩, ⟨some 12, none, .mov .tk (.tmp 64)⟩, ⟨some 13, none, .mov .tk (.tmp 65)⟩, ⟨some 14, none, .mov .tk (.tmp 66)⟩] (some [1, 3, 7, 8, 9, 10, 11, 12, 13, 14])) (.seq (.reg [⟨some 68, none, .fieldA 1 (.tmp 3)⟩, ⟨some 69, none, .load .cp false 1 (.tmp 68)⟩, ⟨some 70, none, .build true [.d (.sc (.int .i64 0)), .d (.sc (.string (bs []))), .d (.sc (.string (bs []))), .d (.sc (.bool false))] [(1, 1, .con (.str (bs [97])))]⟩, ⟨some 71, none, .bslice 84 [.d (.sc (.int .i64 0)), .d (.sc (.string (bs []))), .d (.sc (.string (bs []))), .d (.sc (.bool false))] 1 [(0, .tmp 70)]⟩, ⟨some 72, none, .appd 84 4 48 (.tmp 69) (.tmp 71)⟩, ⟨some 73, none, .build true [.d (.sc (.int .i64 0)), .own 84 []] [(0, 1, .con (.int .i64 1)), (1, 1, .tmp 72)]⟩, ⟨some 74, none, .callr 14 [.tmp 73]⟩, ⟨some 67, none, .mov .tk (.tmp 74)⟩, ⟨some 75, none, .extract 0 (.tmp 67)⟩, ⟨some 76, none, .extract 1 (.tmp 67)⟩, ⟨some 15, none, .mov .tk (.tmp 75)⟩, ⟨some 16, none, .mov .tk (.tmp 76)⟩] (some [1, 3, 7, 8, 9, 10, 11, 12, 13, 14, 16])) (.seq (.drw [(⟨some 77, none, .mov .cp (.tmp 7)⟩, false, [7]), (⟨some 78, none, .callr 18 [.tmp 77]⟩, false, [7, 77]), (⟨some 79, none, .mov .cp (.tmp 9)⟩, false, [9]), (⟨some 80, none, .callr 18 [.tmp 79]⟩, false, [9, 79]), (⟨some 81, none, .bin none .add (.tmp 78) (.tmp 80)⟩, false, [78, 80]), (⟨some 82, none, .mov .cp (.tmp 11)⟩, false, [11]), (⟨some 83, none, .callr 18 [.tmp 82]⟩, false, [11, 82]), (⟨some 84, none, .bin none .add (.tmp 81) (.tmp 83)⟩, false, [81, 83]), (⟨some 85, none, .mov .cp (.tmp 14)⟩, false, [14]), (⟨some 86, none, .callr 18 [.tmp 85]⟩, false, [14, 85]), (⟨some 87, none, .bin none .add (.tmp 84) (.tmp 86)⟩, false, [84, 86]), (⟨some 88, none, .bin none .eql (.tmp 87) (.con (.int .i64 0))⟩, false, [87]), (⟨some 89, none, .mov .cp (.tmp 88)⟩, false, [88]), (⟨some 90, some (89, true), .load .cp true 2 (.tmp 8)⟩, false, [8, 89]), (⟨some 91, some (89, true), .load .cp true 2 (.tmp 3)⟩, false, [3, 89]), (⟨some 92, some (89, true), .callr 20 [.tmp 90, .tmp 91]⟩, false, [3, 8, 89, 90, 91]), (⟨some 93, none, .pick (.tmp 89) (.tmp 92) (.con (.bool false))⟩, false, [89, 92]), (⟨some 94, none, .mov .cp (.tmp 93)⟩, false, [93]), (⟨some 95, some (94, true), .mov .cp (.tmp 12)⟩, false, [12, 94]), (⟨some 96, some (94, true), .len false (.tmp 95)⟩, false, [12, 94, 95]), (⟨some 97, some (94, true), .bin none .eql (.tmp 96) (.con (.int .i64 1))⟩, false, [94, 96]), (⟨some 98, none, .pick (.tmp 94) (.tmp 97) (.con (.bool false))⟩, false, [94, 97]), (⟨some 99, none, .mov .cp (.tmp 98)⟩, false, [98]), (⟨some 100, some (99, true), .mov .cp (.tmp 12)⟩, false, [12, 99]), (⟨some 101, some (99, true), .indexA 2 (.tmp 100) (.con (.int .i64 0))⟩, false, [12, 99, 100]), (⟨some 102, some (99, true), .load .cp true 2 (.tmp 101)⟩, false, [12, 99, 100, 101]), (⟨some 103, some (99, true), .load .cp true 2 (.tmp 3)⟩, false, [3, 99]), (⟨some 104, some (99, true), .callr 20 [.tmp 102, .tmp 103]⟩, false, [3, 12, 99, 100, 101, 102, 103]), (⟨some 105, none, .pick (.tmp 99) (.tmp 104) (.con (.bool false))⟩, false, [99, 104]), (⟨some 106, none, .mov .cp (.tmp 105)⟩, false, [105]), (⟨some 107, some (106, true), .mov .cp (.tmp 13)⟩, false, [13, 106]), (⟨some 108, some (106, true), .mov .cp (.tmp 10)⟩, false, [10, 106]), (⟨some 109, some (106, true), .len false (.tmp 108)⟩, false, [10, 106, 108]), (⟨some 110, some (106, true), .bin none .eql (.tmp 107) (.tmp 109)⟩, false, [106, 107, 109]), (⟨some 111, none, .pick (.tmp 106) (.tmp 110) (.con (.bool false))⟩, false, [106, 110]), (⟨some 112, none, .mov .cp (.tmp 111)⟩, false, [111]), (⟨some 113, some (112, true), .mov .cp (.tmp 16)⟩, false, [16, 112]), (⟨some 114, some (112, true), .callr 18 [.tmp 113]⟩, false, [16, 112, 113]), (⟨some 115, some (112, true), .bin none .eql (.tmp 114) (.con (.int .i64 1))⟩, false, [112, 114]), (⟨some 116, none, .pick (.tmp 112) (.tmp 115) (.con (.bool false))⟩, false, [112, 115]), (⟨some 117, none, .mov .cp (.tmp 116)⟩, false, [116]), (⟨some 118, some (117, true), .fieldA 2 (.tmp 1)⟩, false, [1, 117]), (⟨some 119, some (117, true), .load .cp false 1 (.tmp 118)⟩, false, [1, 117, 118]), (⟨some 120, some (117, true), .len false (.tmp 119)⟩, false, [1, 117, 118, 119]), (⟨some 121, some (117, true), .bin none .geq (.tmp 120) (.con (.int .i64 0))⟩, false, [117, 120]), (⟨some 122, none, .pick (.tmp 117) (.tmp 121) (.con (.bool false))⟩, false, [117, 121]), (⟨some 123, none, .mov .cp (.tmp 122)⟩, false, [122]), (⟨some 124, some (123, true), .callr 24 []⟩, false, [123]), (⟨some 125, none, .pick (.tmp 123) (.tmp 124) (.con (.bool false))⟩, false, [123, 124]), (⟨some 2, none, .mov .tk (.tmp 125)⟩, true, [2, 125])] (some [2])) .ret))))))))
def pf9 : PFunc := ⟨1, [.ro], g9.un, [.tmp 2], b9⟩
theorem pe9 : prepF Go.Proofs.Try.prog a9 Go.Proofs.Try.f9 = some pf9 := by kernel_rfl
def b10 : IC := .seq (.reg [⟨some 1, none, .box (.tmp 0)⟩, ⟨some 2, none, .mov .tk (.con (.bool false))⟩] (some [1])) (.seq (.seq (.reg [⟨some 16, none, .load .cp true 4 (.tmp 1)⟩, ⟨some 17, none, .callr 11 [.tmp 16]⟩] (some [1, 17])) (.cond (.tmp 17) (.seq (.reg [⟨some 2, none, .mov .tk (.con (.bool true))⟩] (some [2])) .ret) .skip)) (.seq (.reg [⟨some 3, none, .mov .tk (.con (.vs false [.own 9 []]))⟩] (some [1, 3])) (.seq (.reg [⟨some 4, none, .mov .tk (.con (.vs false [.own 32 []]))⟩] (some [1, 3, 4])) (.seq (.seq (.reg [⟨some 5, none, .mov .tk (.con (.int .i64 0))⟩] (some [1, 3, 4, 5])) (.block 0 (.loop (.seq (.seq (.reg [⟨some 18, none, .mov .cp (.tmp 5)⟩, ⟨some 19, none, .fieldA 0 (.tmp 1)⟩, ⟨some 20, none, .load .cp false 1 (.tmp 19)⟩, ⟨some 21, none, .len false (.tmp 20)⟩, ⟨some 22, none, .bin none .lss (.tmp 18) (.tmp 21)⟩, ⟨some 23, none, .mov .cp (.tmp 22)⟩, ⟨some 24, some (23, true), .mov .cp (.tmp 5)⟩, ⟨some 25, some (23, true), .bin none .lss (.tmp 24) (.con (.int .i64 6))⟩, ⟨some 26, none, .pick (.tmp 23) (.tmp 25) (.con (.bool false))⟩] (some [1, 3, 4, 5, 26])) (.cond (.tmp 26) .skip (.exit 0))) (.seq (.block 1 (.seq (.reg [⟨some 30, none, .fieldA 0 (.tmp 1)⟩, ⟨some 31, none, .load .cp false 1 (.tmp 30)⟩, ⟨some 32, none, .mov .cp (.tmp 5)⟩, ⟨some 33, none, .indexA 2 (.tmp 31) (.tmp 32)⟩, ⟨some 34, none, .load .cp true 2 (.tmp 33)⟩, ⟨some 35, none, .mov .cp (.tmp 4)⟩, ⟨some 36, none, .len false (.tmp 35)⟩, ⟨some 37, none, .bin none .add (.con (.int .i64 1)) (.tmp 36)⟩, ⟨some 38, none, .callr 40 [.tmp 34, .con (.int .i64 2), .tmp 37]⟩, ⟨some 29, none, .mov .tk (.tmp 38)⟩, ⟨some 39, none, .extract 0 (.tmp 29)⟩, ⟨some 40, none, .extract 1 (.tmp 29)⟩, ⟨some 6, none, .mov .tk (.tmp 39)⟩, ⟨some 7, none, .mov .tk (.tmp 40)⟩] (some [1, 3, 4, 5, 6, 7])) (.seq (.seq (.reg [⟨some 41, none, .mov .cp (.tmp 7)⟩, ⟨some 42, none, .callr 18 [.tmp 41]⟩, ⟨some 43, none, .bin none .neq (.tmp 42) (.con (.int .i64 0))⟩] (some [1, 3, 4, 5, 6, 43])) (.cond (.tmp 43) (.exit 1) .skip)) (.seq (.reg [⟨some 44, none, .mov .cp (.tmp 3)⟩, ⟨some 45, none, .mov .cp (.tmp 6)⟩, ⟨some 46, none, .app false 9 1 16 (.tmp 44) (.tmp 45)⟩, ⟨some 3, none, .mov .tk (.tmp 46)⟩] (some [1, 3, 4, 5])) (.reg [⟨some 47, none, .mov .cp (.tmp 4)⟩, ⟨some 48, none, .fieldA 0 (.tmp 1)⟩, ⟨some 49, none, .load .cp false 1 (.tmp 48)⟩, ⟨some 50, none, .mov .cp (.tmp 5)⟩, ⟨some 51, none, .indexA 2 (.tmp 49) (.tmp 50)⟩, ⟨some 52, none, .load .cp true 2 (.tmp 51)⟩, ⟨some 53, none, .bslice 32 [.d (.sc (.int .i64 0)), .own 84 []] 1 [(0, .tmp 52)]⟩, ⟨some 54, none, .app false 32 2 32 (.tmp 47) (.tmp 53)⟩, ⟨some 4, none, .mov .tk (.tmp 54)⟩] (some [1, 3, 4, 5])))))) (.reg [⟨some 27, none, .mov .cp (.tmp 5)⟩, ⟨some 28, none, .bin none .add (.tmp 27) (.con (.int .i64 1))⟩, ⟨some 5, none, .mov .tk (.tmp 28)⟩] (some [1, 3, 4, 5]))))))) (.seq (.reg [⟨some 56, none, .mov .cp (.tmp 3)⟩, ⟨some 57, none, .callr 41 [.tmp 56, .con (.int .i64 2), .con (.int .i64 1)]⟩, ⟨some 55, none, .mov .tk (.tmp 57)⟩, ⟨some 58, none, .extract 0 (.tmp 55)⟩, ⟨some 59, none, .extract 1 (.tmp 55)⟩, ⟨some 60, none, .extract 2 (.tmp 55)⟩, ⟨some 8, none, .mov .tk (.tmp 58)⟩, ⟨some 9, none, .mov .tk (.tmp 59)⟩, ⟨some 10, none, .mov .tk (.tmp 60)⟩] (some [3, 4, 8, 9, 10])) (.seq (.seq (.reg [⟨some 61, none, .mov .cp (.tmp 10)⟩, ⟨some 62, none, .callr 18 [.tmp 61]⟩, ⟨some 63, none, .bin none .neq (.tmp 62) (.con (.int .i64 0))⟩, ⟨some 64, none, .mov .cp (.tmp 63)⟩, ⟨some 65, some (64, false), .mov .cp (.tmp 9)⟩, ⟨some 66, some (64, false), .mov .cp (.tmp 3)⟩, ⟨some 67, some (64, false), .len false (.tmp 66)⟩, ⟨some 68, some (64, false), .bin none .neq (.tmp 65) (.tmp 67)⟩, ⟨some 69, none, .pick (.tmp 64) (.con (.bool true)) (.tmp 68)⟩, ⟨some 70, none, .mov .cp (.tmp 69)⟩, ⟨some 71, some (70, false), .mov .cp (.tmp 8)⟩, ⟨some 72, some (70, false), .mov .cp (.tmp 4)⟩, ⟨some 73, some (70, false), .callr 42 [.tmp 71, .tmp 72]⟩, ⟨some 74, some (70, false), .un .not (.tmp 73)⟩, ⟨some 75, none, .pick (.tmp 70) (.con (.bool true)) (.tmp 74)⟩] (some [3, 4, 75])) (.cond (.tmp 75) (.seq (.reg [⟨some 2, none, .mov .tk (.con (.bool false))⟩] (some [2])) .ret) .skip)) (.seq (.seq (.reg [⟨some 76, none, .mov .cp (.tmp 4)⟩, ⟨some 77, none, .len false (.tmp 76)⟩, ⟨some 78, none, .bin none .gtr (.tmp 77) (.con (.int .i64 0))⟩] (some [3, 4, 78])) (.cond (.tmp 78) (.seq (.reg [⟨some 80, none, .mov .cp (.tmp 4)⟩, ⟨some 81, none, .indexA 2 (.tmp 80) (.con (.int .i64 0))⟩, ⟨some 82, none, .load .cp true 2 (.tmp 81)⟩, ⟨some 83, none, .mov .cp (.tmp 4)⟩, ⟨some 84, none, .len false (.tmp 83)⟩, ⟨some 85, none, .bin none .add (.tmp 84) (.con (.int .i64 2))⟩, ⟨some 86, none, .callr 40 [.tmp 82, .con (.int .i64 2), .tmp 85]⟩, ⟨some 79, none, .mov .tk (.tmp 86)⟩, ⟨some 87, none, .extract 0 (.tmp 79)⟩, ⟨some 88, none, .extract 1 (.tmp 79)⟩, ⟨some 11, none, .mov .tk (.tmp 87)⟩, ⟨some 12, none, .mov .tk (.tmp 88)⟩] (some [3, 4, 11, 12])) (.seq (.reg [⟨some 90, none, .mov .cp (.tmp 3)⟩, ⟨some 91, none, .callr 12 [.tmp 90]⟩, ⟨some 92, none, .mov .cp (.tmp 11)⟩, ⟨some 93, none, .app false 9 1 16 (.tmp 91) (.tmp 92)⟩, ⟨some 94, none, .callr 41 [.tmp 93, .con (.int .i64 2), .con (.int .i64 1)]⟩, ⟨some 89, none, .mov .tk (.tmp 94)⟩, ⟨some 95, none, .extract 0 (.tmp 89)⟩, ⟨some 96, none, .extract 1 (.tmp 89)⟩, ⟨some 97, none, .extract 2 (.tmp 89)⟩, ⟨some 13, none, .mov .tk (.tmp 95)⟩, ⟨some 14, none, .mov .tk (.tmp 96)⟩, ⟨some 15, none, .mov .tk (.tmp 97)⟩] (some [3, 4, 12, 13, 14, 15])) (.seq (.reg [⟨some 98, none, .mov .cp (.tmp 12)⟩, ⟨some 99, none, .callr 18 [.tmp 98]⟩, ⟨some 100, none, .bin none .neq (.tmp 99) (.con (.int .i64 0))⟩, ⟨some 101, none, .mov .cp (.tmp 100)⟩, ⟨some 102, some (101, false), .mov .cp (.tmp 15)⟩, ⟨some 103, some (101, false), .callr 18 [.tmp 102]⟩, ⟨some 104, some (101, false), .bin none .neq (.tmp 103) (.con (.int .i64 0))⟩, ⟨some 105, none, .pick (.tmp 101) (.con (.bool true)) (.tmp 104)⟩, ⟨some 106, none, .mov .cp (.tmp 105)⟩, ⟨some 107, some (106, false), .mov .cp (.tmp 14)⟩, ⟨some 108, some (106, false), .mov .cp (.tmp 3)⟩, ⟨some 109, some (106, false), .len false (.tmp 108)⟩, ⟨some 110, some (106, false), .bin none .neq (.tmp 107) (.tmp 109)⟩, ⟨some 111, none, .pick (.tmp 106) (.con (.bool true)) (.tmp 110)⟩, ⟨some 112, none, .mov .cp (.tmp 111)⟩, ⟨some 113, some (112, false), .mov .cp (.tmp 13)⟩, ⟨some 114, some (112, false), .mov .cp (.tmp 4)⟩, ⟨some 115, some (112, false), .callr 42 [.tmp 113, .tmp 114]⟩, ⟨some 116, some (112, false), .un .not (.tmp 115)⟩, ⟨some 117, none, .pick (.tmp 112) (.con (.bool true)) (.tmp 116)⟩] (some [117])) (.cond (.tmp 117) (.seq (.reg [⟨some 2, none, .mov .tk (.con (.bool false))⟩] (some [2])) .ret) .skip)))) .skip)) (.seq (.reg [⟨some 118, none, .callr 24 []⟩, ⟨some 2, none, .mov .tk (.tmp 118)⟩] (some [2])) .ret))))))))
def pf10 : PFunc := ⟨1, [.ro], g10.un, [.tmp 2], b10⟩
theorem pe10 : prepF Go.Proofs.Try.prog a10 Go.Proofs.Try.f10 = some pf10 := by kernel_rfl
def b11 : IC := .seq (.reg [⟨some 1, none, .box (.tmp 0)⟩, ⟨some 2, none, .mov .tk (.con (.bool false))⟩] (some [1])) (.seq (.drw [(⟨some 5, none, .fieldA 0 (.tmp 1)⟩, false, [1]), (⟨some 6, none, .load .cp false 1 (.tmp 5)⟩, false, [1, 5]), (⟨some 7, none, .callr 43 [.tmp 6]⟩, false, [1, 5, 6]), (⟨some 8, none, .bin none .mul (.tmp 7) (.con (.int .i64 8))⟩, false, [7]), (⟨some 9, none, .fieldA 1 (.tmp 1)⟩, false, [1]), (⟨some 10, none, .load .cp false 1 (.tmp 9)⟩, false, [1, 9]), (⟨some 11, none, .callr 44 [.tmp 10]⟩, false, [1, 9, 10]), (⟨some 12, none, .bin none .add (.tmp 8) (.tmp 11)⟩, false, [8, 11]), (⟨some 13, none, .fieldA 2 (.tmp 1)⟩, false, [1]), (⟨some 14, none, .load .cp false 1 (.tmp 13)⟩, false, [1, 13]), (⟨some 15, none, .len false (.tmp 14)⟩, false, [1, 13, 14]), (⟨some 16, none, .bin none .add (.tmp 12) (.tmp 15)⟩, false, [12, 15]), (⟨some 17, none, .fieldA 3 (.tmp 1)⟩, false, [1]), (⟨some 18, none, .load .cp false 1 (.tmp 17)⟩, false, [1, 17]), (⟨some 19, none, .len false (.tmp 18)⟩, false, [1, 17, 18]), (⟨some 20, none, .bin none .add (.tmp 16) (.tmp 19)⟩, false, [16, 19]), (⟨some 3, none, .mov .tk (.tmp 20)⟩, true, [3, 20])] (some [1, 3])) (.seq (.seq (.reg [⟨some 4, none, .mov .tk (.con (.int .i64 0))⟩] (some [1, 3, 4])) (.block 0 (.loop (.seq (.seq (.reg [⟨some 21, none, .mov .cp (.tmp 4)⟩, ⟨some 22, none, .fieldA 3 (.tmp 1)⟩, ⟨some 23, none, .load .cp false 1 (.tmp 22)⟩, ⟨some 24, none, .len false (.tmp 23)⟩, ⟨some 25, none, .bin none .lss (.tmp 21) (.tmp 24)⟩, ⟨some 26, none, .mov .cp (.tmp 25)⟩, ⟨some 27, some (26, true), .mov .cp (.tmp 3)⟩, ⟨some 28, some (26, true), .bin none .lss (.tmp 27) (.con (.int .i64 1048576))⟩, ⟨some 29, none, .pick (.tmp 26) (.tmp 28) (.con (.bool false))⟩] (some [1, 3, 4, 29])) (.cond (.tmp 29) .skip (.exit 0))) (.seq (.block 1 (.reg [⟨some 32, none, .mov .cp (.tmp 3)⟩, ⟨some 33, none, .fieldA 3 (.tmp 1)⟩, ⟨some 34, none, .load .cp false 1 (.tmp 33)⟩, ⟨some 35, none, .mov .cp (.tmp 4)⟩, ⟨some 36, none, .indexA 1 (.tmp 34) (.tmp 35)⟩, ⟨some 37, none, .load .cp false 1 (.tmp 36)⟩, ⟨some 38, none, .callr 44 [.tmp 37]⟩, ⟨some 39, none, .bin none .add (.tmp 32) (.tmp 38)⟩, ⟨some 3, none, .mov .tk (.tmp 39)⟩] (some [1, 3, 4]))) (.reg [⟨some 30, none, .mov .cp (.tmp 4)⟩, ⟨some 31, none, .bin none .add (.tmp 30) (.con (.int .i64 1))⟩, ⟨some 4, none, .mov .tk (.tmp 31)⟩] (some [1, 3, 4]))))))) (.seq (.reg [⟨some 40, none, .mov .cp (.tmp 3)⟩, ⟨some 41, none, .bin none .gtr (.tmp 40) (.con (.int .i64 6000))⟩, ⟨some 2, none, .mov .tk (.tmp 41)⟩] (some [2])) .ret)))
def pf11 : PFunc := ⟨1, [.ro], g11.un, [.tmp 2], b11⟩
theorem pe11 : prepF Go.Proofs.Try.prog a11 Go.Proofs.Try.f11 = some pf11 := by kernel_rfl
def b12 : IC := .seq (.reg [⟨some 2, none, .mov .tk (.con (.vs false [.own 9 []]))⟩] (some [0])) (.seq (.reg [⟨some 3, none, .mov .tk (.con (.vs false [.own 9 []]))⟩] (some [0, 3])) (.seq (.seq (.reg [⟨some 4, none, .mov .tk (.con (.int .i64 0))⟩] (some [0, 3, 4])) (.block 0 (.loop (.seq (.seq (.reg [⟨some 5, none, .mov .cp (.tmp 4)⟩, ⟨some 6, none, .mov .cp (.tmp 0)⟩, ⟨some 7, none, .len false (.tmp 6)⟩, ⟨some 8, none, .bin none .lss (.tmp 5) (.tmp 7)⟩] (some [0, 3, 4, 8])) (.cond (.tmp 8) .skip (.exit 0))) (.seq (.block 1 (.reg [⟨some 11, none, .mov .cp (.tmp 3)⟩, ⟨some 12, none, .mov .cp (.tmp 0)⟩, ⟨some 13, none, .mov .cp (.tmp 4)⟩, ⟨some 14, none, .indexA 1 (.tmp 12) (.tmp 13)⟩, ⟨some 15, none, .load .cp false 1 (.tmp 14)⟩, ⟨some 16, none, .bslice 9 [.d (.sc (.string (bs [])))] 1 [(0, .tmp 15)]⟩, ⟨some 17, none, .app false 9 1 16 (.tmp 11) (.tmp 16)⟩, ⟨some 3, none, .mov .tk (.tmp 17)⟩] (some [0, 3, 4]))) (.reg [⟨some 9, none, .mov .cp (.tmp 4)⟩, ⟨some 10, none, .bin none .add (.tmp 9) (.con (.int .i64 1))⟩, ⟨some 4, none, .mov .tk (.tmp 10)⟩] (some [0, 3, 4]))))))) (.seq (.reg [⟨some 18, none, .mov .cp (.tmp 3)⟩, ⟨some 2, none, .mov .tk (.tmp 18)⟩] (some [2, 3])) .ret)))
def pf12 : PFunc := ⟨1, [.ro], g12.un, [.tmp 2], b12⟩
theorem pe12 : prepF Go.Proofs.Try.prog a12 Go.Proofs.Try.f12 = some pf12 := by kernel_rfl
def b18 : IC := .seq (.reg [⟨some 2, none, .mov .tk (.con (.int .i64 0))⟩] (some [0])) (.seq (.reg [⟨some 3, none, .mov .cp (.tmp 0)⟩, ⟨some 2, none, .mov .tk (.tmp 3)⟩] (some [2])) .ret)
def pf18 : PFunc := ⟨1, [.ro], g18.un, [.tmp 2], b18⟩
theorem pe18 : prepF Go.Proofs.Try.prog a18 Go.Proofs.Try.f18 = some pf18 := by kernel_rfl
def b20 : IC := .seq (.reg [⟨some 2, none, .box (.tmp 0)⟩, ⟨some 3, none, .box (.tmp 1)⟩, ⟨some 4, none, .mov .tk (.con (.bool false))⟩] (some [2, 3])) (.seq (.reg [⟨some 5, none, .fieldA 0 (.tmp 2)⟩, ⟨some 6, none, .load .cp false 1 (.tmp 5)⟩, ⟨some 7, none, .fieldA 0 (.tmp 3)⟩, ⟨some 8, none, .load .cp false 1 (.tmp 7)⟩, ⟨some 9, none, .bin none .eql (.tmp 6) (.tmp 8)⟩, ⟨some 10, none, .mov .cp (.tmp 9)⟩, ⟨some 11, some (10, true), .fieldA 1 (.tmp 2)⟩, ⟨some 12, some (10, true), .load .cp false 1 (.tmp 11)⟩, ⟨some 13, some (10, true), .fieldA 1 (.tmp 3)⟩, ⟨some 14, some (10, true), .load .cp false 1 (.tmp 13)⟩, ⟨some 15, some (10, true), .callr 50 [.tmp 12, .tmp 14]⟩, ⟨some 16, none, .pick (.tmp 10) (.tmp 15) (.con (.bool false))⟩, ⟨some 4, none, .mov .tk (.tmp 16)⟩] (some [4])) .ret)
def pf20 : PFunc := ⟨2, [.ro, .ro], g20.un, [.tmp 4], b20⟩
theorem pe20 : prepF Go.Proofs.Try.prog a20 Go.Proofs.Try.f20 = some pf20 := by kernel_rfl
def b24 : IC := .seq (.reg [⟨some 0, none, .mov .tk (.con (.bool false))⟩] (some [])) (.seq (.reg [⟨some 6, none, .build true [.d (.sc (.int .i64 0)), .d (.sc (.string (bs []))), .d (.sc (.string (bs []))), .d (.sc (.bool false))] [(1, 1, .con (.str (bs [97]))), (2, 1, .con (.str (bs [118])))]⟩, ⟨some 7, none, .bslice 84 [.d (.sc (.int .i64 0)), .d (.sc (.string (bs []))), .d (.sc (.string (bs []))), .d (.sc (.bool false))] 1 [(0, .tmp 6)]⟩, ⟨some 8, none, .build true [.d (.sc (.int .i64 0)), .own 84 []] [(0, 1, .con (.int .i64 3)), (1, 1, .tmp 7)]⟩, ⟨some 1, none, .alloc [.d (.sc (.int .i64 0)), .own 84 []]⟩, ⟨none, none, .store 2 (.tmp 1) (.tmp 8)⟩] (some [1])) (.seq (.reg [⟨some 10, none, .load .cp true 2 (.tmp 1)⟩, ⟨some 11, none, .callr 14 [.tmp 10]⟩, ⟨some 9, none, .mov .tk (.tmp 11)⟩, ⟨some 12, none, .extract 0 (.tmp 9)⟩, ⟨some 13, none, .extract 1 (.tmp 9)⟩, ⟨some 2, none, .mov .tk (.tmp 12)⟩, ⟨some 3, none, .mov .tk (.tmp 13)⟩] (some [1, 2, 3])) (.seq (.reg [⟨some 15, none, .mov .cp (.tmp 2)⟩, ⟨some 16, none, .callr 21 [.tmp 15]⟩, ⟨some 14, none, .mov .tk (.tmp 16)⟩, ⟨some 17, none, .extract 0 (.tmp 14)⟩, ⟨some 18, none, .extract 1 (.tmp 14)⟩, ⟨some 4, none, .alloc [.d (.sc (.int .i64 0)), .own 84 []]⟩, ⟨none, none, .store 2 (.tmp 4) (.tmp 17)⟩, ⟨some 5, none, .mov .tk (.tmp 18)⟩] (some [1, 3, 4, 5])) (.seq (.reg [⟨some 19, none, .mov .cp (.tmp 3)⟩, ⟨some 20, none, .callr 18 [.tmp 19]⟩, ⟨some 21, none, .bin none .eql (.tmp 20) (.con (.int .i64 0))⟩, ⟨some 22, none, .mov .cp (.tmp 21)⟩, ⟨some 23, some (22, true), .mov .cp (.tmp 5)⟩, ⟨some 24, some (22, true), .callr 18 [.tmp 23]⟩, ⟨some 25, some (22, true), .bin none .eql (.tmp 24) (.con (.int .i64 0))⟩, ⟨some 26, none, .pick (.tmp 22) (.tmp 25) (.con (.bool false))⟩, ⟨some 27, none, .mov .cp (.tmp 26)⟩, ⟨some 28, some (27, true), .load .cp true 2 (.tmp 4)⟩, ⟨some 29, some (27, true), .load .cp true 2 (.tmp 1)⟩, ⟨some 30, some (27, true), .callr 20 [.tmp 28, .tmp 29]⟩, ⟨some 31, none, .pick (.tmp 27) (.tmp 30) (.con (.bool false))⟩, ⟨some 0, none, .mov .tk (.tmp 31)⟩] (some [0])) .ret))))
def pf24 : PFunc := ⟨0, [], g24.un, [.tmp 0], b24⟩
theorem pe24 : prepF Go.Proofs.Try.prog a24 Go.Proofs.Try.f24 = some pf24 := by kernel_rfl
def b40 : IC := .seq (.reg [⟨some 3, none, .box (.tmp 0)⟩, ⟨some 6, none, .mov .tk (.con (.vs false [.own 9 []]))⟩, ⟨some 7, none, .mov .tk (.con (.int .i64 0))⟩] (some [1, 2, 3])) (.seq (.seq (.reg [⟨some 8, none, .load .cp true 2 (.tmp 3)⟩, ⟨some 9, none, .callr 46 [.tmp 8]⟩, ⟨some 10, none, .un .not (.tmp 9)⟩, ⟨some 11, none, .mov .cp (.tmp 10)⟩, ⟨some 12, some (11, false), .mov .cp (.tmp 1)⟩, ⟨some 13, some (11, false), .callr 76 [.tmp 12]⟩, ⟨some 14, some (11, false), .un .not (.tmp 13)⟩, ⟨some 15, none, .pick (.tmp 11) (.con (.bool true)) (.tmp 14)⟩, ⟨some 16, none, .mov .cp (.tmp 15)⟩, ⟨some 17, some (16, false), .mov .cp (.tmp 2)⟩, ⟨some 18, some (16, false), .callr 76 [.tmp 17]⟩, ⟨some 19, some (16, false), .un .not (.tmp 18)⟩, ⟨some 20, none, .pick (.tmp 16) (.con (.bool true)) (.tmp 19)⟩] (some [1, 2, 3, 20])) (.cond (.tmp 20) (.seq (.reg [⟨some 6, none, .mov .tk (.con (.vs false [.own 9 []]))⟩, ⟨some 7, none, .mov .tk (.con (.int .i64 1))⟩] (some [6, 7])) .ret) .skip)) (.seq (.reg [⟨some 21, none, .load .cp true 2 (.tmp 3)⟩, ⟨some 22, none, .mov .cp (.tmp 1)⟩, ⟨some 23, none, .mov .cp (.tmp 2)⟩, ⟨some 24, none, .callr 77 [.tmp 21, .tmp 22, .tmp 23]⟩, ⟨some 6, none, .mov .tk (.tmp 24)⟩, ⟨some 7, none, .mov .tk (.con (.int .i64 0))⟩] (some [6, 7])) .ret))
def pf40 : PFunc := ⟨3, [.ro, .ro, .ro], g40.un, [.tmp 6, .tmp 7], b40⟩
theorem pe40 : prepF Go.Proofs.Try.prog a40 Go.Proofs.Try.f40 = some pf40 := by kernel_rfl
def b41 : IC := .seq (.reg [⟨some 6, none, .mov .tk (.con (.vs false [.own 32 []]))⟩, ⟨some 7, none, .mov .tk (.con (.int .i64 0))⟩, ⟨some 8, none, .mov .tk (.con (.int .i64 0))⟩] (some [0, 1, 2])) (.seq (.seq (.reg [⟨some 9, none, .mov .cp (.tmp 1)⟩, ⟨some 10, none, .callr 76 [.tmp 9]⟩, ⟨some 11, none, .un .not (.tmp 10)⟩, ⟨some 12, none, .mov .cp (.tmp 11)⟩, ⟨some 13, some (12, false), .mov .cp (.tmp 2)⟩, ⟨some 14, some (12, false), .callr 76 [.tmp 13]⟩, ⟨some 15, some (12, false), .un .not (.tmp 14)⟩, ⟨some 16, none, .pick (.tmp 12) (.con (.bool true)) (.tmp 15)⟩] (some [0, 1, 2, 16])) (.cond (.tmp 16) (.seq (.reg [⟨some 6, none, .mov .tk (.con (.vs false [.own 32 []]))⟩, ⟨some 7, none, .mov .tk (.con (.int .i64 0))⟩, ⟨some 8, none, .mov .tk (.con (.int .i64 1))⟩] (some [6, 7, 8])) .ret) .skip)) (.seq (.reg [⟨some 18, none, .mov .cp (.tmp 0)⟩, ⟨some 19, none, .mov .cp (.tmp 1)⟩, ⟨some 20, none, .mov .cp (.tmp 2)⟩, ⟨some 21, none, .callr 78 [.tmp 18, .tmp 19, .tmp 20]⟩, ⟨some 17, none, .mov .tk (.tmp 21)⟩, ⟨some 22, none, .extract 0 (.tmp 17)⟩, ⟨some 23, none, .extract 1 (.tmp 17)⟩, ⟨some 6, none, .mov .tk (.tmp 22)⟩, ⟨some 7, none, .mov .tk (.tmp 23)⟩] (some [6, 7])) (.seq (.reg [⟨some 24, none, .mov .cp (.tmp 6)⟩, ⟨some 25, none, .mov .cp (.tmp 7)⟩, ⟨some 6, none, .mov .tk (.tmp 24)⟩, ⟨some 7, none, .mov .tk (.tmp 25)⟩, ⟨some 8, none, .mov .tk (.con (.int .i64 0))⟩] (some [6, 7, 8])) .ret)))
def pf41 : PFunc := ⟨3, [.ro, .ro, .ro], g41.un, [.tmp 6, .tmp 7, .tmp 8], b41⟩
theorem pe41 : prepF Go.Proofs.Try.prog a41 Go.Proofs.Try.f41 = some pf41 := by kernel_rfl
def b14 : IC := .seq (.reg [⟨some 1, none, .box (.tmp 0)⟩, ⟨some 2, none, .mov .tk (.con (.str (bs [])))⟩, ⟨some 3, none, .mov .tk (.con (.int .i64 0))⟩] (some [1])) (.seq (.seq (.reg [⟨some 4, none, .load .cp true 2 (.tmp 1)⟩, ⟨some 5, none, .callr 46 [.tmp 4]⟩, ⟨some 6, none, .un .not (.tmp 5)⟩] (some [1, 6])) (.cond (.tmp 6) (.seq (.reg [⟨some 2, none, .mov .tk (.con (.str (bs [])))⟩, ⟨some 3, none, .mov .tk (.con (.int .i64 1))⟩] (some [2, 3])) .ret) .skip)) (.seq (.reg [⟨some 7, none, .load .cp true 2 (.tmp 1)⟩, ⟨some 8, none, .callr 47 [.tmp 7]⟩, ⟨some 2, none, .mov .tk (.tmp 8)⟩, ⟨some 3, none, .mov .tk (.con (.int .i64 0))⟩] (some [2, 3])) .ret))
def pf14 : PFunc := ⟨1, [.ro], g14.un, [.tmp 2, .tmp 3], b14⟩
theorem pe14 : prepF Go.Proofs.Try.prog a14 Go.Proofs.Try.f14 = some pf14 := by kernel_rfl
def b21 : IC := .seq (.reg [⟨some 2, none, .alloc [.d (.sc (.int .i64 0)), .own 84 []]⟩, ⟨some 3, none, .mov .tk (.con (.int .i64 0))⟩] (some [0, 2])) (.seq (.reg [⟨some 7, none, .mov .cp (.tmp 0)⟩, ⟨some 8, none, .build true [.d (.sc (.string (bs []))), .d (.sc (.bool false))] [(0, 1, .tmp 7)]⟩, ⟨some 9, none, .box (.tmp 8)⟩, ⟨some 4, none, .mov .tk (.tmp 9)⟩] (some [2, 4])) (.seq (.reg [⟨some 10, none, .mov .cp (.tmp 4)⟩, ⟨some 11, none, .call 51 [.tmp 10, .con (.int .i64 4)]⟩, ⟨some 12, none, .build true [.d (.sc (.int .i64 0)), .own 84 []] [(0, 1, .tmp 11)]⟩, ⟨some 5, none, .alloc [.d (.sc (.int .i64 0)), .own 84 []]⟩, ⟨none, none, .store 2 (.tmp 5) (.tmp 12)⟩] (some [2, 4, 5])) (.seq (.seq (.reg [⟨some 13, none, .mov .cp (.tmp 4)⟩, ⟨some 14, none, .call 51 [.tmp 13, .con (.int .i64 4)]⟩, ⟨some 6, none, .mov .tk (.tmp 14)⟩] (some [2, 4, 5, 6])) (.block 0 (.loop (.seq (.seq (.reg [⟨some 15, none, .mov .cp (.tmp 6)⟩, ⟨some 16, none, .bin none .gtr (.tmp 15) (.con (.int .i64 0))⟩, ⟨some 17, none, .mov .cp (.tmp 16)⟩, ⟨some 18, some (17, true), .mov .cp (.tmp 4)⟩, ⟨some 19, some (17, true), .nilc (.tmp 18)⟩, ⟨some 20, some (17, true), .fieldA 1 (.tmp 19)⟩, ⟨some 21, some (17, true), .load .cp false 1 (.tmp 20)⟩, ⟨some 22, some (17, true), .un .not (.tmp 21)⟩, ⟨some 23, none, .pick (.tmp 17) (.tmp 22) (.con (.bool false))⟩] (some [2, 4, 5, 6, 23])) (.cond (.tmp 23) .skip (.exit 0))) (.seq (.block 1 (.drw [(⟨some 26, none, .fieldA 1 (.tmp 5)⟩, false, [5]), (⟨some 27, none, .load .cp false 1 (.tmp 26)⟩, false, [5, 26]), (⟨some 28, none, .mov .cp (.tmp 4)⟩, false, [4]), (⟨some 29, none, .call 52 [.tmp 28]⟩, true, [4, 10, 13, 18, 19, 20, 28, 29, 33, 34, 35, 38, 39, 40]), (⟨some 30, none, .bslice 84 [.d (.sc (.int .i64 0)), .d (.sc (.string (bs []))), .d (.sc (.string (bs []))), .d (.sc (.bool false))] 1 [(0, .tmp 29)]⟩, true, [29, 30]), (⟨some 31, none, .app false 84 4 48 (.tmp 27) (.tmp 30)⟩, true, [5, 26, 27, 30, 31, 32, 45, 50]), (⟨some 32, none, .fieldA 1 (.tmp 5)⟩, false, [5]), (⟨none, none, .store 1 (.tmp 32) (.tmp 31)⟩, true, [5, 26, 27, 31, 32, 45, 50])] (some [2, 4, 5, 6]))) (.reg [⟨some 24, none, .mov .cp (.tmp 6)⟩, ⟨some 25, none, .bin none .sub (.tmp 24) (.con (.int .i64 1))⟩, ⟨some 6, none, .mov .tk (.tmp 25)⟩] (some [2, 4, 5, 6]))))))) (.seq (.seq (.reg [⟨some 33, none, .mov .cp (.tmp 4)⟩, ⟨some 34, none, .nilc (.tmp 33)⟩, ⟨some 35, none, .fieldA 1 (.tmp 34)⟩, ⟨some 36, none, .load .cp false 1 (.tmp 35)⟩, ⟨some 37, none, .mov .cp (.tmp 36)⟩, ⟨some 38, some (37, false), .mov .cp (.tmp 4)⟩, ⟨some 39, some (37, false), .nilc (.tmp 38)⟩, ⟨some 40, some (37, false), .fieldA 0 (.tmp 39)⟩, ⟨some 41, some (37, false), .load .cp false 1 (.tmp 40)⟩, ⟨some 42, some (37, false), .bin none .neq (.tmp 41) (.con (.str (bs [])))⟩, ⟨some 43, none, .pick (.tmp 37) (.con (.bool true)) (.tmp 42)⟩, ⟨some 44, none, .mov .cp (.tmp 43)⟩, ⟨some 45, some (44, false), .load .cp true 2 (.tmp 5)⟩, ⟨some 46, some (44, false), .callr 46 [.tmp 45]⟩, ⟨some 47, some (44, false), .un .not (.tmp 46)⟩, ⟨some 48, none, .pick (.tmp 44) (.con (.bool true)) (.tmp 47)⟩] (some [2, 5, 48])) (.cond (.tmp 48) (.seq (.reg [⟨some 49, none, .build true [.d (.sc (.int .i64 0)), .own 84 []] []⟩, ⟨none, none, .store 2 (.tmp 2) (.tmp 49)⟩, ⟨some 3, none, .mov .tk (.con (.int .i64 10))⟩] (some [2, 3])) .ret) .skip)) (.seq (.reg [⟨some 50, none, .load .cp true 2 (.tmp 5)⟩, ⟨none, none, .store 2 (.tmp 2) (.tmp 50)⟩, ⟨some 3, none, .mov .tk (.con (.int .i64 0))⟩] (some [2, 3])) .ret)))))
def pf21 : PFunc := ⟨1, [.ro], g21.un, [.cell 2 true 2, .tmp 3], b21⟩
theorem pe21 : prepF Go.Proofs.Try.prog a21 Go.Proofs.Try.f21 = some pf21 := by kernel_rfl
def b42 : IC := .seq (.reg [⟨some 4, none, .mov .tk (.con (.bool false))⟩] (some [0, 1])) (.seq (.seq (.reg [⟨some 6, none, .mov .cp (.tmp 0)⟩, ⟨some 7, none, .len false (.tmp 6)⟩, ⟨some 8, none, .mov .cp (.tmp 1)⟩, ⟨some 9, none, .len false (.tmp 8)⟩, ⟨some 10, none, .bin none .neq (.tmp 7) (.tmp 9)⟩] (some [0, 1, 10])) (.cond (.tmp 10) (.seq (.reg [⟨some 4, none, .mov .tk (.con (.bool false))⟩] (some [4])) .ret) .skip)) (.seq (.seq (.reg [⟨some 5, none, .mov .tk (.con (.int .i64 0))⟩] (some [0, 1, 5])) (.block 0 (.loop (.seq (.seq (.reg [⟨some 11, none, .mov .cp (.tmp 5)⟩, ⟨some 12, none, .mov .cp (.tmp 0)⟩, ⟨some 13, none, .len false (.tmp 12)⟩, ⟨some 14, none, .bin none .lss (.tmp 11) (.tmp 13)⟩] (some [0, 1, 5, 14])) (.cond (.tmp 14) .skip (.exit 0))) (.seq (.block 1 (.seq (.drw [(⟨some 17, none, .mov .cp (.tmp 0)⟩, false, [0]), (⟨some 18, none, .mov .cp (.tmp 5)⟩, false, [5]), (⟨some 19, none, .indexA 2 (.tmp 17) (.tmp 18)⟩, false, [0, 17, 18]), (⟨some 20, none, .load .cp true 2 (.tmp 19)⟩, false, [0, 17, 19]), (⟨some 21, none, .mov .cp (.tmp 1)⟩, false, [1]), (⟨some 22, none, .mov .cp (.tmp 5)⟩, false, [5]), (⟨some 23, none, .indexA 2 (.tmp 21) (.tmp 22)⟩, false, [1, 21, 22]), (⟨some 24, none, .load .cp true 2 (.tmp 23)⟩, false, [1, 21, 23]), (⟨some 25, none, .callr 20 [.tmp 20, .tmp 24]⟩, false, [0, 1, 17, 19, 20, 21, 23, 24]), (⟨some 26, none, .un .not (.tmp 25)⟩, false, [25])] (some [0, 1, 5, 26])) (.cond (.tmp 26) (.seq (.reg [⟨some 4, none, .mov .tk (.con (.bool false))⟩] (some [4])) .ret) .skip))) (.reg [⟨some 15, none, .mov .cp (.tmp 5)⟩, ⟨some 16, none, .bin none .add (.tmp 15) (.con (.int .i64 1))⟩, ⟨some 5, none, .mov .tk (.tmp 16)⟩] (some [0, 1, 5]))))))) (.seq (.reg [⟨some 4, none, .mov .tk (.con (.bool true))⟩] (some [4])) .ret)))
def pf42 : PFunc := ⟨2, [.ro, .ro], g42.un, [.tmp 4], b42⟩
theorem pe42 : prepF Go.Proofs.Try.prog a42 Go.Proofs.Try.f42 = some pf42 := by kernel_rfl
def b43 : IC := .seq (.reg [⟨some 2, none, .mov .tk (.con (.int .i64 0))⟩] (some [0])) (.seq (.reg [⟨some 5, none, .mov .cp (.tmp 0)⟩, ⟨some 6, none, .len false (.tmp 5)⟩, ⟨some 3, none, .mov .tk (.tmp 6)⟩] (some [0, 3])) (.seq (.seq (.reg [⟨some 4, none, .mov .tk (.con (.int .i64 0))⟩] (some [0, 3, 4])) (.block 0 (.loop (.seq (.seq (.reg [⟨some 7, none, .mov .cp (.tmp 4)⟩, ⟨some 8, none, .mov .cp (.tmp 0)⟩, ⟨some 9, none, .len false (.tmp 8)⟩, ⟨some 10, none, .bin none .lss (.tmp 7) (.tmp 9)⟩, ⟨some 11, none, .mov .cp (.tmp 10)⟩, ⟨some 12, some (11, true), .mov .cp (.tmp 3)⟩, ⟨some 13, some (11, true), .bin none .lss (.tmp 12) (.con (.int .i64 1048576))⟩, ⟨some 14, none, .pick (.tmp 11) (.tmp 13) (.con (.bool false))⟩] (some [0, 3, 4, 14])) (.cond (.tmp 14) .skip (.exit 0))) (.seq (.block 1 (.reg [⟨some 17, none, .mov .cp (.tmp 3)⟩, ⟨some 18, none, .mov .cp (.tmp 0)⟩, ⟨some 19, none, .mov .cp (.tmp 4)⟩, ⟨some 20, none, .indexA 2 (.tmp 18) (.tmp 19)⟩, ⟨some 21, none, .fieldA 1 (.tmp 20)⟩, ⟨some 22, none, .load .cp false 1 (.tmp 21)⟩, ⟨some 23, none, .callr 79 [.tmp 22]⟩, ⟨some 24, none, .bin none .add (.tmp 17) (.tmp 23)⟩, ⟨some 3, none, .mov .tk (.tmp 24)⟩] (some [0, 3, 4]))) (.reg [⟨some 15, none, .mov .cp (.tmp 4)⟩, ⟨some 16, none, .bin none .add (.tmp 15) (.con (.int .i64 1))⟩, ⟨some 4, none, .mov .tk (.tmp 16)⟩] (some [0, 3, 4]))))))) (.seq (.reg [⟨some 25, none, .mov .cp (.tmp 3)⟩, ⟨some 2, none, .mov .tk (.tmp 25)⟩] (some [2])) .ret)))
def pf43 : PFunc := ⟨1, [.ro], g43.un, [.tmp 2], b43⟩
theorem pe43 : prepF Go.Proofs.Try.prog a43 Go.Proofs.Try.f43 = some pf43 := by kernel_rfl
def b44 : IC := .seq (.reg [⟨some 2, none, .mov .tk (.con (.int .i64 0))⟩] (some [0])) (.seq (.reg [⟨some 5, none, .mov .cp (.tmp 0)⟩, ⟨some 6, none, .len false (.tmp 5)⟩, ⟨some 3, none, .mov .tk (.tmp 6)⟩] (some [0, 3])) (.seq (.seq (.reg [⟨some 4, none, .mov .tk (.con (.int .i64 0))⟩] (some [0, 3, 4])) (.block 0 (.loop (.seq (.seq (.reg [⟨some 7, none, .mov .cp (.tmp 4)⟩, ⟨some 8, none, .mov .cp (.tmp 0)⟩, ⟨some 9, none, .len false (.tmp 8)⟩, ⟨some 10, none, .bin none .lss (.tmp 7) (.tmp 9)⟩, ⟨some 11, none, .mov .cp (.tmp 10)⟩, ⟨some 12, some (11, true), .mov .cp (.tmp 3)⟩, ⟨some 13, some (11, true), .bin none .lss (.tmp 12) (.con (.int .i64 1048576))⟩, ⟨some 14, none, .pick (.tmp 11) (.tmp 13) (.con (.bool false))⟩] (some [0, 3, 4, 14])) (.cond (.tmp 14) .skip (.exit 0))) (.seq (.block 1 (.reg [⟨some 17, none, .mov .cp (.tmp 3)⟩, ⟨some 18, none, .mov .cp (.tmp 0)⟩, ⟨some 19, none, .mov .cp (.tmp 4)⟩, ⟨some 20, none, .indexA 1 (.tmp 18) (.tmp 19)⟩, ⟨some 21, none, .load .cp false 1 (.tmp 20)⟩, ⟨some 22, none, .len true (.tmp 21)⟩, ⟨some 23, none, .bin none .add (.tmp 17) (.tmp 22)⟩, ⟨some 3, none, .mov .tk (.tmp 23)⟩] (some [0, 3, 4]))) (.reg [⟨some 15, none, .mov .cp (.tmp 4)⟩, ⟨some 16, none, .bin none .add (.tmp 15) (.con (.int .i64 1))⟩, ⟨some 4, none, .mov .tk (.tmp 16)⟩] (some [0, 3, 4]))))))) (.seq (.reg [⟨some 24, none, .mov .cp (.tmp 3)⟩, ⟨some 2, none, .mov .tk (.tmp 24)⟩] (some [2])) .ret)))
def pf44 : PFunc := ⟨1, [.ro], g44.un, [.tmp 2], b44⟩
theorem pe44 : prepF Go.Proofs.Try.prog a44 Go.Proofs.Try.f44 = some pf44 := by kernel_rfl
def b50 : IC := .seq (.reg [⟨some 4, none, .mov .tk (.con (.bool false))⟩] (some [0, 1])) (.seq (.seq (.reg [⟨some 6, none, .mov .cp (.tmp 0)⟩, ⟨some 7, none, .len false (.tmp 6)⟩, ⟨some 8, none, .mov .cp (.tmp 1)⟩, ⟨some 9, none, .len false (.tmp 8)⟩, ⟨some 10, none, .bin none .neq (.tmp 7) (.tmp 9)⟩] (some [0, 1, 10])) (.cond (.tmp 10) (.seq (.reg [⟨some 4, none, .mov .tk (.con (.bool false))⟩] (some [4])) .ret) .skip)) (.seq (.seq (.reg [⟨some 5, none, .mov .tk (.con (.int .i64 0))⟩] (some [0, 1, 5])) (.block 0 (.loop (.seq (.seq (.reg [⟨some 11, none, .mov .cp (.tmp 5)⟩, ⟨some 12, none, .mov .cp (.tmp 0)⟩, ⟨some 13, none, .len false (.tmp 12)⟩, ⟨some 14, none, .bin none .lss (.tmp 11) (.tmp 13)⟩] (some [0, 1, 5, 14])) (.cond (.tmp 14) .skip (.exit 0))) (.seq (.block 1 (.seq (.drw [(⟨some 17, none, .mov .cp (.tmp 0)⟩, false, [0]), (⟨some 18, none, .mov .cp (.tmp 5)⟩, false, [5]), (⟨some 19, none, .indexA 4 (.tmp 17) (.tmp 18)⟩, false, [0, 17, 18]), (⟨some 20, none, .load .cp true 4 (.tmp 19)⟩, false, [0, 17, 19]), (⟨some 21, none, .mov .cp (.tmp 1)⟩, false, [1]), (⟨some 22, none, .mov .cp (.tmp 5)⟩, false, [5]), (⟨some 23, none, .indexA 4 (.tmp 21) (.tmp 22)⟩, false, [1, 21, 22]), (⟨some 24, none, .load .cp true 4 (.tmp 23)⟩, false, [1, 21, 23]), (⟨some 25, none, .bin (some (true, [.i, .s, .s, .b])) .neq (.tmp 20) (.tmp 24)⟩, false, [0, 1, 17, 19, 20, 21, 23, 24])] (some [0, 1, 5, 25])) (.cond (.tmp 25) (.seq (.reg [⟨some 4, none, .mov .tk (.con (.bool false))⟩] (some [4])) .ret) .skip))) (.reg [⟨some 15, none, .mov .cp (.tmp 5)⟩, ⟨some 16, none, .bin none .add (.tmp 15) (.con (.int .i64 1))⟩, ⟨some 5, none, .mov .tk (.tmp 16)⟩] (some [0, 1, 5]))))))) (.seq (.reg [⟨some 4, none, .mov .tk (.con (.bool true))⟩] (some [4])) .ret)))
def pf50 : PFunc := ⟨2, [.ro, .ro], g50.un, [.tmp 4], b50⟩
theorem pe50 : prepF Go.Proofs.Try.prog a50 Go.Proofs.Try.f50 = some pf50 := by kernel_rfl
def b46 : IC := .seq (.reg [⟨some 1, none, .box (.tmp 0)⟩, ⟨some 2, none, .mov .tk (.con (.bool false))⟩] (some [1])) (.seq (.reg [⟨some 3, none, .fieldA 0 (.tmp 1)⟩, ⟨some 4, none, .load .cp false 1 (.tmp 3)⟩, ⟨some 5, none, .bin none .geq (.tmp 4) (.con (.int .i64 1))⟩, ⟨some 6, none, .mov .cp (.tmp 5)⟩, ⟨some 7, some (6, true), .fieldA 0 (.tmp 1)⟩, ⟨some 8, some (6, true), .load .cp false 1 (.tmp 7)⟩, ⟨some 9, some (6, true), .bin none .leq (.tmp 8) (.con (.int .i64 1073741824))⟩, ⟨some 10, none, .pick (.tmp 6) (.tmp 9) (.con (.bool false))⟩, ⟨some 11, none, .mov .cp (.tmp 10)⟩, ⟨some 12, some (11, true), .fieldA 1 (.tmp 1)⟩, ⟨some 13, some (11, true), .load .cp false 1 (.tmp 12)⟩, ⟨some 14, some (11, true), .len false (.tmp 13)⟩, ⟨some 15, some (11, true), .bin none .leq (.tmp 14) (.con (.int .i64 64))⟩, ⟨some 16, none, .pick (.tmp 11) (.tmp 15) (.con (.bool false))⟩, ⟨some 17, none, .mov .cp (.tmp 16)⟩, ⟨some 18, some (17, true), .fieldA 1 (.tmp 1)⟩, ⟨some 19, some (17, true), .load .cp false 1 (.tmp 18)⟩, ⟨some 20, some (17, true), .callr 80 [.tmp 19, .fn 81]⟩, ⟨some 21, some (17, true), .un .not (.tmp 20)⟩, ⟨some 22, none, .pick (.tmp 17) (.tmp 21) (.con (.bool false))⟩, ⟨some 2, none, .mov .tk (.tmp 22)⟩] (some [2])) .ret)
def pf46 : PFunc := ⟨1, [.ro], g46.un, [.tmp 2], b46⟩
theorem pe46 : prepF Go.Proofs.Try.prog a46 Go.Proofs.Try.f46 = some pf46 := by kernel_rfl
def b76 : IC := .seq (.reg [⟨some 2, none, .mov .tk (.con (.bool false))⟩] (some [0])) (.seq (.reg [⟨some 3, none, .mov .cp (.tmp 0)⟩, ⟨some 4, none, .bin none .geq (.tmp 3) (.con (.int .i64 0))⟩, ⟨some 5, none, .mov .cp (.tmp 4)⟩, ⟨some 6, some (5, true), .mov .cp (.tmp 0)⟩, ⟨some 7, some (5, true), .bin none .leq (.tmp 6) (.con (.int .i64 1073741824))⟩, ⟨some 8, none, .pick (.tmp 5) (.tmp 7) (.con (.bool false))⟩, ⟨some 2, none, .mov .tk (.tmp 8)⟩] (some [2])) .ret)
def pf76 : PFunc := ⟨1, [.ro], g76.un, [.tmp 2], b76⟩
theorem pe76 : prepF Go.Proofs.Try.prog a76 Go.Proofs.Try.f76 = some pf76 := by kernel_rfl
def b77 : IC := .seq (.reg [⟨some 3, none, .box (.tmp 0)⟩, ⟨some 6, none, .mov .tk (.con (.vs false [.own 9 []]))⟩] (some [1, 2, 3, 6])) (.seq (.reg [⟨some 11, none, .load .cp true 2 (.tmp 3)⟩, ⟨some 12, none, .callr 47 [.tmp 11]⟩, ⟨some 7, none, .mov .tk (.tmp 12)⟩] (some [1, 2, 6, 7])) (.seq (.seq (.reg [⟨some 8, none, .mov .tk (.con (.int .i64 0))⟩] (some [1, 2, 6, 7, 8])) (.block 0 (.loop (.seq (.seq (.reg [⟨some 13, none, .mov .cp (.tmp 7)⟩, ⟨some 14, none, .bin none .neq (.tmp 13) (.con (.str (bs [])))⟩, ⟨some 15, none, .mov .cp (.tmp 14)⟩, ⟨some 16, some (15, false), .mov .cp (.tmp 8)⟩, ⟨some 17, some (15, false), .bin none .eql (.tmp 16) (.con (.int .i64 0))⟩, ⟨some 18, none, .pick (.tmp 15) (.con (.bool true)) (.tmp 17)⟩] (some [1, 2, 6, 7, 8, 18])) (.cond (.tmp 18) .skip (.exit 0))) (.seq (.block 1 (.seq (.reg [⟨some 21, none, .mov .cp (.tmp 7)⟩, ⟨some 22, none, .len true (.tmp 21)⟩, ⟨some 23, none, .mn (.con (.int .i64 20)) (.tmp 22)⟩, ⟨some 9, none, .mov .tk (.tmp 23)⟩] (some [1, 2, 6, 7, 8, 9])) (.seq (.reg [⟨some 24, none, .mov .cp (.tmp 1)⟩, ⟨some 25, none, .call 83 [.con (.vs false [.own 5 []]), .tmp 24]⟩, ⟨some 26, none, .mov .cp (.tmp 2)⟩, ⟨some 27, none, .call 83 [.tmp 25, .tmp 26]⟩, ⟨some 10, none, .mov .tk (.tmp 27)⟩] (some [1, 2, 6, 7, 8, 9, 10])) (.seq (.reg [⟨some 28, none, .mov .cp (.tmp 10)⟩, ⟨some 29, none, .mov .cp (.tmp 8)⟩, ⟨some 30, none, .bin none .shr (.tmp 29) (.con (.int .u64 8))⟩, ⟨some 31, none, .conv .u8 (.tmp 30)⟩, ⟨some 32, none, .mov .cp (.tmp 8)⟩, ⟨some 33, none, .conv .u8 (.tmp 32)⟩, ⟨some 34, none, .mov .cp (.tmp 9)⟩, ⟨some 35, none, .mov .cp (.tmp 7)⟩, ⟨some 36, none, .len true (.tmp 35)⟩, ⟨some 37, none, .bin none .eql (.tmp 34) (.tmp 36)⟩, ⟨some 38, none, .callr 84 [.tmp 37]⟩, ⟨some 39, none, .mov .cp (.tmp 9)⟩, ⟨some 40, none, .conv .u8 (.tmp 39)⟩, ⟨some 41, none, .bslice 5 [.d (.sc (.int .u8 0))] 4 [(0, .tmp 31), (1, .tmp 33), (2, .tmp 38), (3, .tmp 40)]⟩, ⟨some 42, none, .app false 5 1 1 (.tmp 28) (.tmp 41)⟩, ⟨some 10, none, .mov .tk (.tmp 42)⟩] (some [1, 2, 6, 7, 8, 9, 10])) (.seq (.reg [⟨some 43, none, .mov .cp (.tmp 10)⟩, ⟨some 44, none, .mov .cp (.tmp 7)⟩, ⟨some 45, none, .mov .cp (.tmp 9)⟩, ⟨some 46, none, .slice true 1 (.tmp 44) none (some (.tmp 45))⟩, ⟨some 47, none, .app true 5 1 1 (.tmp 43) (.tmp 46)⟩, ⟨some 10, none, .mov .tk (.tmp 47)⟩] (some [1, 2, 6, 7, 8, 9, 10])) (.seq (.drw [(⟨some 48, none, .mov .cp (.tmp 6)⟩, false, [6]), (⟨some 49, none, .mov .cp (.tmp 10)⟩, false, [10]), (⟨some 50, none, .b2s (.tmp 49)⟩, false, [10, 49]), (⟨some 51, none, .mov .cp (.tmp 9)⟩, false, [9]), (⟨some 52, none, .bin none .sub (.con (.int .i64 20)) (.tmp 51)⟩, false, [51]), (⟨some 53, none, .callr 64 [.con (.str (bs [0])), .tmp 52]⟩, false, [52]), (⟨some 54, none, .bin none .add (.tmp 50) (.tmp 53)⟩, false, [50, 53]), (⟨some 55, none, .bslice 9 [.d (.sc (.string (bs [])))] 1 [(0, .tmp 54)]⟩, true, [54, 55]), (⟨some 56, none, .app false 9 1 16 (.tmp 48) (.tmp 55)⟩, true, [6, 48, 55, 56, 60]), (⟨some 6, none, .mov .tk (.tmp 56)⟩, true, [6, 48, 56, 60])] (some [1, 2, 6, 7, 8, 9])) (.reg [⟨some 57, none, .mov .cp (.tmp 7)⟩, ⟨some 58, none, .mov .cp (.tmp 9)⟩, ⟨some 59, none, .slice true 1 (.tmp 57) (some (.tmp 58)) none⟩, ⟨some 7, none, .mov .tk (.tmp 59)⟩] (some [1, 2, 6, 7, 8])))))))) (.reg [⟨some 19, none, .mov .cp (.tmp 8)⟩, ⟨some 20, none, .bin none .add (.tmp 19) (.con (.int .i64 1))⟩, ⟨some 8, none, .mov .tk (.tmp 20)⟩] (some [1, 2, 6, 7, 8]))))))) (.seq (.reg [⟨some 60, none, .mov .cp (.tmp 6)⟩, ⟨some 6, none, .mov .tk (.tmp 60)⟩] (some [6])) .ret)))
def pf77 : PFunc := ⟨3, [.ro, .ro, .ro], g77.un, [.tmp 6], b77⟩
theorem pe77 : prepF Go.Proofs.Try.prog a77 Go.Proofs.Try.f77 = some pf77 := by kernel_rfl
def b78 : IC := .seq (.reg [⟨some 6, none, .mov .tk (.con (.vs false [.own 32 []]))⟩, ⟨some 7, none, .mov .tk (.con (.int .i64 0))⟩] (some [0, 1, 2, 6, 7])) (.seq (.block 0 (.loop (.seq (.seq (.reg [⟨some 10, none, .mov .cp (.tmp 2)⟩, ⟨some 11, none, .bin none .leq (.tmp 10) (.con (.int .i64 1073741824))⟩] (some [0, 1, 2, 6, 7, 11])) (.cond (.tmp 11) .skip (.exit 0))) (.block 1 (.seq (.reg [⟨some 13, none, .mov .cp (.tmp 0)⟩, ⟨some 14, none, .mov .cp (.tmp 7)⟩, ⟨some 15, none, .slice false 1 (.tmp 13) (some (.tmp 14)) none⟩, ⟨some 16, none, .mov .cp (.tmp 1)⟩, ⟨some 17, none, .mov .cp (.tmp 2)⟩, ⟨some 18, none, .callr 102 [.tmp 15, .tmp 16, .tmp 17]⟩, ⟨some 12, none, .mov .tk (.tmp 18)⟩, ⟨some 19, none, .extract 0 (.tmp 12)⟩, ⟨some 20, none, .extract 1 (.tmp 12)⟩, ⟨some 8, none, .alloc [.d (.sc (.int .i64 0)), .own 84 []]⟩, ⟨none, none, .store 2 (.tmp 8) (.tmp 19)⟩, ⟨some 9, none, .mov .tk (.tmp 20)⟩] (some [0, 1, 2, 6, 7, 8, 9])) (.seq (.seq (.reg [⟨some 21, none, .mov .cp (.tmp 9)⟩, ⟨some 22, none, .bin none .eql (.tmp 21) (.con (.int .i64 0))⟩] (some [0, 1, 2, 6, 7, 8, 9, 22])) (.cond (.tmp 22) (.exit 0) .skip)) (.reg [⟨some 23, none, .mov .cp (.tmp 6)⟩, ⟨some 24, none, .load .cp true 2 (.tmp 8)⟩, ⟨some 25, none, .bslice 32 [.d (.sc (.int .i64 0)), .own 84 []] 1 [(0, .tmp 24)]⟩, ⟨some 26, none, .app false 32 2 32 (.tmp 23) (.tmp 25)⟩, ⟨some 27, none, .mov .cp (.tmp 7)⟩, ⟨some 28, none, .mov .cp (.tmp 9)⟩, ⟨some 29, none, .bin none .add (.tmp 27) (.tmp 28)⟩, ⟨some 30, none, .mov .cp (.tmp 2)⟩, ⟨some 31, none, .bin none .add (.tmp 30) (.con (.int .i64 1))⟩, ⟨some 6, none, .mov .tk (.tmp 26)⟩, ⟨some 7, none, .mov .tk (.tmp 29)⟩, ⟨some 2, none, .mov .tk (.tmp 31)⟩] (some [0, 1, 2, 6, 7])))))))) (.seq (.reg [⟨some 32, none, .mov .cp (.tmp 6)⟩, ⟨some 33, none, .mov .cp (.tmp 7)⟩, ⟨some 6, none, .mov .tk (.tmp 32)⟩, ⟨some 7, none, .mov .tk (.tmp 33)⟩] (some [6, 7])) .ret))
def pf78 : PFunc := ⟨3, [.ro, .ro, .ro], g78.un, [.tmp 6, .tmp 7], b78⟩
theorem pe78 : prepF Go.Proofs.Try.prog a78 Go.Proofs.Try.f78 = some pf78 := by kernel_rfl
def b47 : IC := .seq (.reg [⟨some 1, none, .box (.tmp 0)⟩, ⟨some 2, none, .mov .tk (.con (.str (bs [])))⟩] (some [1])) (.seq (.drw [(⟨some 6, none, .fieldA 0 (.tmp 1)⟩, false, [1]), (⟨some 7, none, .load .cp false 1 (.tmp 6)⟩, false, [1, 6]), (⟨some 8, none, .call 83 [.con (.vs false [.own 5 []]), .tmp 7]⟩, true, [7, 8]), (⟨some 9, none, .fieldA 1 (.tmp 1)⟩, false, [1]), (⟨some 10, none, .load .cp false 1 (.tmp 9)⟩, false, [1, 9]), (⟨some 11, none, .len false (.tmp 10)⟩, false, [1, 9, 10]), (⟨some 12, none, .call 83 [.tmp 8, .tmp 11]⟩, true, [8, 11, 12]), (⟨some 3, none, .mov .tk (.tmp 12)⟩, true, [3, 12, 20, 33, 43, 48])] (some [1, 3])) (.seq (.seq (.reg [⟨some 13, none, .fieldA 1 (.tmp 1)⟩, ⟨some 14, none, .load .cp false 1 (.tmp 13)⟩, ⟨some 15, none, .len false (.tmp 14)⟩, ⟨some 16, none, .mov .cp (.con (.int .i64 0))⟩] (some [1, 3, 13, 14, 15, 16])) (.block 0 (.loop (.seq (.reg [⟨some 17, none, .bin none .lss (.tmp 16) (.tmp 15)⟩] (some [1, 3, 13, 14, 15, 16, 17])) (.seq (.cond (.tmp 17) .skip (.exit 0)) (.seq (.block 1 (.seq (.reg [⟨some 18, none, .indexA 4 (.tmp 14) (.tmp 16)⟩, ⟨some 19, none, .load .cp true 4 (.tmp 18)⟩, ⟨some 5, none, .alloc [.d (.sc (.int .i64 0)), .d (.sc (.string (bs []))), .d (.sc (.string (bs []))), .d (.sc (.bool false))]⟩, ⟨none, none, .store 4 (.tmp 5) (.tmp 19)⟩] (some [1, 3, 5, 13, 14, 15, 16])) (.seq (.drw [(⟨some 20, none, .mov .cp (.tmp 3)⟩, false, [3]), (⟨some 21, none, .fieldA 0 (.tmp 5)⟩, false, [5]), (⟨some 22, none, .load .cp false 1 (.tmp 21)⟩, false, [5, 21]), (⟨some 23, none, .conv .u8 (.tmp 22)⟩, false, [22]), (⟨some 24, none, .fieldA 3 (.tmp 5)⟩, false, [5]), (⟨some 25, none, .load .cp false 1 (.tmp 24)⟩, false, [5, 24]), (⟨some 26, none, .callr 84 [.tmp 25]⟩, false, [25]), (⟨some 27, none, .fieldA 1 (.tmp 5)⟩, false, [5]), (⟨some 28, none, .load .cp false 1 (.tmp 27)⟩, false, [5, 27]), (⟨some 29, none, .len true (.tmp 28)⟩, false, [28]), (⟨some 30, none, .conv .u8 (.tmp 29)⟩, false, [29]), (⟨some 31, none, .bslice 5 [.d (.sc (.int .u8 0))] 3 [(0, .tmp 23), (1, .tmp 26), (2, .tmp 30)]⟩, true, [23, 26, 30, 31]), (⟨some 32, none, .app false 5 1 1 (.tmp 20) (.tmp 31)⟩, true, [3, 20, 31, 32, 33, 43, 48]), (⟨some 3, none, .mov .tk (.tmp 32)⟩, true, [3, 20, 32, 33, 43, 48])] (some [1, 3, 5, 13, 14, 15, 16])) (.seq (.drw [(⟨some 33, none, .mov .cp (.tmp 3)⟩, false, [3]), (⟨some 34, none, .fieldA 1 (.tmp 5)⟩, false, [5]), (⟨some 35, none, .load .cp false 1 (.tmp 34)⟩, false, [5, 34]), (⟨some 36, none, .app true 5 1 1 (.tmp 33) (.tmp 35)⟩, true, [3, 20, 33, 35, 36, 43, 48]), (⟨some 37, none, .fieldA 2 (.tmp 5)⟩, false, [5]), (⟨some 38, none, .load .cp false 1 (.tmp 37)⟩, false, [5, 37]), (⟨some 39, none, .len true (.tmp 38)⟩, false, [38]), (⟨some 40, none, .conv .u8 (.tmp 39)⟩, false, [39]), (⟨some 41, none, .bslice 5 [.d (.sc (.int .u8 0))] 1 [(0, .tmp 40)]⟩, true, [40, 41]), (⟨some 42, none, .app false 5 1 1 (.tmp 36) (.tmp 41)⟩, true, [36, 41, 42]), (⟨some 3, none, .mov .tk (.tmp 42)⟩, true, [3, 20, 33, 42, 43, 48])] (some [1, 3, 5, 13, 14, 15, 16])) (.reg [⟨some 43, none, .mov .cp (.tmp 3)⟩, ⟨some 44, none, .fieldA 2 (.tmp 5)⟩, ⟨some 45, none, .load .cp false 1 (.tmp 44)⟩, ⟨some 46, none, .app true 5 1 1 (.tmp 43) (.tmp 45)⟩, ⟨some 3, none, .mov .tk (.tmp 46)⟩] (some [1, 3, 13, 14, 15, 16])))))) (.reg [⟨some 47, none, .bin none .add (.tmp 16) (.con (.int .i64 1))⟩, ⟨some 16, none, .mov .cp (.tmp 47)⟩] (some [1, 3, 13, 14, 15, 16])))))))) (.seq (.reg [⟨some 48, none, .mov .cp (.tmp 3)⟩, ⟨some 49, none, .b2s (.tmp 48)⟩, ⟨some 2, none, .mov .tk (.tmp 49)⟩] (some [2])) .ret)))
def pf47 : PFunc := ⟨1, [.ro], g47.un, [.tmp 2], b47⟩
theorem pe47 : prepF Go.Proofs.Try.prog a47 Go.Proofs.Try.f47 = some pf47 := by kernel_rfl
def b51 : IC := .seq (.reg [⟨some 4, none, .mov .tk (.con (.int .i64 0))⟩] (some [0, 1])) (.seq (.reg [⟨some 5, none, .mov .tk (.con (.int .i64 0))⟩] (some [0, 1, 5])) (.seq (.seq (.reg [⟨some 8, none, .mov .cp (.tmp 0)⟩, ⟨some 9, none, .mov .cp (.tmp 1)⟩, ⟨some 10, none, .call 87 [.tmp 8, .tmp 9]⟩, ⟨some 11, none, .s2b (.tmp 10)⟩, ⟨some 12, none, .len false (.tmp 11)⟩, ⟨some 13, none, .mov .cp (.con (.int .i64 0))⟩] (some [0, 5, 11, 12, 13])) (.block 0 (.loop (.seq (.reg [⟨some 14, none, .bin none .lss (.tmp 13) (.tmp 12)⟩] (some [0, 5, 11, 12, 13, 14])) (.seq (.cond (.tmp 14) .skip (.exit 0)) (.seq (.block 1 (.seq (.reg [⟨some 15, none, .indexA 1 (.tmp 11) (.tmp 13)⟩, ⟨some 16, none, .load .cp false 1 (.tmp 15)⟩, ⟨some 7, none, .mov .tk (.tmp 16)⟩] (some [0, 5, 7, 11, 12, 13])) (.reg [⟨some 17, none, .mov .cp (.tmp 5)⟩, ⟨some 18, none, .bin none .shl (.tmp 17) (.con (.int .u64 8))⟩, ⟨some 19, none, .mov .cp (.tmp 7)⟩, ⟨some 20, none, .conv .i64 (.tmp 19)⟩, ⟨some 21, none, .bin none .or (.tmp 18) (.tmp 20)⟩, ⟨some 5, none, .mov .tk (.tmp 21)⟩] (some [0, 5, 11, 12, 13])))) (.reg [⟨some 22, none, .bin none .add (.tmp 13) (.con (.int .i64 1))⟩, ⟨some 13, none, .mov .cp (.tmp 22)⟩] (some [0, 5, 11, 12, 13])))))))) (.seq (.reg [⟨some 23, none, .mov .cp (.tmp 5)⟩, ⟨some 4, none, .mov .tk (.tmp 23)⟩] (some [0, 4])) .ret)))
def pf51 : PFunc := ⟨2, [.io, .ro], g51.un, [.tmp 4], b51⟩
theorem pe51 : prepF Go.Proofs.Try.prog a51 Go.Proofs.Try.f51 = some pf51 := by kernel_rfl
def b52 : IC := .seq (.reg [⟨some 2, none, .alloc [.d (.sc (.int .i64 0)), .d (.sc (.string (bs []))), .d (.sc (.string (bs []))), .d (.sc (.bool false))]⟩] (some [0, 2])) (.seq (.reg [⟨some 4, none, .mov .cp (.tmp 0)⟩, ⟨some 5, none, .call 51 [.tmp 4, .con (.int .i64 1)]⟩, ⟨some 6, none, .fieldA 0 (.tmp 2)⟩, ⟨none, none, .store 1 (.tmp 6) (.tmp 5)⟩] (some [0, 2])) (.seq (.reg [⟨some 7, none, .mov .cp (.tmp 0)⟩, ⟨some 8, none, .call 51 [.tmp 7, .con (.int .i64 1)]⟩, ⟨some 3, none, .mov .tk (.tmp 8)⟩] (some [0, 2, 3])) (.seq (.reg [⟨some 9, none, .mov .cp (.tmp 3)⟩, ⟨some 10, none, .bin none .eql (.tmp 9) (.con (.int .i64 1))⟩, ⟨some 11, none, .fieldA 3 (.tmp 2)⟩, ⟨none, none, .store 1 (.tmp 11) (.tmp 10)⟩] (some [0, 2, 3])) (.seq (.reg [⟨some 12, none, .mov .cp (.tmp 0)⟩, ⟨some 13, none, .mov .cp (.tmp 0)⟩, ⟨some 14, none, .nilc (.tmp 13)⟩, ⟨some 15, none, .fieldA 1 (.tmp 14)⟩, ⟨some 16, none, .load .cp false 1 (.tmp 15)⟩, ⟨some 17, none, .mov .cp (.tmp 16)⟩, ⟨some 18, some (17, false), .mov .cp (.tmp 3)⟩, ⟨some 19, some (17, false), .bin none .gtr (.tmp 18) (.con (.int .i64 1))⟩, ⟨some 20, none, .pick (.tmp 17) (.con (.bool true)) (.tmp 19)⟩, ⟨some 21, none, .nilc (.tmp 12)⟩, ⟨some 22, none, .fieldA 1 (.tmp 21)⟩, ⟨none, none, .store 1 (.tmp 22) (.tmp 20)⟩] (some [0, 2])) (.seq (.reg [⟨some 23, none, .mov .cp (.tmp 0)⟩, ⟨some 24, none, .mov .cp (.tmp 0)⟩, ⟨some 25, none, .call 51 [.tmp 24, .con (.int .i64 1)]⟩, ⟨some 26, none, .call 87 [.tmp 23, .tmp 25]⟩, ⟨some 27, none, .fieldA 1 (.tmp 2)⟩, ⟨none, none, .store 1 (.tmp 27) (.tmp 26)⟩] (some [0, 2])) (.seq (.reg [⟨some 28, none, .mov .cp (.tmp 0)⟩, ⟨some 29, none, .mov .cp (.tmp 0)⟩, ⟨some 30, none, .call 51 [.tmp 29, .con (.int .i64 1)]⟩, ⟨some 31, none, .call 87 [.tmp 28, .tmp 30]⟩, ⟨some 32, none, .fieldA 2 (.tmp 2)⟩, ⟨none, none, .store 1 (.tmp 32) (.tmp 31)⟩] (some [0, 2])) (.seq (.reg [⟨some 33, none, .load .cp true 4 (.tmp 2)⟩, ⟨none, none, .store 4 (.tmp 2) (.tmp 33)⟩] (some [0, 2])) .ret)))))))
def pf52 : PFunc := ⟨1, [.io], g52.un, [.cell 2 true 4], b52⟩
theorem pe52 : prepF Go.Proofs.Try.prog a52 Go.Proofs.Try.f52 = some pf52 := by kernel_rfl
def b79 : IC := .seq (.reg [⟨some 2, none, .mov .tk (.con (.int .i64 0))⟩] (some [0])) (.seq (.reg [⟨some 5, none, .mov .cp (.tmp 0)⟩, ⟨some 6, none, .len false (.tmp 5)⟩, ⟨some 3, none, .mov .tk (.tmp 6)⟩] (some [0, 3])) (.seq (.seq (.reg [⟨some 4, none, .mov .tk (.con (.int .i64 0))⟩] (some [0, 3, 4])) (.block 0 (.loop (.seq (.seq (.reg [⟨some 7, none, .mov .cp (.tmp 4)⟩, ⟨some 8, none, .mov .cp (.tmp 0)⟩, ⟨some 9, none, .len false (.tmp 8)⟩, ⟨some 10, none, .bin none .lss (.tmp 7) (.tmp 9)⟩, ⟨some 11, none, .mov .cp (.tmp 10)⟩, ⟨some 12, some (11, true), .mov .cp (.tmp 3)⟩, ⟨some 13, some (11, true), .bin none .lss (.tmp 12) (.con (.int .i64 1048576))⟩, ⟨some 14, none, .pick (.tmp 11) (.tmp 13) (.con (.bool false))⟩] (some [0, 3, 4, 14])) (.cond (.tmp 14) .skip (.exit 0))) (.seq (.block 1 (.drw [(⟨some 17, none, .mov .cp (.tmp 3)⟩, false, [3]), (⟨some 18, none, .mov .cp (.tmp 0)⟩, false, [0]), (⟨some 19, none, .mov .cp (.tmp 4)⟩, false, [4]), (⟨some 20, none, .indexA 4 (.tmp 18) (.tmp 19)⟩, false, [0, 18, 19]), (⟨some 21, none, .fieldA 1 (.tmp 20)⟩, false, [0, 18, 20]), (⟨some 22, none, .load .cp false 1 (.tmp 21)⟩, false, [0, 18, 20, 21]), (⟨some 23, none, .len true (.tmp 22)⟩, false, [22]), (⟨some 24, none, .mov .cp (.tmp 0)⟩, false, [0]), (⟨some 25, none, .mov .cp (.tmp 4)⟩, false, [4]), (⟨some 26, none, .indexA 4 (.tmp 24) (.tmp 25)⟩, false, [0, 24, 25]), (⟨some 27, none, .fieldA 2 (.tmp 26)⟩, false, [0, 24, 26]), (⟨some 28, none, .load .cp false 1 (.tmp 27)⟩, false, [0, 24, 26, 27]), (⟨some 29, none, .len true (.tmp 28)⟩, false, [28]), (⟨some 30, none, .bin none .add (.tmp 23) (.tmp 29)⟩, false, [23, 29]), (⟨some 31, none, .bin none .quo (.tmp 30) (.con (.int .i64 8))⟩, false, [30]), (⟨some 32, none, .bin none .add (.tmp 17) (.tmp 31)⟩, false, [17, 31]), (⟨some 3, none, .mov .tk (.tmp 32)⟩, true, [3, 32])] (some [0, 3, 4]))) (.reg [⟨some 15, none, .mov .cp (.tmp 4)⟩, ⟨some 16, none, .bin none .add (.tmp 15) (.con (.int .i64 1))⟩, ⟨some 4, none, .mov .tk (.tmp 16)⟩] (some [0, 3, 4]))))))) (.seq (.reg [⟨some 33, none, .mov .cp (.tmp 3)⟩, ⟨some 2, none, .mov .tk (.tmp 33)⟩] (some [2])) .ret)))
def pf79 : PFunc := ⟨1, [.ro], g79.un, [.tmp 2], b79⟩
theorem pe79 : prepF Go.Proofs.Try.prog a79 Go.Proofs.Try.f79 = some pf79 := by kernel_rfl
def b80 : IC := .seq (.reg [⟨some 4, none, .mov .tk (.con (.bool false))⟩] (some [0, 1])) (.seq (.reg [⟨some 5, none, .mov .cp (.tmp 0)⟩, ⟨some 6, none, .mov .cp (.tmp 1)⟩, ⟨some 7, none, .callr 103 [.tmp 5, .tmp 6]⟩, ⟨some 8, none, .bin none .geq (.tmp 7) (.con (.int .i64 0))⟩, ⟨some 4, none, .mov .tk (.tmp 8)⟩] (some [4])) .ret)
def pf80 : PFunc := ⟨2, [.ro, .ro], g80.un, [.tmp 4], b80⟩
theorem pe80 : prepF Go.Proofs.Try.prog a80 Go.Proofs.Try.f80 = some pf80 := by kernel_rfl
def b81 : IC := .seq (.reg [⟨some 1, none, .box (.tmp 0)⟩, ⟨some 2, none, .mov .tk (.con (.bool false))⟩] (some [1])) (.seq (.reg [⟨some 3, none, .load .cp true 4 (.tmp 1)⟩, ⟨some 4, none, .callr 82 [.tmp 3]⟩, ⟨some 5, none, .un .not (.tmp 4)⟩, ⟨some 2, none, .mov .tk (.tmp 5)⟩] (some [2])) .ret)
def pf81 : PFunc := ⟨1, [.ro], g81.un, [.tmp 2], b81⟩
theorem pe81 : prepF Go.Proofs.Try.prog a81 Go.Proofs.Try.f81 = some pf81 := by kernel_rfl
def b83 : IC := .seq (.reg [⟨some 4, none, .mov .tk (.con (.vs false [.own 5 []]))⟩] (some [0, 1])) (.seq (.reg [⟨some 5, none, .mov .cp (.tmp 0)⟩, ⟨some 6, none, .mov .cp (.tmp 1)⟩, ⟨some 7, none, .bin none .shr (.tmp 6) (.con (.int .u64 24))⟩, ⟨some 8, none, .conv .u8 (.tmp 7)⟩, ⟨some 9, none, .mov .cp (.tmp 1)⟩, ⟨some 10, none, .bin none .shr (.tmp 9) (.con (.int .u64 16))⟩, ⟨some 11, none, .conv .u8 (.tmp 10)⟩, ⟨some 12, none, .mov .cp (.tmp 1)⟩, ⟨some 13, none, .bin none .shr (.tmp 12) (.con (.int .u64 8))⟩, ⟨some 14, none, .conv .u8 (.tmp 13)⟩, ⟨some 15, none, .mov .cp (.tmp 1)⟩, ⟨some 16, none, .conv .u8 (.tmp 15)⟩, ⟨some 17, none, .bslice 5 [.d (.sc (.int .u8 0))] 4 [(0, .tmp 8), (1, .tmp 11), (2, .tmp 14), (3, .tmp 16)]⟩, ⟨some 18, none, .app false 5 1 1 (.tmp 5) (.tmp 17)⟩, ⟨some 4, none, .mov .tk (.tmp 18)⟩] (some [4])) .ret)
def pf83 : PFunc := ⟨2, [.own, .ro], g83.un, [.tmp 4], b83⟩
theorem pe83 : prepF Go.Proofs.Try.prog a83 Go.Proofs.Try.f83 = some pf83 := by kernel_rfl
def b84 : IC := .seq (.reg [⟨some 2, none, .mov .tk (.con (.int .u8 0))⟩] (some [0])) (.seq (.seq (.reg [⟨some 3, none, .mov .cp (.tmp 0)⟩] (some [3])) (.cond (.tmp 3) (.seq (.reg [⟨some 2, none, .mov .tk (.con (.int .u8 1))⟩] (some [2])) .ret) .skip)) (.seq (.reg [⟨some 2, none, .mov .tk (.con (.int .u8 0))⟩] (some [2])) .ret))
def pf84 : PFunc := ⟨1, [.ro], g84.un, [.tmp 2], b84⟩
theorem pe84 : prepF Go.Proofs.Try.prog a84 Go.Proofs.Try.f84 = some pf84 := by kernel_rfl
def b102 : IC := .seq (.reg [⟨some 6, none, .alloc [.d (.sc (.int .i64 0)), .own 84 []]⟩, ⟨some 7, none, .mov .tk (.con (.int .i64 0))⟩] (some [0, 1, 2, 6])) (.seq (.reg [⟨some 8, none, .mov .tk (.con (.str (bs [])))⟩] (some [0, 1, 2, 6, 8])) (.seq (.seq (.reg [⟨some 14, none, .mov .cp (.tmp 0)⟩, ⟨some 15, none, .len false (.tmp 14)⟩, ⟨some 16, none, .mov .cp (.con (.int .i64 0))⟩] (some [0, 1, 2, 6, 8, 14, 15, 16])) (.block 0 (.loop (.seq (.reg [⟨some 17, none, .bin none .lss (.tmp 16) (.tmp 15)⟩] (some [0, 1, 2, 6, 8, 14, 15, 16, 17])) (.seq (.cond (.tmp 17) .skip (.exit 0)) (.seq (.block 1 (.seq (.reg [⟨some 18, none, .mov .cp (.tmp 16)⟩, ⟨some 19, none, .indexA 1 (.tmp 14) (.tmp 16)⟩, ⟨some 20, none, .load .cp false 1 (.tmp 19)⟩, ⟨some 9, none, .mov .tk (.tmp 18)⟩, ⟨some 10, none, .mov .tk (.tmp 20)⟩] (some [0, 1, 2, 6, 8, 9, 10, 14, 15, 16])) (.seq (.seq (.reg [⟨some 21, none, .mov .cp (.tmp 10)⟩, ⟨some 22, none, .len true (.tmp 21)⟩, ⟨some 23, none, .bin none .neq (.tmp 22) (.con (.int .i64 32))⟩] (some [0, 1, 2, 6, 8, 9, 10, 14, 15, 16, 23])) (.cond (.tmp 23) (.exit 0) .skip)) (.seq (.reg [⟨some 24, none, .mov .cp (.tmp 10)⟩, ⟨some 25, none, .indexS (.tmp 24) (.con (.int .i64 11))⟩, ⟨some 26, none, .conv .i64 (.tmp 25)⟩, ⟨some 11, none, .mov .tk (.tmp 26)⟩] (some [0, 1, 2, 6, 8, 9, 10, 11, 14, 15, 16])) (.seq (.seq (.reg [⟨some 27, none, .mov .cp (.tmp 11)⟩, ⟨some 28, none, .bin none .gtr (.tmp 27) (.con (.int .i64 20))⟩] (some [0, 1, 2, 6, 8, 9, 10, 11, 14, 15, 16, 28])) (.cond (.tmp 28) (.exit 0) .skip)) (.seq (.reg [⟨some 29, none, .mov .cp (.tmp 8)⟩, ⟨some 30, none, .mov .cp (.tmp 10)⟩, ⟨some 31, none, .mov .cp (.tmp 11)⟩, ⟨some 32, none, .bin none .add (.con (.int .i64 12)) (.tmp 31)⟩, ⟨some 33, none, .slice true 1 (.tmp 30) (some (.con (.int .i64 12))) (some (.tmp 32))⟩, ⟨some 34, none, .bin none .add (.tmp 29) (.tmp 33)⟩, ⟨some 8, none, .mov .tk (.tmp 34)⟩] (some [0, 1, 2, 6, 8, 9, 10, 14, 15, 16])) (.seq (.seq (.reg [⟨some 35, none, .mov .cp (.tmp 10)⟩, ⟨some 36, none, .indexS (.tmp 35) (.con (.int .i64 10))⟩, ⟨some 37, none, .bin none .eql (.tmp 36) (.con (.int .u8 0))⟩] (some [0, 1, 2, 6, 8, 9, 14, 15, 16, 37])) (.cond (.tmp 37) (.exit 1) .skip)) (.seq (.reg [⟨some 39, none, .mov .cp (.tmp 8)⟩, ⟨some 40, none, .callr 21 [.tmp 39]⟩, ⟨some 38, none, .mov .tk (.tmp 40)⟩, ⟨some 41, none, .extract 0 (.tmp 38)⟩, ⟨some 42, none, .extract 1 (.tmp 38)⟩, ⟨some 12, none, .alloc [.d (.sc (.int .i64 0)), .own 84 []]⟩, ⟨none, none, .store 2 (.tmp 12) (.tmp 41)⟩, ⟨some 13, none, .mov .tk (.tmp 42)⟩] (some [0, 1, 2, 6, 9, 12, 13])) (.seq (.seq (.drw [(⟨some 43, none, .mov .cp (.tmp 13)⟩, false, [13]), (⟨some 44, none, .bin none .eql (.tmp 43) (.con (.int .i64 0))⟩, false, [13, 43]), (⟨some 45, none, .mov .cp (.tmp 44)⟩, false, [44]), (⟨some 46, some (45, true), .load .cp true 2 (.tmp 12)⟩, false, [12, 45]), (⟨some 47, some (45, true), .mov .cp (.tmp 1)⟩, false, [1, 45]), (⟨some 48, some (45, true), .mov .cp (.tmp 2)⟩, false, [2, 45]), (⟨some 49, some (45, true), .callr 77 [.tmp 46, .tmp 47, .tmp 48]⟩, false, [12, 45, 46, 47, 48]), (⟨some 50, some (45, true), .mov .cp (.tmp 0)⟩, false, [0, 45]), (⟨some 51, some (45, true), .mov .cp (.tmp 9)⟩, false, [9, 45]), (⟨some 52, some (45, true), .bin none .add (.tmp 51) (.con (.int .i64 1))⟩, false, [45, 51]), (⟨some 53, some (45, true), .cut 1 (.tmp 50) none (some (.tmp 52))⟩, false, [0, 45, 50, 52]), (⟨some 54, some (45, true), .callr 114 [.tmp 49, .tmp 53]⟩, false, [45, 49, 53]), (⟨some 55, none, .pick (.tmp 45) (.tmp 54) (.con (.bool false))⟩, false, [45, 54])] (some [6, 9, 12, 55])) (.cond (.tmp 55) (.seq (.reg [⟨some 56, none, .load .cp true 2 (.tmp 12)⟩, ⟨some 57, none, .mov .cp (.tmp 9)⟩, ⟨some 58, none, .bin none .add (.tmp 57) (.con (.int .i64 1))⟩, ⟨none, none, .store 2 (.tmp 6) (.tmp 56)⟩, ⟨some 7, none, .mov .tk (.tmp 58)⟩] (some [6, 7])) .ret) .skip)) (.exit 0)))))))))) (.reg [⟨some 59, none, .bin none .add (.tmp 16) (.con (.int .i64 1))⟩, ⟨some 16, none, .mov .cp (.tmp 59)⟩] (some [0, 1, 2, 6, 8, 14, 15, 16])))))))) (.seq (.reg [⟨some 60, none, .build true [.d (.sc (.int .i64 0)), .own 84 []] []⟩, ⟨none, none, .store 2 (.tmp 6) (.tmp 60)⟩, ⟨some 7, none, .mov .tk (.con (.int .i64 0))⟩] (some [6, 7])) .ret)))
def pf102 : PFunc := ⟨3, [.ro, .ro, .ro], g102.un, [.cell 6 true 2, .tmp 7], b102⟩
theorem pe102 : prepF Go.Proofs.Try.prog a102 Go.Proofs.Try.f102 = some pf102 := by kernel_rfl
def b87 : IC := .seq (.reg [⟨some 4, none, .mov .tk (.con (.str (bs [])))⟩] (some [0, 1])) (.seq (.seq (.reg [⟨some 6, none, .mov .cp (.tmp 0)⟩, ⟨some 7, none, .nilc (.tmp 6)⟩, ⟨some 8, none, .fieldA 1 (.tmp 7)⟩, ⟨some 9, none, .load .cp false 1 (.tmp 8)⟩, ⟨some 10, none, .mov .cp (.tmp 9)⟩, ⟨some 11, some (10, false), .mov .cp (.tmp 1)⟩, ⟨some 12, some (10, false), .mov .cp (.tmp 0)⟩, ⟨some 13, some (10, false), .nilc (.tmp 12)⟩, ⟨some 14, some (10, false), .fieldA 0 (.tmp 13)⟩, ⟨some 15, some (10, false), .load .cp false 1 (.tmp 14)⟩, ⟨some 16, some (10, false), .len true (.tmp 15)⟩, ⟨some 17, some (10, false), .bin none .gtr (.tmp 11) (.tmp 16)⟩, ⟨some 18, none, .pick (.tmp 10) (.con (.bool true)) (.tmp 17)⟩] (some [0, 1, 18])) (.cond (.tmp 18) (.seq (.reg [⟨some 19, none, .mov .cp (.tmp 0)⟩, ⟨some 20, none, .nilc (.tmp 19)⟩, ⟨some 21, none, .fieldA 1 (.tmp 20)⟩, ⟨none, none, .store 1 (.tmp 21) (.con (.bool true))⟩] (some [0])) (.seq (.reg [⟨some 4, none, .mov .tk (.con (.str (bs [])))⟩] (some [0, 4])) .ret)) .skip)) (.seq (.reg [⟨some 22, none, .mov .cp (.tmp 0)⟩, ⟨some 23, none, .nilc (.tmp 22)⟩, ⟨some 24, none, .fieldA 0 (.tmp 23)⟩, ⟨some 25, none, .load .cp false 1 (.tmp 24)⟩, ⟨some 26, none, .mov .cp (.tmp 1)⟩, ⟨some 27, none, .slice true 1 (.tmp 25) none (some (.tmp 26))⟩, ⟨some 5, none, .mov .tk (.tmp 27)⟩] (some [0, 1, 5])) (.seq (.reg [⟨some 28, none, .mov .cp (.tmp 0)⟩, ⟨some 29, none, .mov .cp (.tmp 0)⟩, ⟨some 30, none, .nilc (.tmp 29)⟩, ⟨some 31, none, .fieldA 0 (.tmp 30)⟩, ⟨some 32, none, .load .cp false 1 (.tmp 31)⟩, ⟨some 33, none, .mov .cp (.tmp 1)⟩, ⟨some 34, none, .slice true 1 (.tmp 32) (some (.tmp 33)) none⟩, ⟨some 35, none, .nilc (.tmp 28)⟩, ⟨some 36, none, .fieldA 0 (.tmp 35)⟩, ⟨none, none, .store 1 (.tmp 36) (.tmp 34)⟩] (some [0, 5])) (.seq (.reg [⟨some 37, none, .mov .cp (.tmp 5)⟩, ⟨some 4, none, .mov .tk (.tmp 37)⟩] (some [0, 4])) .ret))))
def pf87 : PFunc := ⟨2, [.io, .ro], g87.un, [.tmp 4], b87⟩
theorem pe87 : prepF Go.Proofs.Try.prog a87 Go.Proofs.Try.f87 = some pf87 := by kernel_rfl
def b103 : IC := .seq (.reg [⟨some 4, none, .mov .tk (.con (.int .i64 0))⟩] (some [0, 1])) (.seq (.seq (.reg [⟨some 6, none, .mov .cp (.tmp 0)⟩, ⟨some 7, none, .len false (.tmp 6)⟩, ⟨some 8, none, .mov .cp (.con (.int .i64 0))⟩] (some [0, 1, 7, 8])) (.block 0 (.loop (.seq (.reg [⟨some 9, none, .bin none .lss (.tmp 8) (.tmp 7)⟩] (some [0, 1, 7, 8, 9])) (.seq (.cond (.tmp 9) .skip (.exit 0)) (.seq (.block 1 (.seq (.reg [⟨some 10, none, .mov .cp (.tmp 8)⟩, ⟨some 5, none, .mov .tk (.tmp 10)⟩] (some [0, 1, 5, 7, 8])) (.seq (.reg [⟨some 11, none, .mov .cp (.tmp 1)⟩, ⟨some 12, none, .mov .cp (.tmp 0)⟩, ⟨some 13, none, .mov .cp (.tmp 5)⟩, ⟨some 14, none, .indexA 4 (.tmp 12) (.tmp 13)⟩, ⟨some 15, none, .load .cp true 4 (.tmp 14)⟩, ⟨some 16, none, .callv (.tmp 11) [.tmp 15]⟩] (some [0, 1, 5, 7, 8, 16])) (.cond (.tmp 16) (.seq (.reg [⟨some 17, none, .mov .cp (.tmp 5)⟩, ⟨some 4, none, .mov .tk (.tmp 17)⟩] (some [4])) .ret) .skip)))) (.reg [⟨some 18, none, .bin none .add (.tmp 8) (.con (.int .i64 1))⟩, ⟨some 8, none, .mov .cp (.tmp 18)⟩] (some [0, 1, 7, 8])))))))) (.seq (.reg [⟨some 4, none, .mov .tk (.con (.int .i64 (-1)))⟩] (some [4])) .ret))
def pf103 : PFunc := ⟨2, [.ro, .ro], g103.un, [.tmp 4], b103⟩
theorem pe103 : prepF Go.Proofs.Try.prog a103 Go.Proofs.Try.f103 = some pf103 := by kernel_rfl
def b82 : IC := .seq (.reg [⟨some 1, none, .box (.tmp 0)⟩, ⟨some 2, none, .mov .tk (.con (.bool false))⟩] (some [1])) (.seq (.reg [⟨some 3, none, .fieldA 0 (.tmp 1)⟩, ⟨some 4, none, .load .cp false 1 (.tmp 3)⟩, ⟨some 5, none, .callr 104 [.tmp 4]⟩, ⟨some 6, none, .mov .tk (.tmp 5)⟩, ⟨some 7, some (6, true), .fieldA 1 (.tmp 1)⟩, ⟨some 8, some (6, true), .load .cp false 1 (.tmp 7)⟩, ⟨some 9, some (6, true), .callr 105 [.tmp 8]⟩, ⟨some 10, none, .pick (.tmp 6) (.tmp 9) (.con (.bool false))⟩, ⟨some 11, none, .mov .cp (.tmp 10)⟩, ⟨some 12, some (11, true), .fieldA 2 (.tmp 1)⟩, ⟨some 13, some (11, true), .load .cp false 1 (.tmp 12)⟩, ⟨some 14, some (11, true), .callr 106 [.tmp 13]⟩, ⟨some 15, none, .pick (.tmp 11) (.tmp 14) (.con (.bool false))⟩, ⟨some 16, none, .mov .cp (.tmp 15)⟩, ⟨some 17, some (16, true), .fieldA 3 (.tmp 1)⟩, ⟨some 18, some (16, true), .load .cp false 1 (.tmp 17)⟩, ⟨some 19, some (16, true), .un .not (.tmp 18)⟩, ⟨some 20, some (16, true), .mov .cp (.tmp 19)⟩, ⟨some 21, some (20, false), .fieldA 2 (.tmp 1)⟩, ⟨some 22, some (20, false), .load .cp false 1 (.tmp 21)⟩, ⟨some 23, some (20, false), .bin none .eql (.tmp 22) (.con (.str (bs [])))⟩, ⟨some 24, some (16, true), .pick (.tmp 20) (.con (.bool true)) (.tmp 23)⟩, ⟨some 25, none, .pick (.tmp 16) (.tmp 24) (.con (.bool false))⟩, ⟨some 2, none, .mov .tk (.tmp 25)⟩] (some [2])) .ret)
def pf82 : PFunc := ⟨1, [.ro], g82.un, [.tmp 2], b82⟩
theorem pe82 : prepF Go.Proofs.Try.prog a82 Go.Proofs.Try.f82 = some pf82 := by kernel_rfl
def b114 : IC := .seq (.reg [⟨some 4, none, .mov .tk (.con (.bool false))⟩] (some [0, 1])) (.seq (.seq (.reg [⟨some 6, none, .mov .cp (.tmp 0)⟩, ⟨some 7, none, .len false (.tmp 6)⟩, ⟨some 8, none, .mov .cp (.tmp 1)⟩, ⟨some 9, none, .len false (.tmp 8)⟩, ⟨some 10, none, .bin none .neq (.tmp 7) (.tmp 9)⟩] (some [0, 1, 10])) (.cond (.tmp 10) (.seq (.reg [⟨some 4, none, .mov .tk (.con (.bool false))⟩] (some [4])) .ret) .skip)) (.seq (.seq (.reg [⟨some 11, none, .mov .cp (.tmp 0)⟩, ⟨some 12, none, .len false (.tmp 11)⟩, ⟨some 13, none, .mov .cp (.con (.int .i64 0))⟩] (some [0, 1, 12, 13])) (.block 0 (.loop (.seq (.reg [⟨some 14, none, .bin none .lss (.tmp 13) (.tmp 12)⟩] (some [0, 1, 12, 13, 14])) (.seq (.cond (.tmp 14) .skip (.exit 0)) (.seq (.block 1 (.seq (.reg [⟨some 15, none, .mov .cp (.tmp 13)⟩, ⟨some 5, none, .mov .tk (.tmp 15)⟩] (some [0, 1, 5, 12, 13])) (.seq (.drw [(⟨some 16, none, .mov .cp (.tmp 0)⟩, false, [0]), (⟨some 17, none, .mov .cp (.tmp 5)⟩, false, [5]), (⟨some 18, none, .indexA 1 (.tmp 16) (.tmp 17)⟩, false, [0, 16, 17]), (⟨some 19, none, .load .cp false 1 (.tmp 18)⟩, false, [0, 16, 18]), (⟨some 20, none, .mov .cp (.tmp 1)⟩, false, [1]), (⟨some 21, none, .mov .cp (.tmp 5)⟩, false, [5]), (⟨some 22, none, .indexA 1 (.tmp 20) (.tmp 21)⟩, false, [1, 20, 21]), (⟨some 23, none, .load .cp false 1 (.tmp 22)⟩, false, [1, 20, 22]), (⟨some 24, none, .bin none .neq (.tmp 19) (.tmp 23)⟩, false, [19, 23])] (some [0, 1, 12, 13, 24])) (.cond (.tmp 24) (.seq (.reg [⟨some 4, none, .mov .tk (.con (.bool false))⟩] (some [4])) .ret) .skip)))) (.reg [⟨some 25, none, .bin none .add (.tmp 13) (.con (.int .i64 1))⟩, ⟨some 13, none, .mov .cp (.tmp 25)⟩] (some [0, 1, 12, 13])))))))) (.seq (.reg [⟨some 4, none, .mov .tk (.con (.bool true))⟩] (some [4])) .ret)))
def pf114 : PFunc := ⟨2, [.ro, .ro], g114.un, [.tmp 4], b114⟩
theorem pe114 : prepF Go.Proofs.Try.prog a114 Go.Proofs.Try.f114 = some pf114 := by kernel_rfl
def b104 : IC := .seq (.reg [⟨some 2, none, .mov .tk (.con (.bool false))⟩] (some [0])) (.seq (.reg [⟨some 3, none, .mov .cp (.tmp 0)⟩, ⟨some 4, none, .bin none .geq (.tmp 3) (.con (.int .i64 0))⟩, ⟨some 5, none, .mov .cp (.tmp 4)⟩, ⟨some 6, some (5, true), .mov .cp (.tmp 0)⟩, ⟨some 7, some (5, true), .bin none .lss (.tmp 6) (.con (.int .i64 3))⟩, ⟨some 8, none, .pick (.tmp 5) (.tmp 7) (.con (.bool false))⟩, ⟨some 2, none, .mov .tk (.tmp 8)⟩] (some [2])) .ret)
def pf104 : PFunc := ⟨1, [.ro], g104.un, [.tmp 2], b104⟩
theorem pe104 : prepF Go.Proofs.Try.prog a104 Go.Proofs.Try.f104 = some pf104 := by kernel_rfl
def b105 : IC := .seq (.reg [⟨some 2, none, .mov .tk (.con (.bool false))⟩] (some [0])) (.seq (.reg [⟨some 3, none, .mov .cp (.tmp 0)⟩, ⟨some 4, none, .bin none .neq (.tmp 3) (.con (.str (bs [])))⟩, ⟨some 5, none, .mov .cp (.tmp 4)⟩, ⟨some 6, some (5, true), .mov .cp (.tmp 0)⟩, ⟨some 7, some (5, true), .len true (.tmp 6)⟩, ⟨some 8, some (5, true), .bin none .leq (.tmp 7) (.con (.int .i64 12))⟩, ⟨some 9, none, .pick (.tmp 5) (.tmp 8) (.con (.bool false))⟩, ⟨some 2, none, .mov .tk (.tmp 9)⟩] (some [2])) .ret)
def pf105 : PFunc := ⟨1, [.ro], g105.un, [.tmp 2], b105⟩
theorem pe105 : prepF Go.Proofs.Try.prog a105 Go.Proofs.Try.f105 = some pf105 := by kernel_rfl
def b106 : IC := .seq (.reg [⟨some 2, none, .mov .tk (.con (.bool false))⟩] (some [0])) (.seq (.reg [⟨some 3, none, .mov .cp (.tmp 0)⟩, ⟨some 4, none, .len true (.tmp 3)⟩, ⟨some 5, none, .bin none .leq (.tmp 4) (.con (.int .i64 20))⟩, ⟨some 2, none, .mov .tk (.tmp 5)⟩] (some [2])) .ret)
def pf106 : PFunc := ⟨1, [.ro], g106.un, [.tmp 2], b106⟩
theorem pe106 : prepF Go.Proofs.Try.prog a106 Go.Proofs.Try.f106 = some pf106 := by kernel_rfl
def tab : List (Nat × PFunc) := [(8, pf8), (9, pf9), (10, pf10), (11, pf11), (12, pf12), (18, pf18), (20, pf20), (24, pf24), (40, pf40), (41, pf41), (14, pf14), (21, pf21), (42, pf42), (43, pf43), (44, pf44), (50, pf50), (46, pf46), (76, pf76), (77, pf77), (78, pf78), (47, pf47), (51, pf51), (52, pf52), (79, pf79), (80, pf80), (81, pf81), (83, pf83), (84, pf84), (102, pf102), (87, pf87), (103, pf103), (82, pf82), (114, pf114), (104, pf104), (105, pf105), (106, pf106)]
def gv : FuncId → Option (List PM × (List T → Option Res)) := fun f => if f = 64 then some repGiven else none
def G : Prog := { fn := fun f => tab.lookup f, given := gv }
theorem Gpm : G.pm 8 = [.ro] ∧ G.pm 9 = [.ro] ∧ G.pm 10 = [.ro] ∧ G.pm 11 = [.ro] ∧ G.pm 12 = [.ro] ∧ G.pm 18 = [.ro] ∧ G.pm 20 = [.ro, .ro] ∧ G.pm 24 = [] ∧ G.pm 40 = [.ro, .ro, .ro] ∧ G.pm 41 = [.ro, .ro, .ro] ∧ G.pm 14 = [.ro] ∧ G.pm 21 = [.ro] ∧ G.pm 42 = [.ro, .ro] ∧ G.pm 43 = [.ro] ∧ G.pm 44 = [.ro] ∧ G.pm 50 = [.ro, .ro] ∧ G.pm 46 = [.ro] ∧ G.pm 76 = [.ro] ∧ G.pm 77 = [.ro, .ro, .ro] ∧ G.pm 78 = [.ro, .ro, .ro] ∧ G.pm 47 = [.ro] ∧ G.pm 51 = [.io, .ro] ∧ G.pm 52 = [.io] ∧ G.pm 79 = [.ro] ∧ G.pm 80 = [.ro, .ro] ∧ G.pm 81 = [.ro] ∧ G.pm 83 = [.own, .ro] ∧ G.pm 84 = [.ro] ∧ G.pm 102 = [.ro, .ro, .ro] ∧ G.pm 87 = [.io, .ro] ∧ G.pm 103 = [.ro, .ro] ∧ G.pm 82 = [.ro] ∧ G.pm 114 = [.ro, .ro] ∧ G.pm 104 = [.ro] ∧ G.pm 105 = [.ro] ∧ G.pm 106 = [.ro] ∧ G.pm 64 = [.ro, .ro] := by refine ⟨rfl, rfl, rfl, rfl, rfl, rfl, rfl, rfl, rfl, rfl, rfl, rfl, rfl, rfl, rfl, rfl, rfl, rfl, rfl, rfl, rfl, rfl, rfl, rfl, rfl, rfl, rfl, rfl, rfl, rfl, rfl, rfl, rfl, rfl, rfl, rfl, rfl⟩
attribute [push_cast] Gpm
theorem soundG : Sound Try.prog G :=
  ⟨(sound_tab (P := Try.prog) (l := tab) (⟨⟨_, a8, Try.func8, pe8⟩, ⟨⟨_, a9, Try.func9, pe9⟩, ⟨⟨_, a10, Try.func10, pe10⟩, ⟨⟨_, a11, Try.func11, pe11⟩, ⟨⟨_, a12, Try.func12, pe12⟩, ⟨⟨_, a18, Try.func18, pe18⟩, ⟨⟨_, a20, Try.func20, pe20⟩, ⟨⟨_, a24, Try.func24, pe24⟩, ⟨⟨_, a40, Try.func40, pe40⟩, ⟨⟨_, a41, Try.func41, pe41⟩, ⟨⟨_, a14, Try.func14, pe14⟩, ⟨⟨_, a21, Try.func21, pe21⟩, ⟨⟨_, a42, Try.func42, pe42⟩, ⟨⟨_, a43, Try.func43, pe43⟩, ⟨⟨_, a44, Try.func44, pe44⟩, ⟨⟨_, a50, Try.func50, pe50⟩, ⟨⟨_, a46, Try.func46, pe46⟩, ⟨⟨_, a76, Try.func76, pe76⟩, ⟨⟨_, a77, Try.func77, pe77⟩, ⟨⟨_, a78, Try.func78, pe78⟩, ⟨⟨_, a47, Try.func47, pe47⟩, ⟨⟨_, a51, Try.func51, pe51⟩, ⟨⟨_, a52, Try.func52, pe52⟩, ⟨⟨_, a79, Try.func79, pe79⟩, ⟨⟨_, a80, Try.func80, pe80⟩, ⟨⟨_, a81, Try.func81, pe81⟩, ⟨⟨_, a83, Try.func83, pe83⟩, ⟨⟨_, a84, Try.func84, pe84⟩, ⟨⟨_, a102, Try.func102, pe102⟩, ⟨⟨_, a87, Try.func87, pe87⟩, ⟨⟨_, a103, Try.func103, pe103⟩, ⟨⟨_, a82, Try.func82, pe82⟩, ⟨⟨_, a114, Try.func114, pe114⟩, ⟨⟨_, a104, Try.func104, pe104⟩, ⟨⟨_, a105, Try.func105, pe105⟩, ⟨⟨_, a106, Try.func106, pe106⟩, trivial⟩⟩⟩⟩⟩⟩⟩⟩⟩⟩⟩⟩⟩⟩⟩⟩⟩⟩⟩⟩⟩⟩⟩⟩⟩⟩⟩⟩⟩⟩⟩⟩⟩⟩⟩⟩)).fns, fun f g hg args r h => by
    simp only [G, gv] at hg
    by_cases e64 : f = 64
    · subst e64; simp only [if_true] at hg; cases hg; exact rep_ok rfl h
    rw [if_neg e64] at hg
    cases hg⟩

end Go.Mir.Try

/- Walks: small ones. -/
set_option linter.unusedVariables false
set_option linter.unusedSimpArgs false
set_option maxRecDepth 100000
namespace Go.Mir.Try
open Go.Proofs Go.Mir.Q


set_option maxHeartbeats 2000000 in
theorem f18 {i : Int}  : Fun G 18 [.int .i64 i] (.int .i64 i, []) := by
  refine Fun.of_run (g := g18) (pf := pf18) rfl rfl rfl rfl ?_
  simp (disch := first | assumption | ((try simp only [LEN, LEN2]); omega)) only [push_cast, Int.reduceToNat, Int.reduceEq, Int.reduceNe, Int.reduceLT, Int.reduceLE, Int.reduceAdd, Int.reduceSub, Int.reduceMul, Int.reduceNeg, Nat.reduceEqDiff, Nat.reduceBEq, Nat.reduceBNe, Nat.reduceAdd, Nat.reduceLeDiff, Nat.reduceLT, Nat.reduceMul, ↓reduceIte, reduceCtorEq, g18, pf18, b18]
theorem f18c {i : Int}  {g : VG} {F : Fn} {lk : Bool} {e : Env} {dst : Option Nat} {ops : List Ins} {keep : Option (List Nat)} {K : List Fr} : CallC G g F 18 [.int .i64 i] lk e dst ops keep K = ThenL G g F (if lk && !(T.noSl (.int .i64 i)) then none else e.put g.un dst (.int .i64 i)) ops keep K := callC_eq (f18 )
attribute [push_cast] f18c



set_option maxHeartbeats 2000000 in
theorem f84 {b : Bool}  : Fun G 84 [.bool b] (.int .u8 (if b then 1 else 0), []) := by
  refine Fun.of_run (g := g84) (pf := pf84) rfl rfl rfl rfl ?_
  cases b <;> simp (disch := first | assumption | ((try simp only [LEN, LEN2]); omega)) only [push_cast, Int.reduceToNat, Int.reduceEq, Int.reduceNe, Int.reduceLT, Int.reduceLE, Int.reduceAdd, Int.reduceSub, Int.reduceMul, Int.reduceNeg, Nat.reduceEqDiff, Nat.reduceBEq, Nat.reduceBNe, Nat.reduceAdd, Nat.reduceLeDiff, Nat.reduceLT, Nat.reduceMul, ↓reduceIte, reduceCtorEq, g84, pf84, b84]
theorem f84c {b : Bool}  {g : VG} {F : Fn} {lk : Bool} {e : Env} {dst : Option Nat} {ops : List Ins} {keep : Option (List Nat)} {K : List Fr} : CallC G g F 84 [.bool b] lk e dst ops keep K = ThenL G g F (if lk && !(T.noSl (.int .u8 (if b then 1 else 0))) then none else e.put g.un dst (.int .u8 (if b then 1 else 0))) ops keep K := callC_eq (f84 )
attribute [push_cast] f84c



set_option maxHeartbeats 2000000 in
theorem f106 {s : List UInt8}  : Fun G 106 [.str (bs s)] (.bool (decide (s.length ≤ 20)), []) := by
  refine Fun.of_run (g := g106) (pf := pf106) rfl rfl rfl rfl ?_
  simp (disch := first | assumption | ((try simp only [LEN, LEN2]); omega)) only [push_cast, Int.reduceToNat, Int.reduceEq, Int.reduceNe, Int.reduceLT, Int.reduceLE, Int.reduceAdd, Int.reduceSub, Int.reduceMul, Int.reduceNeg, Nat.reduceEqDiff, Nat.reduceBEq, Nat.reduceBNe, Nat.reduceAdd, Nat.reduceLeDiff, Nat.reduceLT, Nat.reduceMul, ↓reduceIte, reduceCtorEq, g106, pf106, b106]
  exact boolRes (by omega)
theorem f106c {s : List UInt8}  {g : VG} {F : Fn} {lk : Bool} {e : Env} {dst : Option Nat} {ops : List Ins} {keep : Option (List Nat)} {K : List Fr} : CallC G g F 106 [.str (bs s)] lk e dst ops keep K = ThenL G g F (if lk && !(T.noSl (.bool (decide (s.length ≤ 20)))) then none else e.put g.un dst (.bool (decide (s.length ≤ 20)))) ops keep K := callC_eq (f106 )
attribute [push_cast] f106c

set_option maxHeartbeats 2000000 in
theorem f104 {t : Int}  : Fun G 104 [.int .i64 t] (.bool (decide (0 ≤ t ∧ t < 3)), []) := by
  refine Fun.of_run (g := g104) (pf := pf104) rfl rfl rfl rfl ?_
  by_cases h : 0 ≤ t <;> by_cases h' : t < 3 <;> simp (disch := first | assumption | ((try simp only [LEN, LEN2]); omega)) only [push_cast, Int.reduceToNat, Int.reduceEq, Int.reduceNe, Int.reduceLT, Int.reduceLE, Int.reduceAdd, Int.reduceSub, Int.reduceMul, Int.reduceNeg, Nat.reduceEqDiff, Nat.reduceBEq, Nat.reduceBNe, Nat.reduceAdd, Nat.reduceLeDiff, Nat.reduceLT, Nat.reduceMul, ↓reduceIte, reduceCtorEq, g104, pf104, b104, h, h']
theorem f104c {t : Int}  {g : VG} {F : Fn} {lk : Bool} {e : Env} {dst : Option Nat} {ops : List Ins} {keep : Option (List Nat)} {K : List Fr} : CallC G g F 104 [.int .i64 t] lk e dst ops keep K = ThenL G g F (if lk && !(T.noSl (.bool (decide (0 ≤ t ∧ t < 3)))) then none else e.put g.un dst (.bool (decide (0 ≤ t ∧ t < 3)))) ops keep K := callC_eq (f104 )
attribute [push_cast] f104c

set_option maxHeartbeats 2000000 in
theorem f105 {s : List UInt8}  : Fun G 105 [.str (bs s)] (.bool (decide (s ≠ [] ∧ s.length ≤ 12)), []) := by
  refine Fun.of_run (g := g105) (pf := pf105) rfl rfl rfl rfl ?_
  by_cases h : s = [] <;> by_cases h' : (s.length : Int) ≤ 12 <;> simp (disch := first | assumption | ((try simp only [LEN, LEN2]); omega)) only [push_cast, Int.reduceToNat, Int.reduceEq, Int.reduceNe, Int.reduceLT, Int.reduceLE, Int.reduceAdd, Int.reduceSub, Int.reduceMul, Int.reduceNeg, Nat.reduceEqDiff, Nat.reduceBEq, Nat.reduceBNe, Nat.reduceAdd, Nat.reduceLeDiff, Nat.reduceLT, Nat.reduceMul, ↓reduceIte, reduceCtorEq, g105, pf105, b105, h, h'] <;> simp <;> omega
theorem f105c {s : List UInt8}  {g : VG} {F : Fn} {lk : Bool} {e : Env} {dst : Option Nat} {ops : List Ins} {keep : Option (List Nat)} {K : List Fr} : CallC G g F 105 [.str (bs s)] lk e dst ops keep K = ThenL G g F (if lk && !(T.noSl (.bool (decide (s ≠ [] ∧ s.length ≤ 12)))) then none else e.put g.un dst (.bool (decide (s ≠ [] ∧ s.length ≤ 12)))) ops keep K := callC_eq (f105 )
attribute [push_cast] f105c

def okW (w : Write) : Bool := decide (0 ≤ w.Table ∧ w.Table < 3 ∧ w.Key ≠ [] ∧ w.Key.length ≤ 12 ∧ w.Value.length ≤ 20 ∧ (w.Gone = false ∨ w.Value = []))

set_option maxHeartbeats 2000000 in
theorem f82 {t : Int} {k v : List UInt8} {d : Bool}  : Fun G 82 [.vs true (cW t k v d)] (.bool (okW ⟨t, k, v, d⟩), []) := by
  refine Fun.of_run (g := g82) (pf := pf82) rfl rfl rfl rfl ?_
  by_cases h1 : 0 ≤ t ∧ t < 3
  · by_cases h2 : k = []
    · simp (disch := first | assumption | ((try simp only [LEN, LEN2]); omega)) only [push_cast, Int.reduceToNat, Int.reduceEq, Int.reduceNe, Int.reduceLT, Int.reduceLE, Int.reduceAdd, Int.reduceSub, Int.reduceMul, Int.reduceNeg, Nat.reduceEqDiff, Nat.reduceBEq, Nat.reduceBNe, Nat.reduceAdd, Nat.reduceLeDiff, Nat.reduceLT, Nat.reduceMul, ↓reduceIte, reduceCtorEq, g82, pf82, b82, h1, h2]
      simp [okW]
    · by_cases h3 : k.length ≤ 12
      · by_cases h4 : v.length ≤ 20
        · cases d <;> by_cases h5 : v = [] <;> simp (disch := first | assumption | ((try simp only [LEN, LEN2]); omega)) only [push_cast, Int.reduceToNat, Int.reduceEq, Int.reduceNe, Int.reduceLT, Int.reduceLE, Int.reduceAdd, Int.reduceSub, Int.reduceMul, Int.reduceNeg, Nat.reduceEqDiff, Nat.reduceBEq, Nat.reduceBNe, Nat.reduceAdd, Nat.reduceLeDiff, Nat.reduceLT, Nat.reduceMul, ↓reduceIte, reduceCtorEq, g82, pf82, b82, h1, h2, h3, h4, h5] <;> simp [okW, *]
        · simp (disch := first | assumption | ((try simp only [LEN, LEN2]); omega)) only [push_cast, Int.reduceToNat, Int.reduceEq, Int.reduceNe, Int.reduceLT, Int.reduceLE, Int.reduceAdd, Int.reduceSub, Int.reduceMul, Int.reduceNeg, Nat.reduceEqDiff, Nat.reduceBEq, Nat.reduceBNe, Nat.reduceAdd, Nat.reduceLeDiff, Nat.reduceLT, Nat.reduceMul, ↓reduceIte, reduceCtorEq, g82, pf82, b82, h1, h2, h3, h4]
          simp [okW, *]
      · simp (disch := first | assumption | ((try simp only [LEN, LEN2]); omega)) only [push_cast, Int.reduceToNat, Int.reduceEq, Int.reduceNe, Int.reduceLT, Int.reduceLE, Int.reduceAdd, Int.reduceSub, Int.reduceMul, Int.reduceNeg, Nat.reduceEqDiff, Nat.reduceBEq, Nat.reduceBNe, Nat.reduceAdd, Nat.reduceLeDiff, Nat.reduceLT, Nat.reduceMul, ↓reduceIte, reduceCtorEq, g82, pf82, b82, h1, h2, h3]
        simp [okW, *]
  · simp (disch := first | assumption | ((try simp only [LEN, LEN2]); omega)) only [push_cast, Int.reduceToNat, Int.reduceEq, Int.reduceNe, Int.reduceLT, Int.reduceLE, Int.reduceAdd, Int.reduceSub, Int.reduceMul, Int.reduceNeg, Nat.reduceEqDiff, Nat.reduceBEq, Nat.reduceBNe, Nat.reduceAdd, Nat.reduceLeDiff, Nat.reduceLT, Nat.reduceMul, ↓reduceIte, reduceCtorEq, g82, pf82, b82, h1]
    have : okW ⟨t, k, v, d⟩ = false := by simp only [okW, decide_eq_false_iff_not]; omega
    rw [this]
theorem f82c {t : Int} {k v : List UInt8} {d : Bool}  {g : VG} {F : Fn} {lk : Bool} {e : Env} {dst : Option Nat} {ops : List Ins} {keep : Option (List Nat)} {K : List Fr} : CallC G g F 82 [.vs true (cW t k v d)] lk e dst ops keep K = ThenL G g F (if lk && !(T.noSl (.bool (okW ⟨t, k, v, d⟩))) then none else e.put g.un dst (.bool (okW ⟨t, k, v, d⟩))) ops keep K := callC_eq (f82 )
attribute [push_cast] f82c


def okR (r : Record) : Bool := decide (1 ≤ r.Commit ∧ r.Commit ≤ 1073741824 ∧ r.Writes.length ≤ 64) && r.Writes.all okW

set_option maxHeartbeats 2000000 in
theorem f81 {t : Int} {k v : List UInt8} {d : Bool}  : Fun G 81 [.vs true (cW t k v d)] (.bool (!okW ⟨t, k, v, d⟩), []) := by
  refine Fun.of_run (g := g81) (pf := pf81) rfl rfl rfl rfl ?_
  simp (disch := first | assumption | ((try simp only [LEN, LEN2]); omega)) only [push_cast, Int.reduceToNat, Int.reduceEq, Int.reduceNe, Int.reduceLT, Int.reduceLE, Int.reduceAdd, Int.reduceSub, Int.reduceMul, Int.reduceNeg, Nat.reduceEqDiff, Nat.reduceBEq, Nat.reduceBNe, Nat.reduceAdd, Nat.reduceLeDiff, Nat.reduceLT, Nat.reduceMul, ↓reduceIte, reduceCtorEq, g81, pf81, b81]
theorem f81c {t : Int} {k v : List UInt8} {d : Bool}  {g : VG} {F : Fn} {lk : Bool} {e : Env} {dst : Option Nat} {ops : List Ins} {keep : Option (List Nat)} {K : List Fr} : CallC G g F 81 [.vs true (cW t k v d)] lk e dst ops keep K = ThenL G g F (if lk && !(T.noSl (.bool (!okW ⟨t, k, v, d⟩))) then none else e.put g.un dst (.bool (!okW ⟨t, k, v, d⟩))) ops keep K := callC_eq (f81 )
attribute [push_cast] f81c

end Go.Mir.Try

/- Walks: copies, comparisons, weights. -/
set_option linter.unusedVariables false
set_option linter.unusedSimpArgs false
set_option maxRecDepth 100000
namespace Go.Mir.Try
open Go.Proofs Go.Mir.Q

theorem eqW_fold (a b : Write) : (decide (a.Table = b.Table) && (decide (a.Key = b.Key) && (decide (a.Value = b.Value) && decide (a.Gone = b.Gone)))) = decide (a = b) := by
  obtain ⟨a1, a2, a3, a4⟩ := a
  obtain ⟨b1, b2, b3, b4⟩ := b
  simp

set_option maxHeartbeats 2000000 in
theorem f12 {l : List (List UInt8)} (hl : l.length ≤ 1000000000) : Fun G 12 [.one (.d (.sl (l.map eS)))] (.one (.own 9 (l.map oS)), []) := by
  refine Fun.of_run (g := g12) (pf := pf12) rfl rfl rfl rfl ?_
  simp (disch := first | assumption | ((try simp only [LEN, LEN2]); omega)) only [push_cast, Int.reduceToNat, Int.reduceEq, Int.reduceNe, Int.reduceLT, Int.reduceLE, Int.reduceAdd, Int.reduceSub, Int.reduceMul, Int.reduceNeg, Nat.reduceEqDiff, Nat.reduceBEq, Nat.reduceBNe, Nat.reduceAdd, Nat.reduceLeDiff, Nat.reduceLT, Nat.reduceMul, ↓reduceIte, reduceCtorEq, g12, pf12, b12]
  refine run_loop' (fun i : Nat => [(0, T.one (.d (.sl (l.map eS)))), (3, T.one (.own 9 ((l.take i).map oS))), (4, T.int .i64 i)]) (fun i => i ≤ l.length) (fun i => l.length - i) 0 rfl (Nat.zero_le _) (fun i hi => ?_)
  simp (disch := first | assumption | ((try simp only [LEN, LEN2]); omega)) only [push_cast, Int.reduceToNat, Int.reduceEq, Int.reduceNe, Int.reduceLT, Int.reduceLE, Int.reduceAdd, Int.reduceSub, Int.reduceMul, Int.reduceNeg, Nat.reduceEqDiff, Nat.reduceBEq, Nat.reduceBNe, Nat.reduceAdd, Nat.reduceLeDiff, Nat.reduceLT, Nat.reduceMul, ↓reduceIte, reduceCtorEq, g12, pf12, b12]
  refine If.dec (fun h => ?_) (fun h => ?_)
  · replace h : i < l.length := by omega
    simp (disch := first | assumption | ((try simp only [LEN, LEN2]); omega)) only [push_cast, Int.reduceToNat, Int.reduceEq, Int.reduceNe, Int.reduceLT, Int.reduceLE, Int.reduceAdd, Int.reduceSub, Int.reduceMul, Int.reduceNeg, Nat.reduceEqDiff, Nat.reduceBEq, Nat.reduceBNe, Nat.reduceAdd, Nat.reduceLeDiff, Nat.reduceLT, Nat.reduceMul, ↓reduceIte, reduceCtorEq, g12, pf12, b12, eS]
    refine ⟨i + 1, ?_, by omega, by omega⟩
    simp only [List.take_succ_eq_append_getElem h, List.map_append, List.map_cons, List.map_nil, oS, Int.natCast_add, Int.cast_ofNat_Int]
  · obtain rfl : i = l.length := by omega
    simp (disch := first | assumption | ((try simp only [LEN, LEN2]); omega)) only [push_cast, Int.reduceToNat, Int.reduceEq, Int.reduceNe, Int.reduceLT, Int.reduceLE, Int.reduceAdd, Int.reduceSub, Int.reduceMul, Int.reduceNeg, Nat.reduceEqDiff, Nat.reduceBEq, Nat.reduceBNe, Nat.reduceAdd, Nat.reduceLeDiff, Nat.reduceLT, Nat.reduceMul, ↓reduceIte, reduceCtorEq, g12, pf12, b12, eS]
    simp
theorem f12c {l : List (List UInt8)} (hl : l.length ≤ 1000000000) {g : VG} {F : Fn} {lk : Bool} {e : Env} {dst : Option Nat} {ops : List Ins} {keep : Option (List Nat)} {K : List Fr} : CallC G g F 12 [.one (.d (.sl (l.map eS)))] lk e dst ops keep K = ThenL G g F (if lk && !(T.noSl (.one (.own 9 (l.map oS)))) then none else e.put g.un dst (.one (.own 9 (l.map oS)))) ops keep K := callC_eq (f12 hl)
attribute [push_cast] f12c


set_option maxHeartbeats 2000000 in
theorem f50 {a b : List Write} (ha : a.length ≤ 1000000000) (hb : b.length ≤ 1000000000) : Fun G 50 [.one (.d (.sl (a.map eW))), .one (.d (.sl (b.map eW)))] (.bool (decide (a = b)), []) := by
  refine Fun.of_run (g := g50) (pf := pf50) rfl rfl rfl rfl ?_
  simp (disch := first | assumption | ((try simp only [LEN, LEN2]); omega)) only [push_cast, Int.reduceToNat, Int.reduceEq, Int.reduceNe, Int.reduceLT, Int.reduceLE, Int.reduceAdd, Int.reduceSub, Int.reduceMul, Int.reduceNeg, Nat.reduceEqDiff, Nat.reduceBEq, Nat.reduceBNe, Nat.reduceAdd, Nat.reduceLeDiff, Nat.reduceLT, Nat.reduceMul, ↓reduceIte, reduceCtorEq, g50, pf50, b50]
  refine If.dec (fun h => ?_) (fun h => ?_)
  · have : a ≠ b := fun e => h (by rw [e])
    simp (disch := first | assumption | ((try simp only [LEN, LEN2]); omega)) only [push_cast, Int.reduceToNat, Int.reduceEq, Int.reduceNe, Int.reduceLT, Int.reduceLE, Int.reduceAdd, Int.reduceSub, Int.reduceMul, Int.reduceNeg, Nat.reduceEqDiff, Nat.reduceBEq, Nat.reduceBNe, Nat.reduceAdd, Nat.reduceLeDiff, Nat.reduceLT, Nat.reduceMul, ↓reduceIte, reduceCtorEq, g50, pf50, b50]
    simp [this]
  simp (disch := first | assumption | ((try simp only [LEN, LEN2]); omega)) only [push_cast, Int.reduceToNat, Int.reduceEq, Int.reduceNe, Int.reduceLT, Int.reduceLE, Int.reduceAdd, Int.reduceSub, Int.reduceMul, Int.reduceNeg, Nat.reduceEqDiff, Nat.reduceBEq, Nat.reduceBNe, Nat.reduceAdd, Nat.reduceLeDiff, Nat.reduceLT, Nat.reduceMul, ↓reduceIte, reduceCtorEq, g50, pf50, b50]
  have hl : a.length = b.length := by omega
  refine run_loop' (fun i : Nat => [(0, T.one (.d (.sl (a.map eW)))), (1, T.one (.d (.sl (b.map eW)))), (5, T.int .i64 i)]) (fun i => i ≤ a.length ∧ a.take i = b.take i) (fun i => a.length - i) 0 rfl ⟨Nat.zero_le _, by simp⟩ (fun i hi => ?_)
  obtain ⟨hi, ht⟩ := hi
  simp (disch := first | assumption | ((try simp only [LEN, LEN2]); omega)) only [push_cast, Int.reduceToNat, Int.reduceEq, Int.reduceNe, Int.reduceLT, Int.reduceLE, Int.reduceAdd, Int.reduceSub, Int.reduceMul, Int.reduceNeg, Nat.reduceEqDiff, Nat.reduceBEq, Nat.reduceBNe, Nat.reduceAdd, Nat.reduceLeDiff, Nat.reduceLT, Nat.reduceMul, ↓reduceIte, reduceCtorEq, g50, pf50, b50]
  refine If.dec (fun h => ?_) (fun h => ?_)
  · replace h : i < a.length := by omega
    have h' : i < b.length := by omega
    simp (disch := first | assumption | ((try simp only [LEN, LEN2]); omega)) only [push_cast, Int.reduceToNat, Int.reduceEq, Int.reduceNe, Int.reduceLT, Int.reduceLE, Int.reduceAdd, Int.reduceSub, Int.reduceMul, Int.reduceNeg, Nat.reduceEqDiff, Nat.reduceBEq, Nat.reduceBNe, Nat.reduceAdd, Nat.reduceLeDiff, Nat.reduceLT, Nat.reduceMul, ↓reduceIte, reduceCtorEq, g50, pf50, b50, eW, eqW_fold]
    by_cases he : a[i] = b[i]
    · simp (disch := first | assumption | ((try simp only [LEN, LEN2]); omega)) only [push_cast, Int.reduceToNat, Int.reduceEq, Int.reduceNe, Int.reduceLT, Int.reduceLE, Int.reduceAdd, Int.reduceSub, Int.reduceMul, Int.reduceNeg, Nat.reduceEqDiff, Nat.reduceBEq, Nat.reduceBNe, Nat.reduceAdd, Nat.reduceLeDiff, Nat.reduceLT, Nat.reduceMul, ↓reduceIte, reduceCtorEq, g50, pf50, b50, he]
      refine ⟨i + 1, rfl, ⟨by omega, ?_⟩, by omega⟩
      rw [List.take_succ_eq_append_getElem h, List.take_succ_eq_append_getElem h', ht, he]
    · have hne : a ≠ b := fun e => he (by subst e; rfl)
      simp (disch := first | assumption | ((try simp only [LEN, LEN2]); omega)) only [push_cast, Int.reduceToNat, Int.reduceEq, Int.reduceNe, Int.reduceLT, Int.reduceLE, Int.reduceAdd, Int.reduceSub, Int.reduceMul, Int.reduceNeg, Nat.reduceEqDiff, Nat.reduceBEq, Nat.reduceBNe, Nat.reduceAdd, Nat.reduceLeDiff, Nat.reduceLT, Nat.reduceMul, ↓reduceIte, reduceCtorEq, g50, pf50, b50, he]
      simp [hne]
  · obtain rfl : i = a.length := by omega
    have : a = b := by rw [List.take_length] at ht; rw [ht, hl, List.take_length]
    simp (disch := first | assumption | ((try simp only [LEN, LEN2]); omega)) only [push_cast, Int.reduceToNat, Int.reduceEq, Int.reduceNe, Int.reduceLT, Int.reduceLE, Int.reduceAdd, Int.reduceSub, Int.reduceMul, Int.reduceNeg, Nat.reduceEqDiff, Nat.reduceBEq, Nat.reduceBNe, Nat.reduceAdd, Nat.reduceLeDiff, Nat.reduceLT, Nat.reduceMul, ↓reduceIte, reduceCtorEq, g50, pf50, b50]
    simp [this]
theorem f50c {a b : List Write} (ha : a.length ≤ 1000000000) (hb : b.length ≤ 1000000000) {g : VG} {F : Fn} {lk : Bool} {e : Env} {dst : Option Nat} {ops : List Ins} {keep : Option (List Nat)} {K : List Fr} : CallC G g F 50 [.one (.d (.sl (a.map eW))), .one (.d (.sl (b.map eW)))] lk e dst ops keep K = ThenL G g F (if lk && !(T.noSl (.bool (decide (a = b)))) then none else e.put g.un dst (.bool (decide (a = b)))) ops keep K := callC_eq (f50 ha hb)
attribute [push_cast] f50c

set_option maxHeartbeats 2000000 in
theorem f20 {n m : Int} {a b : List Write} (ha : a.length ≤ 1000000000) (hb : b.length ≤ 1000000000) : Fun G 20 [.vs true [.d (.sc (.int .i64 n)), .d (.sl (a.map eW))], .vs true [.d (.sc (.int .i64 m)), .d (.sl (b.map eW))]] (.bool (decide (n = m ∧ a = b)), []) := by
  refine Fun.of_run (g := g20) (pf := pf20) rfl rfl rfl rfl ?_
  by_cases h : n = m <;> simp (disch := first | assumption | ((try simp only [LEN, LEN2]); omega)) only [push_cast, Int.reduceToNat, Int.reduceEq, Int.reduceNe, Int.reduceLT, Int.reduceLE, Int.reduceAdd, Int.reduceSub, Int.reduceMul, Int.reduceNeg, Nat.reduceEqDiff, Nat.reduceBEq, Nat.reduceBNe, Nat.reduceAdd, Nat.reduceLeDiff, Nat.reduceLT, Nat.reduceMul, ↓reduceIte, reduceCtorEq, g20, pf20, b20, h] <;> simp
theorem f20c {n m : Int} {a b : List Write} (ha : a.length ≤ 1000000000) (hb : b.length ≤ 1000000000) {g : VG} {F : Fn} {lk : Bool} {e : Env} {dst : Option Nat} {ops : List Ins} {keep : Option (List Nat)} {K : List Fr} : CallC G g F 20 [.vs true [.d (.sc (.int .i64 n)), .d (.sl (a.map eW))], .vs true [.d (.sc (.int .i64 m)), .d (.sl (b.map eW))]] lk e dst ops keep K = ThenL G g F (if lk && !(T.noSl (.bool (decide (n = m ∧ a = b)))) then none else e.put g.un dst (.bool (decide (n = m ∧ a = b)))) ops keep K := callC_eq (f20 ha hb)
attribute [push_cast] f20c


/-- A weight. -/
def isW (r : Res) : Prop := ∃ n : Int, r = (.int .i64 n, []) ∧ 0 ≤ n ∧ n ≤ 4398046511104

theorem f44 {l : List (List UInt8)} (hl : l.length ≤ 1048576) (h : ∀ s ∈ l, s.length ≤ 1048576) : ∃ n : Int, Fun G 44 [.one (.d (.sl (l.map eS)))] (.int .i64 n, []) ∧ 0 ≤ n ∧ n ≤ 2097152 := by
  obtain ⟨r, h1, n, rfl, h2⟩ := Fun.ex_of_run (G := G) (f := 44) (args := [.one (.d (.sl (l.map eS)))]) (Q := fun r => ∃ n : Int, r = (.int .i64 n, []) ∧ 0 ≤ n ∧ n ≤ 2097152) (g := g44) (pf := pf44) rfl rfl rfl rfl (by
    simp (disch := first | assumption | ((try simp only [LEN, LEN2]); omega)) only [push_cast, Int.reduceToNat, Int.reduceEq, Int.reduceNe, Int.reduceLT, Int.reduceLE, Int.reduceAdd, Int.reduceSub, Int.reduceMul, Int.reduceNeg, Nat.reduceEqDiff, Nat.reduceBEq, Nat.reduceBNe, Nat.reduceAdd, Nat.reduceLeDiff, Nat.reduceLT, Nat.reduceMul, ↓reduceIte, reduceCtorEq, g44, pf44, b44]
    refine run_loop' (fun x : Nat × Int => [(0, T.one (.d (.sl (l.map eS)))), (3, T.int .i64 x.2), (4, T.int .i64 x.1)]) (fun x => x.1 ≤ l.length ∧ 0 ≤ x.2 ∧ x.2 ≤ 2097152) (fun x => l.length - x.1) (0, l.length) rfl (by simp only; omega) (fun ⟨i, n⟩ hi => ?_)
    simp only at hi
    by_cases h1 : (i : Int) < l.length
    · have hi' : i < l.length := by omega
      have hs := h l[i] (List.getElem_mem hi')
      simp (disch := first | assumption | ((try simp only [LEN, LEN2]); omega)) only [push_cast, Int.reduceToNat, Int.reduceEq, Int.reduceNe, Int.reduceLT, Int.reduceLE, Int.reduceAdd, Int.reduceSub, Int.reduceMul, Int.reduceNeg, Nat.reduceEqDiff, Nat.reduceBEq, Nat.reduceBNe, Nat.reduceAdd, Nat.reduceLeDiff, Nat.reduceLT, Nat.reduceMul, ↓reduceIte, reduceCtorEq, g44, pf44, b44, h1]
      refine If.dec (fun h2 => ?_) (fun h2 => ?_)
      · simp (disch := first | assumption | ((try simp only [LEN, LEN2]); omega)) only [push_cast, Int.reduceToNat, Int.reduceEq, Int.reduceNe, Int.reduceLT, Int.reduceLE, Int.reduceAdd, Int.reduceSub, Int.reduceMul, Int.reduceNeg, Nat.reduceEqDiff, Nat.reduceBEq, Nat.reduceBNe, Nat.reduceAdd, Nat.reduceLeDiff, Nat.reduceLT, Nat.reduceMul, ↓reduceIte, reduceCtorEq, g44, pf44, b44, eS]
        exact ⟨(i + 1, n + l[i].length), rfl, by simp only; omega, by simp only; omega⟩
      · simp (disch := first | assumption | ((try simp only [LEN, LEN2]); omega)) only [push_cast, Int.reduceToNat, Int.reduceEq, Int.reduceNe, Int.reduceLT, Int.reduceLE, Int.reduceAdd, Int.reduceSub, Int.reduceMul, Int.reduceNeg, Nat.reduceEqDiff, Nat.reduceBEq, Nat.reduceBNe, Nat.reduceAdd, Nat.reduceLeDiff, Nat.reduceLT, Nat.reduceMul, ↓reduceIte, reduceCtorEq, g44, pf44, b44]
        exact ⟨n, rfl, hi.2⟩
    · simp (disch := first | assumption | ((try simp only [LEN, LEN2]); omega)) only [push_cast, Int.reduceToNat, Int.reduceEq, Int.reduceNe, Int.reduceLT, Int.reduceLE, Int.reduceAdd, Int.reduceSub, Int.reduceMul, Int.reduceNeg, Nat.reduceEqDiff, Nat.reduceBEq, Nat.reduceBNe, Nat.reduceAdd, Nat.reduceLeDiff, Nat.reduceLT, Nat.reduceMul, ↓reduceIte, reduceCtorEq, g44, pf44, b44, h1]
      exact ⟨n, rfl, hi.2⟩)
  exact ⟨n, h1, h2⟩

def smS (l : List (List UInt8)) : Prop := l.length ≤ 1048576 ∧ ∀ s ∈ l, s.length ≤ 1048576
def smW (l : List Write) : Prop := l.length ≤ 1048576 ∧ ∀ w ∈ l, w.Key.length ≤ 1048576 ∧ w.Value.length ≤ 1048576
def smR (l : List Record) : Prop := l.length ≤ 1048576 ∧ ∀ r ∈ l, smW r.Writes ∧ okN r.Commit

theorem f79 {l : List Write} (hl : smW l) : ∃ n : Int, Fun G 79 [.one (.d (.sl (l.map eW)))] (.int .i64 n, []) ∧ 0 ≤ n ∧ n ≤ 2097152 := by
  obtain ⟨hl, h⟩ := hl
  obtain ⟨r, h1, n, rfl, h2⟩ := Fun.ex_of_run (G := G) (f := 79) (args := [.one (.d (.sl (l.map eW)))]) (Q := fun r => ∃ n : Int, r = (.int .i64 n, []) ∧ 0 ≤ n ∧ n ≤ 2097152) (g := g79) (pf := pf79) rfl rfl rfl rfl (by
    simp (disch := first | assumption | ((try simp only [LEN, LEN2]); omega)) only [push_cast, Int.reduceToNat, Int.reduceEq, Int.reduceNe, Int.reduceLT, Int.reduceLE, Int.reduceAdd, Int.reduceSub, Int.reduceMul, Int.reduceNeg, Nat.reduceEqDiff, Nat.reduceBEq, Nat.reduceBNe, Nat.reduceAdd, Nat.reduceLeDiff, Nat.reduceLT, Nat.reduceMul, ↓reduceIte, reduceCtorEq, g79, pf79, b79]
    refine run_loop' (fun x : Nat × Int => [(0, T.one (.d (.sl (l.map eW)))), (3, T.int .i64 x.2), (4, T.int .i64 x.1)]) (fun x => x.1 ≤ l.length ∧ 0 ≤ x.2 ∧ x.2 ≤ 2097152) (fun x => l.length - x.1) (0, l.length) rfl (by simp only; omega) (fun ⟨i, n⟩ hi => ?_)
    simp only at hi
    by_cases h1 : (i : Int) < l.length
    · have hi' : i < l.length := by omega
      have hs := h l[i] (List.getElem_mem hi')
      simp (disch := first | assumption | ((try simp only [LEN, LEN2]); omega)) only [push_cast, Int.reduceToNat, Int.reduceEq, Int.reduceNe, Int.reduceLT, Int.reduceLE, Int.reduceAdd, Int.reduceSub, Int.reduceMul, Int.reduceNeg, Nat.reduceEqDiff, Nat.reduceBEq, Nat.reduceBNe, Nat.reduceAdd, Nat.reduceLeDiff, Nat.reduceLT, Nat.reduceMul, ↓reduceIte, reduceCtorEq, g79, pf79, b79, h1]
      refine If.dec (fun h2 => ?_) (fun h2 => ?_)
      · simp (disch := first | assumption | ((try simp only [LEN, LEN2]); omega)) only [push_cast, Int.reduceToNat, Int.reduceEq, Int.reduceNe, Int.reduceLT, Int.reduceLE, Int.reduceAdd, Int.reduceSub, Int.reduceMul, Int.reduceNeg, Nat.reduceEqDiff, Nat.reduceBEq, Nat.reduceBNe, Nat.reduceAdd, Nat.reduceLeDiff, Nat.reduceLT, Nat.reduceMul, ↓reduceIte, reduceCtorEq, g79, pf79, b79, eW]
        exact ⟨(i + 1, n + ((l[i].Key.length : Int) + l[i].Value.length) / 8), rfl, by simp only; omega, by simp only; omega⟩
      · simp (disch := first | assumption | ((try simp only [LEN, LEN2]); omega)) only [push_cast, Int.reduceToNat, Int.reduceEq, Int.reduceNe, Int.reduceLT, Int.reduceLE, Int.reduceAdd, Int.reduceSub, Int.reduceMul, Int.reduceNeg, Nat.reduceEqDiff, Nat.reduceBEq, Nat.reduceBNe, Nat.reduceAdd, Nat.reduceLeDiff, Nat.reduceLT, Nat.reduceMul, ↓reduceIte, reduceCtorEq, g79, pf79, b79]
        exact ⟨n, rfl, hi.2⟩
    · simp (disch := first | assumption | ((try simp only [LEN, LEN2]); omega)) only [push_cast, Int.reduceToNat, Int.reduceEq, Int.reduceNe, Int.reduceLT, Int.reduceLE, Int.reduceAdd, Int.reduceSub, Int.reduceMul, Int.reduceNeg, Nat.reduceEqDiff, Nat.reduceBEq, Nat.reduceBNe, Nat.reduceAdd, Nat.reduceLeDiff, Nat.reduceLT, Nat.reduceMul, ↓reduceIte, reduceCtorEq, g79, pf79, b79, h1]
      exact ⟨n, rfl, hi.2⟩)
  exact ⟨n, h1, h2⟩

theorem f43 {l : List Record} (hl : smR l) : ∃ n : Int, Fun G 43 [.one (.d (.sl (l.map eR)))] (.int .i64 n, []) ∧ 0 ≤ n ∧ n ≤ 4194304 := by
  obtain ⟨hl, h⟩ := hl
  obtain ⟨r, h1, n, rfl, h2⟩ := Fun.ex_of_run (G := G) (f := 43) (args := [.one (.d (.sl (l.map eR)))]) (Q := fun r => ∃ n : Int, r = (.int .i64 n, []) ∧ 0 ≤ n ∧ n ≤ 4194304) (g := g43) (pf := pf43) rfl rfl rfl rfl (by
    simp (disch := first | assumption | ((try simp only [LEN, LEN2]); omega)) only [push_cast, Int.reduceToNat, Int.reduceEq, Int.reduceNe, Int.reduceLT, Int.reduceLE, Int.reduceAdd, Int.reduceSub, Int.reduceMul, Int.reduceNeg, Nat.reduceEqDiff, Nat.reduceBEq, Nat.reduceBNe, Nat.reduceAdd, Nat.reduceLeDiff, Nat.reduceLT, Nat.reduceMul, ↓reduceIte, reduceCtorEq, g43, pf43, b43]
    refine run_loop' (fun x : Nat × Int => [(0, T.one (.d (.sl (l.map eR)))), (3, T.int .i64 x.2), (4, T.int .i64 x.1)]) (fun x => x.1 ≤ l.length ∧ 0 ≤ x.2 ∧ x.2 ≤ 4194304) (fun x => l.length - x.1) (0, l.length) rfl (by simp only; omega) (fun ⟨i, n⟩ hi => ?_)
    simp only at hi
    by_cases h1 : (i : Int) < l.length
    · have hi' : i < l.length := by omega
      obtain ⟨m, hm, hm1, hm2⟩ := f79 (h l[i] (List.getElem_mem hi')).1
      simp (disch := first | assumption | ((try simp only [LEN, LEN2]); omega)) only [push_cast, Int.reduceToNat, Int.reduceEq, Int.reduceNe, Int.reduceLT, Int.reduceLE, Int.reduceAdd, Int.reduceSub, Int.reduceMul, Int.reduceNeg, Nat.reduceEqDiff, Nat.reduceBEq, Nat.reduceBNe, Nat.reduceAdd, Nat.reduceLeDiff, Nat.reduceLT, Nat.reduceMul, ↓reduceIte, reduceCtorEq, g43, pf43, b43, h1]
      refine If.dec (fun h2 => ?_) (fun h2 => ?_)
      · simp (disch := first | assumption | ((try simp only [LEN, LEN2]); omega)) only [push_cast, Int.reduceToNat, Int.reduceEq, Int.reduceNe, Int.reduceLT, Int.reduceLE, Int.reduceAdd, Int.reduceSub, Int.reduceMul, Int.reduceNeg, Nat.reduceEqDiff, Nat.reduceBEq, Nat.reduceBNe, Nat.reduceAdd, Nat.reduceLeDiff, Nat.reduceLT, Nat.reduceMul, ↓reduceIte, reduceCtorEq, g43, pf43, b43, eR, callC_eq hm]
        exact ⟨(i + 1, n + m), rfl, by simp only; omega, by simp only; omega⟩
      · simp (disch := first | assumption | ((try simp only [LEN, LEN2]); omega)) only [push_cast, Int.reduceToNat, Int.reduceEq, Int.reduceNe, Int.reduceLT, Int.reduceLE, Int.reduceAdd, Int.reduceSub, Int.reduceMul, Int.reduceNeg, Nat.reduceEqDiff, Nat.reduceBEq, Nat.reduceBNe, Nat.reduceAdd, Nat.reduceLeDiff, Nat.reduceLT, Nat.reduceMul, ↓reduceIte, reduceCtorEq, g43, pf43, b43]
        exact ⟨n, rfl, hi.2⟩
    · simp (disch := first | assumption | ((try simp only [LEN, LEN2]); omega)) only [push_cast, Int.reduceToNat, Int.reduceEq, Int.reduceNe, Int.reduceLT, Int.reduceLE, Int.reduceAdd, Int.reduceSub, Int.reduceMul, Int.reduceNeg, Nat.reduceEqDiff, Nat.reduceBEq, Nat.reduceBNe, Nat.reduceAdd, Nat.reduceLeDiff, Nat.reduceLT, Nat.reduceMul, ↓reduceIte, reduceCtorEq, g43, pf43, b43, h1]
      exact ⟨n, rfl, hi.2⟩)
  exact ⟨n, h1, h2⟩

theorem f11 {R : List Record} {S : List (List UInt8)} {N : List Int} {L : List (List (List UInt8))} (hR : smR R) (hS : smS S) (hN : N.length ≤ 1048576) (hL : L.length ≤ 1048576 ∧ ∀ l ∈ L, smS l) :
    ∃ b : Bool, Fun G 11 [.vs true [.d (.sl (R.map eR)), .d (.sl (S.map eS)), .d (.sl (N.map eN)), .d (.sl (L.map fun l => [.sl (l.map eS)]))]] (.bool b, []) := by
  obtain ⟨a, ha, ha1, ha2⟩ := f43 hR
  obtain ⟨c, hc, hc1, hc2⟩ := f44 hS.1 hS.2
  obtain ⟨r, h1, b, rfl⟩ := Fun.ex_of_run (G := G) (f := 11) (args := [.vs true [.d (.sl (R.map eR)), .d (.sl (S.map eS)), .d (.sl (N.map eN)), .d (.sl (L.map fun l => [.sl (l.map eS)]))]]) (Q := fun r => ∃ b : Bool, r = (.bool b, [])) (g := g11) (pf := pf11) rfl rfl rfl rfl (by
    simp (disch := first | assumption | ((try simp only [LEN, LEN2]); omega)) only [push_cast, Int.reduceToNat, Int.reduceEq, Int.reduceNe, Int.reduceLT, Int.reduceLE, Int.reduceAdd, Int.reduceSub, Int.reduceMul, Int.reduceNeg, Nat.reduceEqDiff, Nat.reduceBEq, Nat.reduceBNe, Nat.reduceAdd, Nat.reduceLeDiff, Nat.reduceLT, Nat.reduceMul, ↓reduceIte, reduceCtorEq, g11, pf11, b11, callC_eq ha, callC_eq hc]
    refine run_loop' (fun x : Nat × Int => [(1, T.one (.box [.d (.sl (R.map eR)), .d (.sl (S.map eS)), .d (.sl (N.map eN)), .d (.sl (L.map fun l => [.sl (l.map eS)]))])), (3, T.int .i64 x.2), (4, T.int .i64 x.1)]) (fun x => x.1 ≤ L.length ∧ 0 ≤ x.2 ∧ x.2 ≤ 1099511627776) (fun x => L.length - x.1) (0, a * 8 + c + N.length + L.length) rfl (by simp only; omega) (fun ⟨i, n⟩ hi => ?_)
    simp only at hi
    by_cases h1 : (i : Int) < L.length
    · have hi' : i < L.length := by omega
      have hs := hL.2 L[i] (List.getElem_mem hi')
      obtain ⟨m, hm, hm1, hm2⟩ := f44 hs.1 hs.2
      simp (disch := first | assumption | ((try simp only [LEN, LEN2]); omega)) only [push_cast, Int.reduceToNat, Int.reduceEq, Int.reduceNe, Int.reduceLT, Int.reduceLE, Int.reduceAdd, Int.reduceSub, Int.reduceMul, Int.reduceNeg, Nat.reduceEqDiff, Nat.reduceBEq, Nat.reduceBNe, Nat.reduceAdd, Nat.reduceLeDiff, Nat.reduceLT, Nat.reduceMul, ↓reduceIte, reduceCtorEq, g11, pf11, b11, h1]
      refine If.dec (fun h2 => ?_) (fun h2 => ?_)
      · simp (disch := first | assumption | ((try simp only [LEN, LEN2]); omega)) only [push_cast, Int.reduceToNat, Int.reduceEq, Int.reduceNe, Int.reduceLT, Int.reduceLE, Int.reduceAdd, Int.reduceSub, Int.reduceMul, Int.reduceNeg, Nat.reduceEqDiff, Nat.reduceBEq, Nat.reduceBNe, Nat.reduceAdd, Nat.reduceLeDiff, Nat.reduceLT, Nat.reduceMul, ↓reduceIte, reduceCtorEq, g11, pf11, b11, callC_eq hm]
        exact ⟨(i + 1, n + m), rfl, by simp only; omega, by simp only; omega⟩
      · simp (disch := first | assumption | ((try simp only [LEN, LEN2]); omega)) only [push_cast, Int.reduceToNat, Int.reduceEq, Int.reduceNe, Int.reduceLT, Int.reduceLE, Int.reduceAdd, Int.reduceSub, Int.reduceMul, Int.reduceNeg, Nat.reduceEqDiff, Nat.reduceBEq, Nat.reduceBNe, Nat.reduceAdd, Nat.reduceLeDiff, Nat.reduceLT, Nat.reduceMul, ↓reduceIte, reduceCtorEq, g11, pf11, b11]
        exact ⟨_, rfl⟩
    · simp (disch := first | assumption | ((try simp only [LEN, LEN2]); omega)) only [push_cast, Int.reduceToNat, Int.reduceEq, Int.reduceNe, Int.reduceLT, Int.reduceLE, Int.reduceAdd, Int.reduceSub, Int.reduceMul, Int.reduceNeg, Nat.reduceEqDiff, Nat.reduceBEq, Nat.reduceBNe, Nat.reduceAdd, Nat.reduceLeDiff, Nat.reduceLT, Nat.reduceMul, ↓reduceIte, reduceCtorEq, g11, pf11, b11, h1]
      exact ⟨_, rfl⟩)
  exact ⟨b, h1⟩

end Go.Mir.Try

/- Walks: bytes. -/
set_option linter.unusedVariables false
set_option linter.unusedSimpArgs false
set_option maxRecDepth 100000
namespace Go.Mir.Try
open Go.Proofs Go.Mir.Q

theorem oB_byt (n : Int) : oB (byt n) = [.d (.sc (.int .u8 (n % 256)))] := by simp only [oB, byt_toNat]
theorem be4 (n : Int) : be 4 n = [byt (n / 16777216), byt (n / 65536), byt (n / 256), byt n] := by
  rw [be_cons, be_cons, be_cons, be_cons]; simp [be]

set_option maxHeartbeats 2000000 in
theorem f83 {b : List UInt8} {n : Int} (hb : b.length ≤ 1000000000) : Fun G 83 [.one (.own 5 (b.map oB)), .int .i64 n] (.one (.own 5 ((b ++ be 4 n).map oB)), []) := by
  refine Fun.of_run (g := g83) (pf := pf83) rfl rfl rfl rfl ?_
  simp (disch := first | assumption | ((try simp only [LEN, LEN2]); omega)) only [push_cast, Int.reduceToNat, Int.reduceEq, Int.reduceNe, Int.reduceLT, Int.reduceLE, Int.reduceAdd, Int.reduceSub, Int.reduceMul, Int.reduceNeg, Nat.reduceEqDiff, Nat.reduceBEq, Nat.reduceBNe, Nat.reduceAdd, Nat.reduceLeDiff, Nat.reduceLT, Nat.reduceMul, ↓reduceIte, reduceCtorEq, g83, pf83, b83]
  simp only [be4, List.map_append, List.map_cons, List.map_nil, oB_byt]
theorem f83t {b : List UInt8} {n : Int} (hb : b.length ≤ 1000000000) {g : VG} {F : Fn} {lk : Bool} {ags : List Arg} {e0 e1 : Env} {dst : Option Nat} {ops : List Ins} {keep : Option (List Nat)} {K : List Fr} : CallT G g F 83 [.one (.own 5 (b.map oB)), .int .i64 n] lk ags e0 e1 dst ops keep K = RetT G g F (.one (.own 5 ((b ++ be 4 n).map oB))) [] lk ags e0 e1 dst ops keep K := callT_eq (f83 hb)
attribute [push_cast] f83t

theorem set_oB (l : List UInt8) (i : Nat) (b : UInt8) : (l.map oB).set i [.d (.sc (.int .u8 b.toNat))] = (l.set i b).map oB := by
  rw [List.map_set]; rfl


theorem or_byte {a b : Int} (h0 : 0 ≤ a) (h1 : a < 36028797018963968) (h2 : 0 ≤ b) (h3 : b < 256) : IntKind.i64.wrap ((BitVec.ofInt IntKind.i64.bits (a * 256) ||| BitVec.ofInt IntKind.i64.bits b).toNat) = a * 256 + b := by
  obtain ⟨m, rfl⟩ := Int.eq_ofNat_of_zero_le h0
  obtain ⟨k, rfl⟩ := Int.eq_ofNat_of_zero_le h2
  have e : (BitVec.ofInt IntKind.i64.bits ((m : Int) * 256) ||| BitVec.ofInt IntKind.i64.bits k).toNat = m * 256 + k := by
    have h4 : m * 256 % 18446744073709551616 = m * 256 := Nat.mod_eq_of_lt (by omega)
    have h5 : k % 18446744073709551616 = k := Nat.mod_eq_of_lt (by omega)
    have h6 : (m : Int) * 256 = ((m * 256 : Nat) : Int) := by push_cast; rfl
    rw [h6, BitVec.ofInt_natCast, BitVec.ofInt_natCast, BitVec.toNat_or, BitVec.toNat_ofNat, BitVec.toNat_ofNat]
    simp only [IntKind.bits]
    rw [show 2 ^ 64 = 18446744073709551616 from rfl, h4, h5]
    have := Nat.two_pow_add_eq_or_of_lt (i := 8) (b := k) (by omega) m
    rw [Nat.mul_comm m 256]
    exact this.symm
  rw [e, wrap_i64 (by omega) (by omega)]
  push_cast
  rfl

/-- A number, of bytes. -/
def num (l : List UInt8) : Int := l.foldl (fun a b => a * 256 + b.toNat) 0
theorem num_snoc (l : List UInt8) (b : UInt8) : num (l ++ [b]) = num l * 256 + b.toNat := by simp [num]
theorem num_bdk : ∀ (l : List UInt8) (k : Nat) (a : Int), 0 ≤ a → a < 256 ^ k → 0 ≤ l.foldl (fun a b => a * 256 + (b.toNat : Int)) a ∧ l.foldl (fun a b => a * 256 + (b.toNat : Int)) a < 256 ^ (k + l.length)
  | [], k, a, h0, h1 => ⟨h0, h1⟩
  | b :: l, k, a, h0, h1 => by
    have hb := b.toNat_lt
    have := num_bdk l (k + 1) (a * 256 + b.toNat) (by omega) (by rw [Int.pow_succ]; omega)
    rw [show k + (b :: l).length = k + 1 + l.length by simp; omega]
    exact this
theorem num_bd6 (l : List UInt8) (h : l.length ≤ 6) : 0 ≤ num l ∧ num l < 281474976710656 := by
  have h1 := num_bdk l 0 0 (by omega) (by simp)
  refine ⟨h1.1, Int.lt_of_lt_of_le h1.2 ?_⟩
  have : l.length = 0 ∨ l.length = 1 ∨ l.length = 2 ∨ l.length = 3 ∨ l.length = 4 ∨ l.length = 5 ∨ l.length = 6 := by omega
  rcases this with h | h | h | h | h | h | h <;> rw [h] <;> decide


end Go.Mir.Try

/- Walks: records. -/
set_option linter.unusedVariables false
set_option linter.unusedSimpArgs false
set_option maxRecDepth 100000
namespace Go.Mir.Try
open Go.Proofs Go.Mir.Q

def idx {α : Type} (p : α → Bool) (l : List α) : Int := match l.findIdx? p with | some i => i | none => -1
theorem idx_none {α : Type} {p : α → Bool} {l : List α} (h : ∀ x ∈ l, p x = false) : idx p l = -1 := by
  have : l.findIdx? p = none := List.findIdx?_eq_none_iff.2 h
  simp [idx, this]
theorem idx_some {α : Type} {p : α → Bool} {l : List α} {i : Nat} (hi : i < l.length) (h : ∀ x ∈ l.take i, p x = false) (h2 : p l[i] = true) : idx p l = i := by
  have : l.findIdx? p = some i := by
    rw [List.findIdx?_eq_some_iff_getElem]
    refine ⟨hi, h2, fun j hj => ?_⟩
    have := h l[j] (by rw [List.mem_take_iff_getElem]; exact ⟨j, by omega, rfl⟩)
    simp [this]
  simp [idx, this]
theorem idx_nonneg {α : Type} (p : α → Bool) (l : List α) : decide (0 ≤ idx p l) = l.any p := by
  unfold idx
  cases h : l.findIdx? p with
  | none =>
    have := List.findIdx?_eq_none_iff.1 h
    have h2 : l.any p = false := by rw [List.any_eq_false]; intro x hx; simp [this x hx]
    simp [h2]
  | some i =>
    obtain ⟨hi, h2, _⟩ := List.findIdx?_eq_some_iff_getElem.1 h
    have h3 : l.any p = true := List.any_eq_true.2 ⟨l[i], List.getElem_mem hi, h2⟩
    simp [h3]

theorem f103 {l : List Write} {f : FuncId} {p : Write → Bool} (hl : l.length ≤ 1000000000) (hpm : G.pm f = [.ro]) (hf : ∀ w ∈ l, Fun G f [.vs true (oW w)] (.bool (p w), [])) :
    Fun G 103 [.one (.d (.sl (l.map eW))), .fn f []] (.int .i64 (idx p l), []) := by
  refine Fun.of_run (g := g103) (pf := pf103) rfl rfl rfl rfl ?_
  simp (disch := first | assumption | ((try simp only [LEN, LEN2]); omega)) only [push_cast, Int.reduceToNat, Int.reduceEq, Int.reduceNe, Int.reduceLT, Int.reduceLE, Int.reduceAdd, Int.reduceSub, Int.reduceMul, Int.reduceNeg, Nat.reduceEqDiff, Nat.reduceBEq, Nat.reduceBNe, Nat.reduceAdd, Nat.reduceLeDiff, Nat.reduceLT, Nat.reduceMul, ↓reduceIte, reduceCtorEq, g103, pf103, b103]
  refine run_loop' (fun i : Nat => [(0, T.one (.d (.sl (l.map eW)))), (1, T.fn f []), (7, T.int .i64 l.length), (8, T.int .i64 i)]) (fun i => i ≤ l.length ∧ ∀ x ∈ l.take i, p x = false) (fun i => l.length - i) 0 rfl ⟨Nat.zero_le _, by simp⟩ (fun i hi => ?_)
  obtain ⟨hi, ht⟩ := hi
  simp (disch := first | assumption | ((try simp only [LEN, LEN2]); omega)) only [push_cast, Int.reduceToNat, Int.reduceEq, Int.reduceNe, Int.reduceLT, Int.reduceLE, Int.reduceAdd, Int.reduceSub, Int.reduceMul, Int.reduceNeg, Nat.reduceEqDiff, Nat.reduceBEq, Nat.reduceBNe, Nat.reduceAdd, Nat.reduceLeDiff, Nat.reduceLT, Nat.reduceMul, ↓reduceIte, reduceCtorEq, g103, pf103, b103]
  refine If.dec (fun h => ?_) (fun h => ?_)
  · replace h : i < l.length := by omega
    have h2 := hf l[i] (List.getElem_mem h)
    simp only [oW] at h2
    simp (disch := first | assumption | ((try simp only [LEN, LEN2]); omega)) only [push_cast, Int.reduceToNat, Int.reduceEq, Int.reduceNe, Int.reduceLT, Int.reduceLE, Int.reduceAdd, Int.reduceSub, Int.reduceMul, Int.reduceNeg, Nat.reduceEqDiff, Nat.reduceBEq, Nat.reduceBNe, Nat.reduceAdd, Nat.reduceLeDiff, Nat.reduceLT, Nat.reduceMul, ↓reduceIte, reduceCtorEq, g103, pf103, b103, hpm, eW, callT_eq h2]
    by_cases hp : p l[i] = true
    · simp (disch := first | assumption | ((try simp only [LEN, LEN2]); omega)) only [push_cast, Int.reduceToNat, Int.reduceEq, Int.reduceNe, Int.reduceLT, Int.reduceLE, Int.reduceAdd, Int.reduceSub, Int.reduceMul, Int.reduceNeg, Nat.reduceEqDiff, Nat.reduceBEq, Nat.reduceBNe, Nat.reduceAdd, Nat.reduceLeDiff, Nat.reduceLT, Nat.reduceMul, ↓reduceIte, reduceCtorEq, g103, pf103, b103, hp]
      rw [idx_some h ht hp]
    · rw [Bool.not_eq_true] at hp
      simp (disch := first | assumption | ((try simp only [LEN, LEN2]); omega)) only [push_cast, Int.reduceToNat, Int.reduceEq, Int.reduceNe, Int.reduceLT, Int.reduceLE, Int.reduceAdd, Int.reduceSub, Int.reduceMul, Int.reduceNeg, Nat.reduceEqDiff, Nat.reduceBEq, Nat.reduceBNe, Nat.reduceAdd, Nat.reduceLeDiff, Nat.reduceLT, Nat.reduceMul, ↓reduceIte, reduceCtorEq, g103, pf103, b103, hp]
      refine ⟨i + 1, rfl, ⟨by omega, fun x hx => ?_⟩, by omega⟩
      rw [List.take_succ_eq_append_getElem h, List.mem_append, List.mem_singleton] at hx
      rcases hx with hx | rfl
      · exact ht x hx
      · exact hp
  · obtain rfl : i = l.length := by omega
    simp (disch := first | assumption | ((try simp only [LEN, LEN2]); omega)) only [push_cast, Int.reduceToNat, Int.reduceEq, Int.reduceNe, Int.reduceLT, Int.reduceLE, Int.reduceAdd, Int.reduceSub, Int.reduceMul, Int.reduceNeg, Nat.reduceEqDiff, Nat.reduceBEq, Nat.reduceBNe, Nat.reduceAdd, Nat.reduceLeDiff, Nat.reduceLT, Nat.reduceMul, ↓reduceIte, reduceCtorEq, g103, pf103, b103]
    rw [idx_none (fun x hx => ht x (by rw [List.take_length]; exact hx))]

theorem f80 {l : List Write} {f : FuncId} {p : Write → Bool} (hl : l.length ≤ 1000000000) (hpm : G.pm f = [.ro]) (hf : ∀ w ∈ l, Fun G f [.vs true (oW w)] (.bool (p w), [])) :
    Fun G 80 [.one (.d (.sl (l.map eW))), .fn f []] (.bool (l.any p), []) := by
  refine Fun.of_run (g := g80) (pf := pf80) rfl rfl rfl rfl ?_
  simp (disch := first | assumption | ((try simp only [LEN, LEN2]); omega)) only [push_cast, Int.reduceToNat, Int.reduceEq, Int.reduceNe, Int.reduceLT, Int.reduceLE, Int.reduceAdd, Int.reduceSub, Int.reduceMul, Int.reduceNeg, Nat.reduceEqDiff, Nat.reduceBEq, Nat.reduceBNe, Nat.reduceAdd, Nat.reduceLeDiff, Nat.reduceLT, Nat.reduceMul, ↓reduceIte, reduceCtorEq, g80, pf80, b80, callC_eq (f103 hl hpm hf)]
  rw [← idx_nonneg]

set_option maxHeartbeats 2000000 in
theorem f46 {n : Int} {l : List Write} (hl : l.length ≤ 1000000000) : Fun G 46 [.vs true [.d (.sc (.int .i64 n)), .d (.sl (l.map eW))]] (.bool (okR ⟨n, l⟩), []) := by
  refine Fun.of_run (g := g46) (pf := pf46) rfl rfl rfl rfl ?_
  have h := f80 (l := l) (f := 81) (p := fun w => !okW w) hl rfl (fun w _ => f81)
  by_cases h1 : 1 ≤ n
  · by_cases h2 : n ≤ 1073741824
    · by_cases h3 : (l.length : Int) ≤ 64
      · simp (disch := first | assumption | ((try simp only [LEN, LEN2]); omega)) only [push_cast, Int.reduceToNat, Int.reduceEq, Int.reduceNe, Int.reduceLT, Int.reduceLE, Int.reduceAdd, Int.reduceSub, Int.reduceMul, Int.reduceNeg, Nat.reduceEqDiff, Nat.reduceBEq, Nat.reduceBNe, Nat.reduceAdd, Nat.reduceLeDiff, Nat.reduceLT, Nat.reduceMul, ↓reduceIte, reduceCtorEq, g46, pf46, b46, h1, h2, h3, callC_eq h]
        simp only [okR]
        have : l.length ≤ 64 := by omega
        simp [h1, h2, this, List.not_any_eq_all_not]
      · simp (disch := first | assumption | ((try simp only [LEN, LEN2]); omega)) only [push_cast, Int.reduceToNat, Int.reduceEq, Int.reduceNe, Int.reduceLT, Int.reduceLE, Int.reduceAdd, Int.reduceSub, Int.reduceMul, Int.reduceNeg, Nat.reduceEqDiff, Nat.reduceBEq, Nat.reduceBNe, Nat.reduceAdd, Nat.reduceLeDiff, Nat.reduceLT, Nat.reduceMul, ↓reduceIte, reduceCtorEq, g46, pf46, b46, h1, h2, h3]
        simp [okR, show ¬ l.length ≤ 64 by omega]
    · simp (disch := first | assumption | ((try simp only [LEN, LEN2]); omega)) only [push_cast, Int.reduceToNat, Int.reduceEq, Int.reduceNe, Int.reduceLT, Int.reduceLE, Int.reduceAdd, Int.reduceSub, Int.reduceMul, Int.reduceNeg, Nat.reduceEqDiff, Nat.reduceBEq, Nat.reduceBNe, Nat.reduceAdd, Nat.reduceLeDiff, Nat.reduceLT, Nat.reduceMul, ↓reduceIte, reduceCtorEq, g46, pf46, b46, h1, h2]
      simp [okR, h2]
  · simp (disch := first | assumption | ((try simp only [LEN, LEN2]); omega)) only [push_cast, Int.reduceToNat, Int.reduceEq, Int.reduceNe, Int.reduceLT, Int.reduceLE, Int.reduceAdd, Int.reduceSub, Int.reduceMul, Int.reduceNeg, Nat.reduceEqDiff, Nat.reduceBEq, Nat.reduceBNe, Nat.reduceAdd, Nat.reduceLeDiff, Nat.reduceLT, Nat.reduceMul, ↓reduceIte, reduceCtorEq, g46, pf46, b46, h1]
    simp [okR, h1]
theorem f46c {n : Int} {l : List Write} (hl : l.length ≤ 1000000000) {g : VG} {F : Fn} {lk : Bool} {e : Env} {dst : Option Nat} {ops : List Ins} {keep : Option (List Nat)} {K : List Fr} : CallC G g F 46 [.vs true [.d (.sc (.int .i64 n)), .d (.sl (l.map eW))]] lk e dst ops keep K = ThenL G g F (if lk && !(T.noSl (.bool (okR ⟨n, l⟩))) then none else e.put g.un dst (.bool (okR ⟨n, l⟩))) ops keep K := callC_eq (f46 hl)
attribute [push_cast] f46c


end Go.Mir.Try

/- Walks: a record's bytes. -/
set_option linter.unusedVariables false
set_option linter.unusedSimpArgs false
set_option maxRecDepth 100000
namespace Go.Mir.Try
open Go.Proofs Go.Mir.Q

/-- A write's bytes. -/
def wr (w : Write) : List UInt8 := be 1 w.Table ++ be 1 (if w.Gone then 1 else 0) ++ be 1 w.Key.length ++ w.Key ++ be 1 w.Value.length ++ w.Value
def wrs (l : List Write) : List UInt8 := l.flatMap wr
def spelt (r : Record) : List UInt8 := be 4 r.Commit ++ be 4 r.Writes.length ++ wrs r.Writes
theorem wrs_snoc (l : List Write) (w : Write) : wrs (l ++ [w]) = wrs l ++ wr w := by simp [wrs]
theorem wrs_len (l : List Write) (h : ∀ w ∈ l, w.Key.length ≤ 1048576 ∧ w.Value.length ≤ 1048576) : (wrs l).length ≤ l.length * 2097156 := by
  induction l with
  | nil => simp [wrs]
  | cons w l ih =>
    have h1 := h w (by simp)
    have h2 := ih fun x hx => h x (List.mem_cons_of_mem _ hx)
    have : (wrs (w :: l)).length = (wr w).length + (wrs l).length := by simp [wrs]
    have h3 : (wr w).length = 4 + w.Key.length + w.Value.length := by simp [wr, be_length]; omega
    rw [this, List.length_cons]
    omega


set_option maxHeartbeats 2000000 in
theorem f47 {n : Int} {l : List Write} (hs : smW l) (h64 : l.length ≤ 64) : Fun G 47 [.vs true [.d (.sc (.int .i64 n)), .d (.sl (l.map eW))]] (.str (bs (spelt ⟨n, l⟩)), []) := by
  refine Fun.of_run (g := g47) (pf := pf47) rfl rfl rfl rfl ?_
  obtain ⟨hl, hs⟩ := hs
  have f0 := @f83t [] n (by simp)
  simp only [List.map_nil] at f0
  simp (disch := first | assumption | ((try simp only [LEN, LEN2]); omega)) only [push_cast, Int.reduceToNat, Int.reduceEq, Int.reduceNe, Int.reduceLT, Int.reduceLE, Int.reduceAdd, Int.reduceSub, Int.reduceMul, Int.reduceNeg, Nat.reduceEqDiff, Nat.reduceBEq, Nat.reduceBNe, Nat.reduceAdd, Nat.reduceLeDiff, Nat.reduceLT, Nat.reduceMul, ↓reduceIte, reduceCtorEq, g47, pf47, b47, f0]
  refine run_loop' (fun i : Nat => [(1, T.one (.box [.d (.sc (.int .i64 n)), .d (.sl (l.map eW))])), (3, T.one (.own 5 ((be 4 n ++ be 4 l.length ++ wrs (l.take i)).map oB))), (13, .at_ 1 0 [(0, 1)]), (14, T.one (.d (.sl (l.map eW)))), (15, T.int .i64 l.length), (16, T.int .i64 i)]) (fun i => i ≤ l.length) (fun i => l.length - i) 0 ?_ (Nat.zero_le _) (fun i hi => ?_)
  · simp [wrs]
  have hw := wrs_len (l.take i) fun w hw => hs w (List.mem_of_mem_take hw)
  rw [List.length_take] at hw
  simp (disch := first | assumption | ((try simp only [LEN, LEN2]); omega)) only [push_cast, Int.reduceToNat, Int.reduceEq, Int.reduceNe, Int.reduceLT, Int.reduceLE, Int.reduceAdd, Int.reduceSub, Int.reduceMul, Int.reduceNeg, Nat.reduceEqDiff, Nat.reduceBEq, Nat.reduceBNe, Nat.reduceAdd, Nat.reduceLeDiff, Nat.reduceLT, Nat.reduceMul, ↓reduceIte, reduceCtorEq, g47, pf47, b47]
  refine If.dec (fun h => ?_) (fun h => ?_)
  · replace h : i < l.length := by omega
    have hk := hs l[i] (List.getElem_mem h)
    simp (disch := first | assumption | ((try simp only [LEN, LEN2]); omega)) only [push_cast, Int.reduceToNat, Int.reduceEq, Int.reduceNe, Int.reduceLT, Int.reduceLE, Int.reduceAdd, Int.reduceSub, Int.reduceMul, Int.reduceNeg, Nat.reduceEqDiff, Nat.reduceBEq, Nat.reduceBNe, Nat.reduceAdd, Nat.reduceLeDiff, Nat.reduceLT, Nat.reduceMul, ↓reduceIte, reduceCtorEq, g47, pf47, b47, eW]
    refine ⟨i + 1, ?_, by omega, by omega⟩
    rw [List.take_succ_eq_append_getElem h, wrs_snoc]
    have e1 : ∀ n : Int, be 1 n = [byt n] := fun n => by simp [be]
    have e2 : ∀ b : Bool, (if b then (1 : Int) else 0) % 256 = if b then 1 else 0 := fun b => by cases b <;> rfl
    simp [wr, e1, oB_byt, e2, List.map_append]
  · obtain rfl : i = l.length := by omega
    simp (disch := first | assumption | ((try simp only [LEN, LEN2]); omega)) only [push_cast, Int.reduceToNat, Int.reduceEq, Int.reduceNe, Int.reduceLT, Int.reduceLE, Int.reduceAdd, Int.reduceSub, Int.reduceMul, Int.reduceNeg, Nat.reduceEqDiff, Nat.reduceBEq, Nat.reduceBNe, Nat.reduceAdd, Nat.reduceLeDiff, Nat.reduceLT, Nat.reduceMul, ↓reduceIte, reduceCtorEq, g47, pf47, b47]
    simp [spelt]
theorem f47c {n : Int} {l : List Write} (hs : smW l) (h64 : l.length ≤ 64) {g : VG} {F : Fn} {lk : Bool} {e : Env} {dst : Option Nat} {ops : List Ins} {keep : Option (List Nat)} {K : List Fr} : CallC G g F 47 [.vs true [.d (.sc (.int .i64 n)), .d (.sl (l.map eW))]] lk e dst ops keep K = ThenL G g F (if lk && !(T.noSl (.str (bs (spelt ⟨n, l⟩)))) then none else e.put g.un dst (.str (bs (spelt ⟨n, l⟩)))) ops keep K := callC_eq (f47 hs h64)
attribute [push_cast] f47c

set_option maxHeartbeats 2000000 in
theorem f14 {n : Int} {l : List Write} (hs : smW l) : Fun G 14 [.vs true [.d (.sc (.int .i64 n)), .d (.sl (l.map eW))]] (.tup [(false, [.d (.sc (.string (bs (if okR ⟨n, l⟩ then spelt ⟨n, l⟩ else []))))]), (false, [.d (.sc (.int .i64 (if okR ⟨n, l⟩ then 0 else 1)))])], []) := by
  refine Fun.of_run (g := g14) (pf := pf14) rfl rfl rfl rfl ?_
  have hl := hs.1
  by_cases hr : okR ⟨n, l⟩ = true
  · have h64 : l.length ≤ 64 := by simp [okR] at hr; omega
    simp (disch := first | assumption | ((try simp only [LEN, LEN2]); omega)) only [push_cast, Int.reduceToNat, Int.reduceEq, Int.reduceNe, Int.reduceLT, Int.reduceLE, Int.reduceAdd, Int.reduceSub, Int.reduceMul, Int.reduceNeg, Nat.reduceEqDiff, Nat.reduceBEq, Nat.reduceBNe, Nat.reduceAdd, Nat.reduceLeDiff, Nat.reduceLT, Nat.reduceMul, ↓reduceIte, reduceCtorEq, g14, pf14, b14, hr]
  · rw [Bool.not_eq_true] at hr
    simp (disch := first | assumption | ((try simp only [LEN, LEN2]); omega)) only [push_cast, Int.reduceToNat, Int.reduceEq, Int.reduceNe, Int.reduceLT, Int.reduceLE, Int.reduceAdd, Int.reduceSub, Int.reduceMul, Int.reduceNeg, Nat.reduceEqDiff, Nat.reduceBEq, Nat.reduceBNe, Nat.reduceAdd, Nat.reduceLeDiff, Nat.reduceLT, Nat.reduceMul, ↓reduceIte, reduceCtorEq, g14, pf14, b14, hr]
theorem f14c {n : Int} {l : List Write} (hs : smW l) {g : VG} {F : Fn} {lk : Bool} {e : Env} {dst : Option Nat} {ops : List Ins} {keep : Option (List Nat)} {K : List Fr} : CallC G g F 14 [.vs true [.d (.sc (.int .i64 n)), .d (.sl (l.map eW))]] lk e dst ops keep K = ThenL G g F (if lk && !(T.noSl (.tup [(false, [.d (.sc (.string (bs (if okR ⟨n, l⟩ then spelt ⟨n, l⟩ else []))))]), (false, [.d (.sc (.int .i64 (if okR ⟨n, l⟩ then 0 else 1)))])])) then none else e.put g.un dst (.tup [(false, [.d (.sc (.string (bs (if okR ⟨n, l⟩ then spelt ⟨n, l⟩ else []))))]), (false, [.d (.sc (.int .i64 (if okR ⟨n, l⟩ then 0 else 1)))])])) ops keep K := callC_eq (f14 hs)
attribute [push_cast] f14c


end Go.Mir.Try

/- Walks: reading bytes. -/
set_option linter.unusedVariables false
set_option linter.unusedSimpArgs false
set_option maxRecDepth 100000
namespace Go.Mir.Try
open Go.Proofs Go.Mir.Q

abbrev Rdr := List UInt8 × Bool
abbrev bR (r : Rdr) : V := .box [.d (.sc (.string (bs r.1))), .d (.sc (.bool r.2))]
def tk (n : Nat) (r : Rdr) : List UInt8 × Rdr := if r.2 = true ∨ r.1.length < n then ([], (r.1, true)) else (r.1.take n, (r.1.drop n, false))

set_option maxHeartbeats 2000000 in
theorem f87 {s : List UInt8} {b : Bool} {n : Int} (h0 : 0 ≤ n) (hs : s.length ≤ 1000000000) : Fun G 87 [.one (.box [.d (.sc (.string (bs s))), .d (.sc (.bool b))]), .int .i64 n] (.str (bs (tk n.toNat (s, b)).1), [bR (tk n.toNat (s, b)).2]) := by
  refine Fun.of_run (g := g87) (pf := pf87) rfl rfl rfl rfl ?_
  cases b with
  | true =>
    simp (disch := first | assumption | ((try simp only [LEN, LEN2]); omega)) only [push_cast, Int.reduceToNat, Int.reduceEq, Int.reduceNe, Int.reduceLT, Int.reduceLE, Int.reduceAdd, Int.reduceSub, Int.reduceMul, Int.reduceNeg, Nat.reduceEqDiff, Nat.reduceBEq, Nat.reduceBNe, Nat.reduceAdd, Nat.reduceLeDiff, Nat.reduceLT, Nat.reduceMul, ↓reduceIte, reduceCtorEq, g87, pf87, b87]
    simp [tk]
  | false =>
    by_cases h : (s.length : Int) < n
    · simp (disch := first | assumption | ((try simp only [LEN, LEN2]); omega)) only [push_cast, Int.reduceToNat, Int.reduceEq, Int.reduceNe, Int.reduceLT, Int.reduceLE, Int.reduceAdd, Int.reduceSub, Int.reduceMul, Int.reduceNeg, Nat.reduceEqDiff, Nat.reduceBEq, Nat.reduceBNe, Nat.reduceAdd, Nat.reduceLeDiff, Nat.reduceLT, Nat.reduceMul, ↓reduceIte, reduceCtorEq, g87, pf87, b87, h]
      have : s.length < n.toNat := by omega
      simp [tk, this]
    · simp (disch := first | assumption | ((try simp only [LEN, LEN2]); omega)) only [push_cast, Int.reduceToNat, Int.reduceEq, Int.reduceNe, Int.reduceLT, Int.reduceLE, Int.reduceAdd, Int.reduceSub, Int.reduceMul, Int.reduceNeg, Nat.reduceEqDiff, Nat.reduceBEq, Nat.reduceBNe, Nat.reduceAdd, Nat.reduceLeDiff, Nat.reduceLT, Nat.reduceMul, ↓reduceIte, reduceCtorEq, g87, pf87, b87, h]
      have : ¬ s.length < n.toNat := by omega
      simp [tk, this]
theorem f87t {s : List UInt8} {b : Bool} {n : Int} (h0 : 0 ≤ n) (hs : s.length ≤ 1000000000) {g : VG} {F : Fn} {lk : Bool} {ags : List Arg} {e0 e1 : Env} {dst : Option Nat} {ops : List Ins} {keep : Option (List Nat)} {K : List Fr} : CallT G g F 87 [.one (.box [.d (.sc (.string (bs s))), .d (.sc (.bool b))]), .int .i64 n] lk ags e0 e1 dst ops keep K = RetT G g F (.str (bs (tk n.toNat (s, b)).1)) [bR (tk n.toNat (s, b)).2] lk ags e0 e1 dst ops keep K := callT_eq (f87 h0 hs)
attribute [push_cast] f87t

theorem tk_len (n : Nat) (r : Rdr) : (tk n r).1.length ≤ n ∧ (tk n r).2.1.length ≤ r.1.length := by
  unfold tk; split <;> simp <;> omega

set_option maxHeartbeats 2000000 in
theorem f51 {s : List UInt8} {b : Bool} {n : Int} (h0 : 0 ≤ n) (h6 : n ≤ 6) (hs : s.length ≤ 1000000000) : Fun G 51 [.one (.box [.d (.sc (.string (bs s))), .d (.sc (.bool b))]), .int .i64 n] (.int .i64 (num (tk n.toNat (s, b)).1), [bR (tk n.toNat (s, b)).2]) := by
  refine Fun.of_run (g := g51) (pf := pf51) rfl rfl rfl rfl ?_
  simp (disch := first | assumption | ((try simp only [LEN, LEN2]); omega)) only [push_cast, Int.reduceToNat, Int.reduceEq, Int.reduceNe, Int.reduceLT, Int.reduceLE, Int.reduceAdd, Int.reduceSub, Int.reduceMul, Int.reduceNeg, Nat.reduceEqDiff, Nat.reduceBEq, Nat.reduceBNe, Nat.reduceAdd, Nat.reduceLeDiff, Nat.reduceLT, Nat.reduceMul, ↓reduceIte, reduceCtorEq, g51, pf51, b51]
  obtain ⟨t, ht⟩ : ∃ t, t = (tk n.toNat (s, b)).1 := ⟨_, rfl⟩
  have hl : t.length ≤ 6 := by have := (tk_len n.toNat (s, b)).1; rw [← ht] at this; omega
  rw [← ht]
  refine run_loop' (fun i : Nat => [(0, T.one (bR (tk n.toNat (s, b)).2)), (5, T.int .i64 (num (t.take i))), (11, T.one (.row (t.map oB))), (12, T.int .i64 t.length), (13, T.int .i64 i)]) (fun i => i ≤ t.length) (fun i => t.length - i) 0 rfl (Nat.zero_le _) (fun i hi => ?_)
  have hb := num_bd6 (t.take i) (by simp; omega)
  simp (disch := first | assumption | ((try simp only [LEN, LEN2]); omega)) only [push_cast, Int.reduceToNat, Int.reduceEq, Int.reduceNe, Int.reduceLT, Int.reduceLE, Int.reduceAdd, Int.reduceSub, Int.reduceMul, Int.reduceNeg, Nat.reduceEqDiff, Nat.reduceBEq, Nat.reduceBNe, Nat.reduceAdd, Nat.reduceLeDiff, Nat.reduceLT, Nat.reduceMul, ↓reduceIte, reduceCtorEq, g51, pf51, b51]
  refine If.dec (fun h => ?_) (fun h => ?_)
  · replace h : i < t.length := by omega
    have e := or_byte (a := num (t.take i)) (b := t[i].toNat) hb.1 (by omega) (by omega) (by have := t[i].toNat_lt; omega)
    simp (disch := first | assumption | ((try simp only [LEN, LEN2]); omega)) only [push_cast, Int.reduceToNat, Int.reduceEq, Int.reduceNe, Int.reduceLT, Int.reduceLE, Int.reduceAdd, Int.reduceSub, Int.reduceMul, Int.reduceNeg, Nat.reduceEqDiff, Nat.reduceBEq, Nat.reduceBNe, Nat.reduceAdd, Nat.reduceLeDiff, Nat.reduceLT, Nat.reduceMul, ↓reduceIte, reduceCtorEq, g51, pf51, b51, oB, e]
    refine ⟨i + 1, ?_, by omega, by omega⟩
    rw [List.take_succ_eq_append_getElem h, num_snoc]; rfl
  · obtain rfl : i = t.length := by omega
    simp (disch := first | assumption | ((try simp only [LEN, LEN2]); omega)) only [push_cast, Int.reduceToNat, Int.reduceEq, Int.reduceNe, Int.reduceLT, Int.reduceLE, Int.reduceAdd, Int.reduceSub, Int.reduceMul, Int.reduceNeg, Nat.reduceEqDiff, Nat.reduceBEq, Nat.reduceBNe, Nat.reduceAdd, Nat.reduceLeDiff, Nat.reduceLT, Nat.reduceMul, ↓reduceIte, reduceCtorEq, g51, pf51, b51]
    simp
theorem f51t {s : List UInt8} {b : Bool} {n : Int} (h0 : 0 ≤ n) (h6 : n ≤ 6) (hs : s.length ≤ 1000000000) {g : VG} {F : Fn} {lk : Bool} {ags : List Arg} {e0 e1 : Env} {dst : Option Nat} {ops : List Ins} {keep : Option (List Nat)} {K : List Fr} : CallT G g F 51 [.one (.box [.d (.sc (.string (bs s))), .d (.sc (.bool b))]), .int .i64 n] lk ags e0 e1 dst ops keep K = RetT G g F (.int .i64 (num (tk n.toNat (s, b)).1)) [bR (tk n.toNat (s, b)).2] lk ags e0 e1 dst ops keep K := callT_eq (f51 h0 h6 hs)
attribute [push_cast] f51t

theorem num_one (n : Nat) (hn : n ≤ 1) (r : Rdr) : 0 ≤ num (tk n r).1 ∧ num (tk n r).1 < 256 := by
  have h := (tk_len n r).1
  match hx : (tk n r).1 with
  | [] => simp [num]
  | [b] => have := b.toNat_lt; simp [num]; omega
  | _ :: _ :: _ => rw [hx] at h; simp at h; omega

/-- A write, read. -/
def rdK (r : Rdr) : List UInt8 × Rdr := let l := tk 1 r; tk (num l.1).toNat l.2
def rdG (r : Rdr) : Rdr := let a := tk 1 r; let g := tk 1 a.2; (g.2.1, g.2.2 || decide (1 < num g.1))
def rdW (r : Rdr) : Write × Rdr := (⟨num (tk 1 r).1, (rdK (rdG r)).1, (rdK (rdK (rdG r)).2).1, decide (num (tk 1 (tk 1 r).2).1 = 1)⟩, (rdK (rdK (rdG r)).2).2)

set_option maxHeartbeats 2000000 in
theorem f52 {s : List UInt8} {b : Bool} (hs : s.length ≤ 1000000000) : Fun G 52 [.one (.box [.d (.sc (.string (bs s))), .d (.sc (.bool b))])] (.vs true (cW (rdW (s, b)).1.Table (rdW (s, b)).1.Key (rdW (s, b)).1.Value (rdW (s, b)).1.Gone), [bR (rdW (s, b)).2]) := by
  refine Fun.of_run (g := g52) (pf := pf52) rfl rfl rfl rfl ?_
  obtain ⟨⟨a1, s1, b1⟩, e1⟩ : ∃ x, tk 1 (s, b) = x := ⟨_, rfl⟩
  obtain ⟨⟨a2, s2, b2⟩, e2⟩ : ∃ x, tk 1 (s1, b1) = x := ⟨_, rfl⟩
  obtain ⟨c, ec⟩ : ∃ c, c = (b2 || decide (1 < num a2)) := ⟨_, rfl⟩
  obtain ⟨⟨a3, s3, b3⟩, e3⟩ : ∃ x, tk 1 (s2, c) = x := ⟨_, rfl⟩
  obtain ⟨⟨a4, s4, b4⟩, e4⟩ : ∃ x, tk (num a3).toNat (s3, b3) = x := ⟨_, rfl⟩
  obtain ⟨⟨a5, s5, b5⟩, e5⟩ : ∃ x, tk 1 (s4, b4) = x := ⟨_, rfl⟩
  obtain ⟨⟨a6, s6, b6⟩, e6⟩ : ∃ x, tk (num a5).toNat (s5, b5) = x := ⟨_, rfl⟩
  have hr : rdW (s, b) = (⟨num a1, a4, a6, decide (num a2 = 1)⟩, s6, b6) := by simp only [rdW, rdK, rdG, e1, e2, ← ec, e3, e4, e5, e6]
  have l1 := (tk_len 1 (s, b)).2
  have l2 := (tk_len 1 (s1, b1)).2
  have l3 := (tk_len 1 (s2, c)).2
  have l4 := (tk_len (num a3).toNat (s3, b3)).2
  have l5 := (tk_len 1 (s4, b4)).2
  have n3 := num_one 1 (by omega) (s2, c)
  have n5 := num_one 1 (by omega) (s4, b4)
  rw [e1] at l1; rw [e2] at l2; rw [e3] at l3 n3; rw [e4] at l4; rw [e5] at l5 n5
  simp only at l1 l2 l3 l4 l5 n3 n5
  obtain ⟨n3, n3'⟩ := n3
  obtain ⟨n5, n5'⟩ := n5
  rw [hr]
  cases b2 with
  | true =>
    obtain rfl : c = true := by simpa using ec
    simp (disch := first | assumption | ((try simp only [LEN, LEN2]); omega)) only [push_cast, Int.reduceToNat, Int.reduceEq, Int.reduceNe, Int.reduceLT, Int.reduceLE, Int.reduceAdd, Int.reduceSub, Int.reduceMul, Int.reduceNeg, Nat.reduceEqDiff, Nat.reduceBEq, Nat.reduceBNe, Nat.reduceAdd, Nat.reduceLeDiff, Nat.reduceLT, Nat.reduceMul, ↓reduceIte, reduceCtorEq, g52, pf52, b52, e1, e2, e3, e4, e5, e6]
  | false =>
    rw [Bool.false_or] at ec
    simp (disch := first | assumption | ((try simp only [LEN, LEN2]); omega)) only [push_cast, Int.reduceToNat, Int.reduceEq, Int.reduceNe, Int.reduceLT, Int.reduceLE, Int.reduceAdd, Int.reduceSub, Int.reduceMul, Int.reduceNeg, Nat.reduceEqDiff, Nat.reduceBEq, Nat.reduceBNe, Nat.reduceAdd, Nat.reduceLeDiff, Nat.reduceLT, Nat.reduceMul, ↓reduceIte, reduceCtorEq, g52, pf52, b52, e1, e2, ← ec, e3, e4, e5, e6]
theorem f52t {s : List UInt8} {b : Bool} (hs : s.length ≤ 1000000000) {g : VG} {F : Fn} {lk : Bool} {ags : List Arg} {e0 e1 : Env} {dst : Option Nat} {ops : List Ins} {keep : Option (List Nat)} {K : List Fr} : CallT G g F 52 [.one (.box [.d (.sc (.string (bs s))), .d (.sc (.bool b))])] lk ags e0 e1 dst ops keep K = RetT G g F (.vs true (cW (rdW (s, b)).1.Table (rdW (s, b)).1.Key (rdW (s, b)).1.Value (rdW (s, b)).1.Gone)) [bR (rdW (s, b)).2] lk ags e0 e1 dst ops keep K := callT_eq (f52 hs)
attribute [push_cast] f52t

end Go.Mir.Try

/- Walks: Take. -/
set_option linter.unusedVariables false
set_option linter.unusedSimpArgs false
set_option maxRecDepth 100000
namespace Go.Mir.Try
open Go.Proofs Go.Mir.Q

/-- So many writes, read; behind something bad none. -/
def rdWs : Nat → Rdr → List Write × Rdr
  | 0, r => ([], r)
  | n + 1, r => if r.2 = true then ([], r) else ((rdW r).1 :: (rdWs n (rdW r).2).1, (rdWs n (rdW r).2).2)
/-- The record that bytes are, as the program reads it. -/
def rdRec (s : List UInt8) : Record × Rdr := let c := tk 4 (s, false); let k := tk 4 c.2; let w := rdWs (num k.1).toNat k.2; (⟨num c.1, w.1⟩, w.2)
def take (s : List UInt8) : Option Record := let x := rdRec s; if x.2.2 = true ∨ x.2.1 ≠ [] ∨ okR x.1 = false then none else some x.1

def rc (s : List UInt8) : Record := (take s).getD ⟨0, []⟩
theorem tk_good {n : Nat} {r : Rdr} (h : (tk n r).2.2 = false) : r.2 = false ∧ (tk n r).2.1.length + n = r.1.length := by
  unfold tk at *
  split at h
  · cases h
  · rename_i hn
    rw [if_neg hn]
    rw [not_or, Bool.not_eq_true] at hn
    refine ⟨hn.1, ?_⟩
    simp only [List.length_drop]; omega
theorem rdW_good {r : Rdr} (h : (rdW r).2.2 = false) : r.2 = false ∧ (rdW r).2.1.length + 4 ≤ r.1.length := by
  simp only [rdW, rdK] at *
  have h1 := tk_good h
  have h2 := tk_good h1.1
  have h3 := tk_good h2.1
  have h4 := tk_good h3.1
  have h5 : (tk 1 (tk 1 r).2).2.2 = false := by
    have := h4.1
    simp only [rdG, Bool.or_eq_false_iff] at this
    exact this.1
  have h6 := tk_good h5
  have h7 := tk_good h6.1
  have e : (rdG r).1 = (tk 1 (tk 1 r).2).2.1 := rfl
  rw [e] at h4
  exact ⟨h7.1, by omega⟩
theorem rdW_len (r : Rdr) : (rdW r).2.1.length ≤ r.1.length := by
  simp only [rdW, rdK]
  have h1 := (tk_len (num (tk 1 (tk (num (tk 1 (rdG r)).1).toNat (tk 1 (rdG r)).2).2).1).toNat (tk 1 (tk (num (tk 1 (rdG r)).1).toNat (tk 1 (rdG r)).2).2).2).2
  have h2 := (tk_len 1 (tk (num (tk 1 (rdG r)).1).toNat (tk 1 (rdG r)).2).2).2
  have h3 := (tk_len (num (tk 1 (rdG r)).1).toNat (tk 1 (rdG r)).2).2
  have h4 := (tk_len 1 (rdG r)).2
  have h5 := (tk_len 1 (tk 1 r).2).2
  have h6 := (tk_len 1 r).2
  have e : (rdG r).1 = (tk 1 (tk 1 r).2).2.1 := rfl
  rw [e] at h4
  omega

set_option maxHeartbeats 2000000 in
theorem f21 {s : List UInt8} (hs : s.length ≤ 100000000) : Fun G 21 [.str (bs s)] (.tup [(true, [.d (.sc (.int .i64 (rc s).Commit)), .own 84 ((rc s).Writes.map oW)]), (false, [.d (.sc (.int .i64 (if (take s).isSome then 0 else 10)))])], []) := by
  refine Fun.of_run (g := g21) (pf := pf21) rfl rfl rfl rfl ?_
  obtain ⟨⟨a1, s1, b1⟩, e1⟩ : ∃ x, tk 4 (s, false) = x := ⟨_, rfl⟩
  obtain ⟨⟨a2, s2, b2⟩, e2⟩ : ∃ x, tk 4 (s1, b1) = x := ⟨_, rfl⟩
  have l1 := (tk_len 4 (s, false)).2
  have l2 := (tk_len 4 (s1, b1)).2
  rw [e1] at l1; rw [e2] at l2
  simp only at l1 l2
  obtain ⟨ws, hws⟩ : ∃ x, x = rdWs (num a2).toNat (s2, b2) := ⟨_, rfl⟩
  have hrec : rdRec s = (⟨num a1, ws.1⟩, ws.2) := by simp only [rdRec, e1, e2, ← hws]
  have hn2 : 0 ≤ num a2 ∧ num a2 < 281474976710656 := num_bd6 a2 (by have := (tk_len 4 (s1, b1)).1; rw [e2] at this; simp only at this; omega)
  simp (disch := first | assumption | ((try simp only [LEN, LEN2]); omega)) only [push_cast, Int.reduceToNat, Int.reduceEq, Int.reduceNe, Int.reduceLT, Int.reduceLE, Int.reduceAdd, Int.reduceSub, Int.reduceMul, Int.reduceNeg, Nat.reduceEqDiff, Nat.reduceBEq, Nat.reduceBNe, Nat.reduceAdd, Nat.reduceLeDiff, Nat.reduceLT, Nat.reduceMul, ↓reduceIte, reduceCtorEq, g21, pf21, b21, e1, e2]
  refine run_loop' (fun x : Nat × List Write × Rdr => [(2, T.one (.box [.d (.sc (.int .i64 0)), .own 84 []])), (4, T.one (bR x.2.2)), (5, T.one (.box [.d (.sc (.int .i64 (num a1))), .own 84 (x.2.1.map oW)])), (6, T.int .i64 x.1)])
    (fun x => x.1 < 281474976710656 ∧ (x.2.1 ++ (rdWs x.1 x.2.2).1, (rdWs x.1 x.2.2).2) = ws ∧ x.2.2.1.length ≤ s.length ∧ (x.2.2.2 = false → x.2.1.length + x.2.2.1.length ≤ s.length) ∧ x.2.1.length ≤ s.length + 1)
    (fun x => x.1) ((num a2).toNat, [], (s2, b2)) ?_ ?_ (fun ⟨n, l, s3, b3⟩ hi => ?_)
  · simp only [Int.toNat_of_nonneg hn2.1]; rfl
  · simp only [List.nil_append, hws]; simp; omega
  obtain ⟨hn, hw, hs3, hl, hl2⟩ := hi
  simp only at hn hw hs3 hl hl2
  by_cases hx : 0 < n ∧ b3 = false
  · obtain ⟨m, rfl⟩ : ∃ m, n = m + 1 := ⟨n - 1, by omega⟩
    obtain ⟨h0, rfl⟩ := hx
    have hl := hl rfl
    have h1 : (0 : Int) < (m : Int) + 1 := by omega
    have g1 := @rdW_good (s3, false)
    have g2 := rdW_len (s3, false)
    have e3 : (m : Int) + 1 - 1 = m := by omega
    simp only at g1 g2
    simp (disch := first | assumption | ((try simp only [LEN, LEN2]); omega)) only [push_cast, Int.reduceToNat, Int.reduceEq, Int.reduceNe, Int.reduceLT, Int.reduceLE, Int.reduceAdd, Int.reduceSub, Int.reduceMul, Int.reduceNeg, Nat.reduceEqDiff, Nat.reduceBEq, Nat.reduceBNe, Nat.reduceAdd, Nat.reduceLeDiff, Nat.reduceLT, Nat.reduceMul, ↓reduceIte, reduceCtorEq, g21, pf21, b21, h1, e3]
    refine ⟨(m, l ++ [(rdW (s3, false)).1], (rdW (s3, false)).2), ?_, ⟨by simp only; omega, ?_, by simp only; omega, fun hf => ?_, by simp only [List.length_append, List.length_singleton]; omega⟩, by simp only; omega⟩
    · simp only [List.map_append, List.map_cons, List.map_nil, oW]
    · rw [← hw]; simp [rdWs]
    · have := g1 hf; simp only [List.length_append, List.length_singleton]; omega
  · have hw' : ws = (l, s3, b3) := by
      rw [← hw]
      cases n with
      | zero => simp [rdWs]
      | succ n =>
        have : b3 = true := by
          cases b3 with
          | true => rfl
          | false => exact (hx ⟨by omega, rfl⟩).elim
        subst this; simp [rdWs]
    have hrec' : rdRec s = (⟨num a1, l⟩, s3, b3) := by rw [hrec, hw']
    have ex : (decide (0 < (n : Int)) = false) ∨ (decide (0 < (n : Int)) = true ∧ b3 = true) := by
      by_cases h : 0 < n
      · right
        refine ⟨by simpa using h, ?_⟩
        cases b3 with
        | true => rfl
        | false => exact (hx ⟨h, rfl⟩).elim
      · left; simp; omega
    by_cases hb : b3 = true
    · have ht : take s = none := by simp [take, hrec', hb]
      subst hb
      rcases ex with h | ⟨h, _⟩ <;> simp (disch := first | assumption | ((try simp only [LEN, LEN2]); omega)) only [push_cast, Int.reduceToNat, Int.reduceEq, Int.reduceNe, Int.reduceLT, Int.reduceLE, Int.reduceAdd, Int.reduceSub, Int.reduceMul, Int.reduceNeg, Nat.reduceEqDiff, Nat.reduceBEq, Nat.reduceBNe, Nat.reduceAdd, Nat.reduceLeDiff, Nat.reduceLT, Nat.reduceMul, ↓reduceIte, reduceCtorEq, g21, pf21, b21, h, ht, rc] <;> try rfl
    · rw [Bool.not_eq_true] at hb
      subst hb
      have h : decide (0 < (n : Int)) = false := by rcases ex with h | ⟨_, h⟩; exact h; cases h
      by_cases h3 : s3 = []
      · by_cases hr : okR ⟨num a1, l⟩ = true
        · have ht : take s = some ⟨num a1, l⟩ := by simp [take, hrec', h3, hr]
          simp (disch := first | assumption | ((try simp only [LEN, LEN2]); omega)) only [push_cast, Int.reduceToNat, Int.reduceEq, Int.reduceNe, Int.reduceLT, Int.reduceLE, Int.reduceAdd, Int.reduceSub, Int.reduceMul, Int.reduceNeg, Nat.reduceEqDiff, Nat.reduceBEq, Nat.reduceBNe, Nat.reduceAdd, Nat.reduceLeDiff, Nat.reduceLT, Nat.reduceMul, ↓reduceIte, reduceCtorEq, g21, pf21, b21, h, h3, hr, ht, rc]
          try rfl
        · rw [Bool.not_eq_true] at hr
          have ht : take s = none := by simp [take, hrec', h3, hr]
          simp (disch := first | assumption | ((try simp only [LEN, LEN2]); omega)) only [push_cast, Int.reduceToNat, Int.reduceEq, Int.reduceNe, Int.reduceLT, Int.reduceLE, Int.reduceAdd, Int.reduceSub, Int.reduceMul, Int.reduceNeg, Nat.reduceEqDiff, Nat.reduceBEq, Nat.reduceBNe, Nat.reduceAdd, Nat.reduceLeDiff, Nat.reduceLT, Nat.reduceMul, ↓reduceIte, reduceCtorEq, g21, pf21, b21, h, h3, hr, ht, rc]
          try rfl
      · have ht : take s = none := by simp [take, hrec', h3]
        simp (disch := first | assumption | ((try simp only [LEN, LEN2]); omega)) only [push_cast, Int.reduceToNat, Int.reduceEq, Int.reduceNe, Int.reduceLT, Int.reduceLE, Int.reduceAdd, Int.reduceSub, Int.reduceMul, Int.reduceNeg, Nat.reduceEqDiff, Nat.reduceBEq, Nat.reduceBNe, Nat.reduceAdd, Nat.reduceLeDiff, Nat.reduceLT, Nat.reduceMul, ↓reduceIte, reduceCtorEq, g21, pf21, b21, h, h3, ht, rc]
        try rfl
theorem f21c {s : List UInt8} (hs : s.length ≤ 100000000) {g : VG} {F : Fn} {lk : Bool} {e : Env} {dst : Option Nat} {ops : List Ins} {keep : Option (List Nat)} {K : List Fr} : CallC G g F 21 [.str (bs s)] lk e dst ops keep K = ThenL G g F (if lk && !(T.noSl (.tup [(true, [.d (.sc (.int .i64 (rc s).Commit)), .own 84 ((rc s).Writes.map oW)]), (false, [.d (.sc (.int .i64 (if (take s).isSome then 0 else 10)))])])) then none else e.put g.un dst (.tup [(true, [.d (.sc (.int .i64 (rc s).Commit)), .own 84 ((rc s).Writes.map oW)]), (false, [.d (.sc (.int .i64 (if (take s).isSome then 0 else 10)))])])) ops keep K := callC_eq (f21 hs)
attribute [push_cast] f21c
theorem f21t {s : List UInt8} (hs : s.length ≤ 100000000) {g : VG} {F : Fn} {lk : Bool} {ags : List Arg} {e0 e1 : Env} {dst : Option Nat} {ops : List Ins} {keep : Option (List Nat)} {K : List Fr} : CallT G g F 21 [.str (bs s)] lk ags e0 e1 dst ops keep K = RetT G g F (.tup [(true, [.d (.sc (.int .i64 (rc s).Commit)), .own 84 ((rc s).Writes.map oW)]), (false, [.d (.sc (.int .i64 (if (take s).isSome then 0 else 10)))])]) [] lk ags e0 e1 dst ops keep K := callT_eq (f21 hs)
attribute [push_cast] f21t

end Go.Mir.Try

/- The plain law: what is spelt is taken back. -/
set_option linter.unusedVariables false
set_option linter.unusedSimpArgs false
set_option maxRecDepth 100000
namespace Go.Mir.Try
open Go.Proofs Go.Mir.Q

theorem tk_app {n : Nat} {s t : List UInt8} (h : s.length = n) : tk n (s ++ t, false) = (s, t, false) := by
  subst h
  unfold tk
  rw [if_neg (by simp)]
  simp
theorem num_be1 {n : Int} (h0 : 0 ≤ n) (h1 : n < 256) : num (be 1 n) = n := by
  simp [be, num, byt_toNat]; omega
theorem num_be4 {n : Int} (h0 : 0 ≤ n) (h1 : n < 4294967296) : num (be 4 n) = n := by
  simp only [be4, num, List.foldl_cons, List.foldl_nil, byt_toNat]; omega
theorem tk_be1 {n : Int} {t : List UInt8} : tk 1 (be 1 n ++ t, false) = (be 1 n, t, false) := tk_app (be_length _ _)
theorem tk_be4 {n : Int} {t : List UInt8} : tk 4 (be 4 n ++ t, false) = (be 4 n, t, false) := tk_app (be_length _ _)
theorem rdK_app {s t : List UInt8} (h : s.length < 256) : rdK (be 1 s.length ++ (s ++ t), false) = (s, t, false) := by
  simp only [rdK, tk_be1]
  rw [num_be1 (by omega) (by omega), Int.toNat_natCast, tk_app rfl]
theorem rdW_wr {w : Write} {t : List UInt8} (h : okW w = true) : rdW (wr w ++ t, false) = (w, t, false) := by
  obtain ⟨a, k, v, g⟩ := w
  simp only [okW, decide_eq_true_eq] at h
  have e : wr ⟨a, k, v, g⟩ ++ t = be 1 a ++ (be 1 (if g then 1 else 0) ++ (be 1 k.length ++ (k ++ (be 1 v.length ++ (v ++ t))))) := by simp [wr]
  have eg : num (be 1 (if g then (1 : Int) else 0)) = if g then 1 else 0 := num_be1 (by split <;> omega) (by split <;> omega)
  have e2 : rdG (wr ⟨a, k, v, g⟩ ++ t, false) = (be 1 k.length ++ (k ++ (be 1 v.length ++ (v ++ t))), false) := by
    rw [e]
    simp only [rdG, tk_be1, eg]
    cases g <;> simp
  simp only [rdW, e2]
  rw [rdK_app (by omega), rdK_app (by omega), e]
  simp only [tk_be1, eg]
  rw [num_be1 (by omega) (by omega)]
  cases g <;> rfl
theorem rdWs_wrs : ∀ {l : List Write} {t : List UInt8}, (∀ w ∈ l, okW w = true) → rdWs l.length (wrs l ++ t, false) = (l, t, false)
  | [], t, _ => rfl
  | w :: l, t, h => by
    have e : wrs (w :: l) ++ t = wr w ++ (wrs l ++ t) := by simp [wrs]
    rw [e, List.length_cons, rdWs, if_neg (by simp), rdW_wr (h w (by simp)), rdWs_wrs fun x hx => h x (List.mem_cons_of_mem _ hx)]
theorem take_spelt {r : Record} (h : okR r = true) : take (spelt r) = some r := by
  obtain ⟨c, l⟩ := r
  have h' := h
  simp only [okR, Bool.and_eq_true, decide_eq_true_eq, List.all_eq_true] at h'
  have e : rdRec (spelt ⟨c, l⟩) = (⟨c, l⟩, [], false) := by
    have e1 : spelt ⟨c, l⟩ = be 4 c ++ (be 4 l.length ++ (wrs l ++ [])) := by simp [spelt]
    rw [e1]
    simp only [rdRec, tk_be4]
    rw [num_be4 (by omega) (by omega), num_be4 (by omega) (by omega), Int.toNat_natCast, rdWs_wrs h'.2]
  simp only [take, e, h]
  simp

theorem okR_len {r : Record} (h : okR r = true) : (spelt r).length ≤ 3000 ∧ 8 ≤ (spelt r).length := by
  simp only [okR, Bool.and_eq_true, decide_eq_true_eq, List.all_eq_true] at h
  have : ∀ l : List Write, (∀ w ∈ l, okW w = true) → (wrs l).length ≤ l.length * 36 := by
    intro l
    induction l with
    | nil => intro _; simp [wrs]
    | cons w l ih =>
      intro hw
      have h1 := hw w (by simp)
      simp only [okW, decide_eq_true_eq] at h1
      have h2 := ih fun x hx => hw x (List.mem_cons_of_mem _ hx)
      have h3 : (wrs (w :: l)).length = (wr w).length + (wrs l).length := by simp [wrs]
      have h4 : (wr w).length = 4 + w.Key.length + w.Value.length := by simp [wr, be_length]; omega
      rw [h3, List.length_cons]; omega
  have h1 := this r.Writes h.2
  have h2 : (spelt r).length = 8 + (wrs r.Writes).length := by simp [spelt, be_length]; omega
  omega
theorem take_ok {s : List UInt8} {r : Record} (h : take s = some r) : okR r = true := by
  simp only [take] at h
  split at h
  · cases h
  · rename_i hn
    simp only [not_or, Bool.not_eq_false] at hn
    cases h
    exact hn.2.2

/-! ### sectors -/
def sec (run n : Int) (i : Nat) (last : Bool) (p : List UInt8) : List UInt8 :=
  be 4 run ++ be 4 n ++ [byt (i / 256), byt i, (if last then 1 else 0), byt p.length] ++ p ++ List.replicate (20 - p.length) 0
def cnt (s : List UInt8) : Nat := (s.length + 19) / 20
def piece (s : List UInt8) (i : Nat) : List UInt8 := (s.drop (20 * i)).take 20
def cutK (run n : Int) (s : List UInt8) (k : Nat) : List (List UInt8) := (List.range k).map fun i => sec run n i (decide (i + 1 = cnt s)) (piece s i)
def cuts (run n : Int) (s : List UInt8) : List (List UInt8) := cutK run n s (cnt s)
theorem cutK_succ (run n : Int) (s : List UInt8) (k : Nat) : cutK run n s (k + 1) = cutK run n s k ++ [sec run n k (decide (k + 1 = cnt s)) (piece s k)] := by
  simp [cutK, List.range_succ]
theorem cuts_len (run n : Int) (s : List UInt8) : (cuts run n s).length = cnt s := by simp [cuts, cutK]
theorem cuts_get {run n : Int} {s : List UInt8} {i : Nat} (h : i < cnt s) : (cuts run n s)[i]? = some (sec run n i (decide (i + 1 = cnt s)) (piece s i)) := by
  simp [cuts, cutK, h]
theorem piece_len (s : List UInt8) (i : Nat) : (piece s i).length ≤ 20 := by simp [piece]; omega
theorem sec_len {run n : Int} {i : Nat} {b : Bool} {p : List UInt8} (h : p.length ≤ 20) : (sec run n i b p).length = 32 := by
  simp [sec, be_length]; omega
theorem cuts_32 {run n : Int} {s : List UInt8} : ∀ x ∈ cuts run n s, x.length = 32 := by
  intro x hx
  simp only [cuts, cutK, List.mem_map] at hx
  obtain ⟨i, _, rfl⟩ := hx
  exact sec_len (piece_len s i)
theorem sec3 {run n : Int} {i : Nat} {b : Bool} {p : List UInt8} : (sec run n i b p)[3]? = some (byt run) := by simp [sec, be4]
theorem sec7 {run n : Int} {i : Nat} {b : Bool} {p : List UInt8} : (sec run n i b p)[7]? = some (byt n) := by simp [sec, be4]
theorem sec9 {run n : Int} {i : Nat} {b : Bool} {p : List UInt8} : (sec run n i b p)[9]? = some (byt i) := by simp [sec, be4]
theorem sec10 {run n : Int} {i : Nat} {b : Bool} {p : List UInt8} : (sec run n i b p)[10]? = some (if b then 1 else 0) := by simp [sec, be4]
theorem sec11 {run n : Int} {i : Nat} {b : Bool} {p : List UInt8} : (sec run n i b p)[11]? = some (byt p.length) := by simp [sec, be4]
theorem sec12 {run n : Int} {i : Nat} {b : Bool} {p : List UInt8} : ((sec run n i b p).drop 12).take p.length = p := by simp [sec, be4]
theorem byt_inj {a b : Int} (h : byt a = byt b) : a % 256 = b % 256 := by rw [← byt_toNat, ← byt_toNat, h]
theorem byt_len {p : List UInt8} (h : p.length ≤ 20) : (byt p.length).toNat = p.length := by
  have := byt_toNat p.length; omega

/-! ### reading sectors -/
def whole (run n : Int) (L : List (List UInt8)) : List (List UInt8) → Nat → List UInt8 → Record × Nat
  | [], _, _ => (⟨0, []⟩, 0)
  | s :: ss, i, b =>
    if s.length ≠ 32 then (⟨0, []⟩, 0) else if 20 < (s[11]?.getD 0).toNat then (⟨0, []⟩, 0) else
    if s[10]?.getD 0 = 0 then whole run n L ss (i + 1) (b ++ (s.drop 12).take (s[11]?.getD 0).toNat) else
    match take (b ++ (s.drop 12).take (s[11]?.getD 0).toNat) with
    | some r => if cuts run n (spelt r) = L.take (i + 1) then (r, i + 1) else (⟨0, []⟩, 0)
    | none => (⟨0, []⟩, 0)
def whole1 (run n : Int) (L : List (List UInt8)) : Record × Nat := whole run n L L 0 []
theorem whole_le (run n : Int) (L : List (List UInt8)) : ∀ (l : List (List UInt8)) (i : Nat) (b : List UInt8), (whole run n L l i b).2 ≤ i + l.length
  | [], i, b => by simp [whole]
  | s :: ss, i, b => by
    unfold whole
    have := whole_le run n L ss (i + 1) (b ++ (s.drop 12).take (s[11]?.getD 0).toNat)
    rw [List.length_cons]
    split
    · simp
    split
    · simp
    split
    · omega
    split
    · split <;> simp
    · simp
theorem whole1_le (run n : Int) (L : List (List UInt8)) : (whole1 run n L).2 ≤ L.length := by
  have := whole_le run n L L 0 []; unfold whole1; omega
theorem whole_sound {run n : Int} {L : List (List UInt8)} {r : Record} {k : Nat} : ∀ {l : List (List UInt8)} {i : Nat} {b : List UInt8}, whole run n L l i b = (r, k) → k ≠ 0 → cuts run n (spelt r) = L.take k ∧ okR r = true
  | [], i, b, h, hk => by simp [whole] at h; omega
  | s :: ss, i, b, h, hk => by
    unfold whole at h
    split at h
    · cases h; exact absurd rfl hk
    split at h
    · cases h; exact absurd rfl hk
    split at h
    · exact whole_sound h hk
    split at h
    · rename_i r' ht
      split at h
      · rename_i hc; cases h; exact ⟨hc, take_ok ht⟩
      · cases h; exact absurd rfl hk
    · cases h; exact absurd rfl hk
theorem cnt_pos {r : Record} (h : okR r = true) : 0 < cnt (spelt r) ∧ cnt (spelt r) ≤ 151 := by
  have := okR_len h; unfold cnt; omega
theorem whole1_none {run n : Int} {L : List (List UInt8)} (h : ∀ (s : List UInt8) (k : Nat), 0 < cnt s → k = cnt s → k ≤ L.length → cuts run n s = L.take k → False) : (whole1 run n L).2 = 0 := by
  obtain ⟨⟨r, k⟩, hw⟩ : ∃ x, whole1 run n L = x := ⟨_, rfl⟩
  have hle := whole1_le run n L
  rw [hw] at hle ⊢
  refine Classical.byContradiction fun hk => ?_
  obtain ⟨hc, hr⟩ := whole_sound hw hk
  have h1 := congrArg List.length hc
  simp only at hle
  rw [cuts_len, List.length_take, Nat.min_eq_left hle] at h1
  exact h _ k (cnt_pos hr).1 h1.symm hle hc
theorem whole_cut {run n : Int} {r : Record} {S : List (List UInt8)} (hr : okR r = true) : ∀ (d i : Nat), i + d + 1 = cnt (spelt r) → whole run n (cuts run n (spelt r) ++ S) ((cuts run n (spelt r) ++ S).drop i) i ((spelt r).take (20 * i)) = (r, cnt (spelt r))
  | d, i, hd => by
    obtain ⟨s, hs⟩ : ∃ s, spelt r = s := ⟨_, rfl⟩
    have ht := take_spelt hr
    have ih := fun d' (h : d = d' + 1) => whole_cut (run := run) (n := n) (S := S) hr d' (i + 1) (by omega)
    rw [hs] at hd ht ih ⊢
    have hi : i < cnt s := by omega
    have hil : i < (cuts run n s ++ S).length := by rw [List.length_append, cuts_len]; omega
    have hg : (cuts run n s ++ S)[i] = sec run n i (decide (i + 1 = cnt s)) (piece s i) := by
      have := cuts_get (run := run) (n := n) hi
      rw [← List.getElem?_append_left (l₂ := S) (by rw [cuts_len]; exact hi), List.getElem?_eq_getElem hil] at this
      exact Option.some.inj this
    have hp := piece_len s i
    have hpt : s.take (20 * i) ++ piece s i = s.take (20 * (i + 1)) := by
      rw [piece, show 20 * (i + 1) = 20 * i + 20 by omega, List.take_add]
    rw [List.drop_eq_getElem_cons hil, hg, whole, if_neg (by rw [sec_len hp]; simp), sec11, Option.getD_some, byt_len hp, if_neg (by omega), sec10, Option.getD_some, sec12, hpt]
    by_cases hl : i + 1 = cnt s
    · have e : s.take (20 * (i + 1)) = s := List.take_of_length_le (by unfold cnt at hl; omega)
      simp only [hl, decide_true, if_true]
      rw [if_neg (by decide)]
      rw [hl] at e
      rw [e, ht]
      simp only
      rw [hs, if_pos (by rw [← cuts_len run n s, List.take_left])]
    · rw [decide_eq_false hl]
      simp only [Bool.false_eq_true, if_false, if_true]
      obtain ⟨d', rfl⟩ : ∃ d', d = d' + 1 := ⟨d - 1, by omega⟩
      exact ih d' rfl
theorem whole1_cut {run n : Int} {r : Record} {S : List (List UInt8)} (hr : okR r = true) : whole1 run n (cuts run n (spelt r) ++ S) = (r, cnt (spelt r)) := by
  have := whole_cut (run := run) (n := n) (S := S) hr (cnt (spelt r) - 1) 0 (by have := (cnt_pos hr).1; omega)
  simpa [whole1] using this

/-- Record by record. -/
def runF (run : Int) (L : List (List UInt8)) : Nat → Int → Nat → List Record × Nat
  | 0, _, m => ([], m)
  | j + 1, n, m => if 1073741824 < n then ([], m) else
    let w := whole1 run n (L.drop m)
    if w.2 = 0 then ([], m) else (w.1 :: (runF run L j (n + 1) (m + w.2)).1, (runF run L j (n + 1) (m + w.2)).2)
def rd (run n : Int) (L : List (List UInt8)) : List Record × Nat := runF run L (L.length + 1) n 0
theorem runF_le (run : Int) (L : List (List UInt8)) : ∀ (j : Nat) (n : Int) (m : Nat), m ≤ (runF run L j n m).2
  | 0, n, m => Nat.le_refl _
  | j + 1, n, m => by
    unfold runF
    split
    · simp
    dsimp only
    split
    · simp
    · have := runF_le run L j (n + 1) (m + (whole1 run n (L.drop m)).2); simp only; omega
theorem runF_ub (run : Int) (L : List (List UInt8)) : ∀ (j : Nat) (n : Int) (m : Nat), m ≤ L.length → (runF run L j n m).2 ≤ L.length
  | 0, n, m, h => h
  | j + 1, n, m, h => by
    unfold runF
    split
    · exact h
    dsimp only
    split
    · exact h
    · have hle := whole1_le run n (L.drop m)
      rw [List.length_drop] at hle
      exact runF_ub run L j (n + 1) (m + (whole1 run n (L.drop m)).2) (by omega)
theorem rd_le (run n : Int) (L : List (List UInt8)) : (rd run n L).2 ≤ L.length := runF_ub run L _ n 0 (Nat.zero_le _)
theorem rd_none {run n : Int} {L : List (List UInt8)} (h : (whole1 run n L).2 = 0) : rd run n L = ([], 0) := by
  simp only [rd, runF, List.drop_zero, h]
  simp
theorem rd_cut {run n : Int} {r : Record} {S : List (List UInt8)} (hr : okR r = true) (hn : n ≤ 1073741824) : ∃ x k, rd run n (cuts run n (spelt r) ++ S) = (r :: x, k) ∧ cnt (spelt r) ≤ k := by
  have h0 := (cnt_pos hr).1
  have h1 : rd run n (cuts run n (spelt r) ++ S) = (r :: (runF run (cuts run n (spelt r) ++ S) (cuts run n (spelt r) ++ S).length (n + 1) (0 + cnt (spelt r))).1, (runF run (cuts run n (spelt r) ++ S) (cuts run n (spelt r) ++ S).length (n + 1) (0 + cnt (spelt r))).2) := by
    simp only [rd]
    rw [runF, if_neg (by omega)]
    simp only [List.drop_zero, whole1_cut hr]
    rw [if_neg (by omega)]
  refine ⟨_, _, h1, ?_⟩
  have := runF_le run (cuts run n (spelt r) ++ S) (cuts run n (spelt r) ++ S).length (n + 1) (0 + cnt (spelt r))
  omega

/-! ### none lies there -/
theorem none_run {run run' n n' : Int} {s : List UInt8} (h : run % 256 ≠ run' % 256 ∨ n % 256 ≠ n' % 256) : (whole1 run n (cuts run' n' s)).2 = 0 := by
  refine whole1_none fun t k h0 hk hl he => ?_
  rw [cuts_len] at hl
  have h1 := congrArg (·[0]?) he
  simp only [List.getElem?_take] at h1
  rw [if_pos (by omega), cuts_get h0, cuts_get (by omega)] at h1
  have h2 := Option.some.inj h1
  rcases h with h | h
  · have h3 := congrArg (·[3]?) h2; simp only [sec3] at h3; exact h (byt_inj (Option.some.inj h3))
  · have h3 := congrArg (·[7]?) h2; simp only [sec7] at h3; exact h (byt_inj (Option.some.inj h3))
theorem none_app {run n n' : Int} {s : List UInt8} {S : List (List UInt8)} (h0' : 0 < cnt s) (h : n % 256 ≠ n' % 256) : (whole1 run n (cuts run n' s ++ S)).2 = 0 := by
  refine whole1_none fun t k h0 hk hl he => ?_
  have h1 := congrArg (·[0]?) he
  simp only [List.getElem?_take] at h1
  rw [if_pos (by omega), cuts_get h0, List.getElem?_append_left (by rw [cuts_len]; exact h0'), cuts_get h0'] at h1
  have h2 := Option.some.inj h1
  have h3 := congrArg (·[7]?) h2; simp only [sec7] at h3; exact h (byt_inj (Option.some.inj h3))
theorem none_cut {run n : Int} {s : List UInt8} {k : Nat} (hk : k < cnt s) (h5 : cnt s ≤ 200) : (whole1 run n ((cuts run n s).take k ++ (cuts run n s).drop (k + 1))).2 = 0 := by
  refine whole1_none fun t j h0 hj hl he => ?_
  rw [List.length_append, List.length_take, List.length_drop, cuts_len] at hl
  have h1 := congrArg (·[j - 1]?) he
  simp only [List.getElem?_take] at h1
  rw [if_pos (by omega), cuts_get (by omega), List.getElem?_append] at h1
  rw [List.length_take, cuts_len] at h1
  split at h1
  · rw [List.getElem?_take, if_pos (by omega), cuts_get (by omega)] at h1
    have h2 := congrArg (·[10]?) (Option.some.inj h1)
    simp only [sec10] at h2
    rw [decide_eq_true (by omega), decide_eq_false (by omega)] at h2
    exact absurd h2 (by decide)
  · rw [List.getElem?_drop, cuts_get (by omega)] at h1
    have h2 := congrArg (·[9]?) (Option.some.inj h1)
    simp only [sec9] at h2
    have := byt_inj (Option.some.inj h2)
    omega
end Go.Mir.Try

/- Walks: a record's sectors. -/
set_option linter.unusedVariables false
set_option linter.unusedSimpArgs false
set_option maxRecDepth 100000
namespace Go.Mir.Try
open Go.Proofs Go.Mir.Q

theorem f64 {c : Int} (h0 : 0 ≤ c) (h1 : c ≤ 20) : Fun G 64 [.str (bs [0]), .int .i64 c] (.str (bs (List.replicate c.toNat 0)), []) := by
  refine ⟨1, ?_⟩
  show repGiven.2 _ = _
  simp only [repGiven]
  have hs : (bs [0]).size = 1 := rfl
  refine (if_pos ⟨h0, by rw [hs]; omega, by omega⟩).trans ?_
  have e : ∀ k : Nat, (List.replicate k (bs [0]).data.toList).flatten = List.replicate k 0 := by
    intro k
    induction k with
    | zero => rfl
    | succ k ih => rw [List.replicate_succ, List.flatten_cons, ih, List.replicate_succ]; rfl
  rw [e]

set_option maxHeartbeats 2000000 in
theorem f76 {n : Int}  : Fun G 76 [.int .i64 n] (.bool (decide (0 ≤ n ∧ n ≤ 1073741824)), []) := by
  refine Fun.of_run (g := g76) (pf := pf76) rfl rfl rfl rfl ?_
  by_cases h : 0 ≤ n <;> by_cases h' : n ≤ 1073741824 <;> simp (disch := first | assumption | ((try simp only [LEN, LEN2]); omega)) only [push_cast, Int.reduceToNat, Int.reduceEq, Int.reduceNe, Int.reduceLT, Int.reduceLE, Int.reduceAdd, Int.reduceSub, Int.reduceMul, Int.reduceNeg, Nat.reduceEqDiff, Nat.reduceBEq, Nat.reduceBNe, Nat.reduceAdd, Nat.reduceLeDiff, Nat.reduceLT, Nat.reduceMul, ↓reduceIte, reduceCtorEq, g76, pf76, b76, h, h']
theorem f76c {n : Int}  {g : VG} {F : Fn} {lk : Bool} {e : Env} {dst : Option Nat} {ops : List Ins} {keep : Option (List Nat)} {K : List Fr} : CallC G g F 76 [.int .i64 n] lk e dst ops keep K = ThenL G g F (if lk && !(T.noSl (.bool (decide (0 ≤ n ∧ n ≤ 1073741824)))) then none else e.put g.un dst (.bool (decide (0 ≤ n ∧ n ≤ 1073741824)))) ops keep K := callC_eq (f76 )
attribute [push_cast] f76c

set_option maxHeartbeats 2000000 in
theorem f114 {a b : List (List UInt8)} (ha : a.length ≤ 1000000000) (hb : b.length ≤ 1000000000) : Fun G 114 [.one (.d (.sl (a.map eS))), .one (.d (.sl (b.map eS)))] (.bool (decide (a = b)), []) := by
  refine Fun.of_run (g := g114) (pf := pf114) rfl rfl rfl rfl ?_
  simp (disch := first | assumption | ((try simp only [LEN, LEN2]); omega)) only [push_cast, Int.reduceToNat, Int.reduceEq, Int.reduceNe, Int.reduceLT, Int.reduceLE, Int.reduceAdd, Int.reduceSub, Int.reduceMul, Int.reduceNeg, Nat.reduceEqDiff, Nat.reduceBEq, Nat.reduceBNe, Nat.reduceAdd, Nat.reduceLeDiff, Nat.reduceLT, Nat.reduceMul, ↓reduceIte, reduceCtorEq, g114, pf114, b114]
  refine If.dec (fun h => ?_) (fun h => ?_)
  · have : a ≠ b := fun e => h (by rw [e])
    simp (disch := first | assumption | ((try simp only [LEN, LEN2]); omega)) only [push_cast, Int.reduceToNat, Int.reduceEq, Int.reduceNe, Int.reduceLT, Int.reduceLE, Int.reduceAdd, Int.reduceSub, Int.reduceMul, Int.reduceNeg, Nat.reduceEqDiff, Nat.reduceBEq, Nat.reduceBNe, Nat.reduceAdd, Nat.reduceLeDiff, Nat.reduceLT, Nat.reduceMul, ↓reduceIte, reduceCtorEq, g114, pf114, b114]
    simp [this]
  simp (disch := first | assumption | ((try simp only [LEN, LEN2]); omega)) only [push_cast, Int.reduceToNat, Int.reduceEq, Int.reduceNe, Int.reduceLT, Int.reduceLE, Int.reduceAdd, Int.reduceSub, Int.reduceMul, Int.reduceNeg, Nat.reduceEqDiff, Nat.reduceBEq, Nat.reduceBNe, Nat.reduceAdd, Nat.reduceLeDiff, Nat.reduceLT, Nat.reduceMul, ↓reduceIte, reduceCtorEq, g114, pf114, b114]
  have hl : a.length = b.length := by omega
  refine run_loop' (fun i : Nat => [(0, T.one (.d (.sl (a.map eS)))), (1, T.one (.d (.sl (b.map eS)))), (12, T.int .i64 a.length), (13, T.int .i64 i)]) (fun i => i ≤ a.length ∧ a.take i = b.take i) (fun i => a.length - i) 0 rfl ⟨Nat.zero_le _, by simp⟩ (fun i hi => ?_)
  obtain ⟨hi, ht⟩ := hi
  simp (disch := first | assumption | ((try simp only [LEN, LEN2]); omega)) only [push_cast, Int.reduceToNat, Int.reduceEq, Int.reduceNe, Int.reduceLT, Int.reduceLE, Int.reduceAdd, Int.reduceSub, Int.reduceMul, Int.reduceNeg, Nat.reduceEqDiff, Nat.reduceBEq, Nat.reduceBNe, Nat.reduceAdd, Nat.reduceLeDiff, Nat.reduceLT, Nat.reduceMul, ↓reduceIte, reduceCtorEq, g114, pf114, b114]
  refine If.dec (fun h => ?_) (fun h => ?_)
  · replace h : i < a.length := by omega
    have h' : i < b.length := by omega
    by_cases he : a[i] = b[i]
    · simp (disch := first | assumption | ((try simp only [LEN, LEN2]); omega)) only [push_cast, Int.reduceToNat, Int.reduceEq, Int.reduceNe, Int.reduceLT, Int.reduceLE, Int.reduceAdd, Int.reduceSub, Int.reduceMul, Int.reduceNeg, Nat.reduceEqDiff, Nat.reduceBEq, Nat.reduceBNe, Nat.reduceAdd, Nat.reduceLeDiff, Nat.reduceLT, Nat.reduceMul, ↓reduceIte, reduceCtorEq, g114, pf114, b114, eS, he]
      refine ⟨i + 1, rfl, ⟨by omega, ?_⟩, by omega⟩
      rw [List.take_succ_eq_append_getElem h, List.take_succ_eq_append_getElem h', ht, he]
    · have hne : a ≠ b := fun e => he (by subst e; rfl)
      simp (disch := first | assumption | ((try simp only [LEN, LEN2]); omega)) only [push_cast, Int.reduceToNat, Int.reduceEq, Int.reduceNe, Int.reduceLT, Int.reduceLE, Int.reduceAdd, Int.reduceSub, Int.reduceMul, Int.reduceNeg, Nat.reduceEqDiff, Nat.reduceBEq, Nat.reduceBNe, Nat.reduceAdd, Nat.reduceLeDiff, Nat.reduceLT, Nat.reduceMul, ↓reduceIte, reduceCtorEq, g114, pf114, b114, eS, he]
      simp [hne]
  · obtain rfl : i = a.length := by omega
    have : a = b := by rw [List.take_length] at ht; rw [ht, hl, List.take_length]
    simp (disch := first | assumption | ((try simp only [LEN, LEN2]); omega)) only [push_cast, Int.reduceToNat, Int.reduceEq, Int.reduceNe, Int.reduceLT, Int.reduceLE, Int.reduceAdd, Int.reduceSub, Int.reduceMul, Int.reduceNeg, Nat.reduceEqDiff, Nat.reduceBEq, Nat.reduceBNe, Nat.reduceAdd, Nat.reduceLeDiff, Nat.reduceLT, Nat.reduceMul, ↓reduceIte, reduceCtorEq, g114, pf114, b114]
    simp [this]
theorem f114c {a b : List (List UInt8)} (ha : a.length ≤ 1000000000) (hb : b.length ≤ 1000000000) {g : VG} {F : Fn} {lk : Bool} {e : Env} {dst : Option Nat} {ops : List Ins} {keep : Option (List Nat)} {K : List Fr} : CallC G g F 114 [.one (.d (.sl (a.map eS))), .one (.d (.sl (b.map eS)))] lk e dst ops keep K = ThenL G g F (if lk && !(T.noSl (.bool (decide (a = b)))) then none else e.put g.un dst (.bool (decide (a = b)))) ops keep K := callC_eq (f114 ha hb)
attribute [push_cast] f114c

set_option maxHeartbeats 2000000 in
theorem f42 {a b : List Record} (ha : a.length ≤ 1000000000) (hb : b.length ≤ 1000000000) (ha' : ∀ r ∈ a, r.Writes.length ≤ 1000000000) (hb' : ∀ r ∈ b, r.Writes.length ≤ 1000000000) : Fun G 42 [.one (.d (.sl (a.map eR))), .one (.d (.sl (b.map eR)))] (.bool (decide (a = b)), []) := by
  refine Fun.of_run (g := g42) (pf := pf42) rfl rfl rfl rfl ?_
  simp (disch := first | assumption | ((try simp only [LEN, LEN2]); omega)) only [push_cast, Int.reduceToNat, Int.reduceEq, Int.reduceNe, Int.reduceLT, Int.reduceLE, Int.reduceAdd, Int.reduceSub, Int.reduceMul, Int.reduceNeg, Nat.reduceEqDiff, Nat.reduceBEq, Nat.reduceBNe, Nat.reduceAdd, Nat.reduceLeDiff, Nat.reduceLT, Nat.reduceMul, ↓reduceIte, reduceCtorEq, g42, pf42, b42]
  refine If.dec (fun h => ?_) (fun h => ?_)
  · have : a ≠ b := fun e => h (by rw [e])
    simp (disch := first | assumption | ((try simp only [LEN, LEN2]); omega)) only [push_cast, Int.reduceToNat, Int.reduceEq, Int.reduceNe, Int.reduceLT, Int.reduceLE, Int.reduceAdd, Int.reduceSub, Int.reduceMul, Int.reduceNeg, Nat.reduceEqDiff, Nat.reduceBEq, Nat.reduceBNe, Nat.reduceAdd, Nat.reduceLeDiff, Nat.reduceLT, Nat.reduceMul, ↓reduceIte, reduceCtorEq, g42, pf42, b42]
    simp [this]
  simp (disch := first | assumption | ((try simp only [LEN, LEN2]); omega)) only [push_cast, Int.reduceToNat, Int.reduceEq, Int.reduceNe, Int.reduceLT, Int.reduceLE, Int.reduceAdd, Int.reduceSub, Int.reduceMul, Int.reduceNeg, Nat.reduceEqDiff, Nat.reduceBEq, Nat.reduceBNe, Nat.reduceAdd, Nat.reduceLeDiff, Nat.reduceLT, Nat.reduceMul, ↓reduceIte, reduceCtorEq, g42, pf42, b42]
  have hl : a.length = b.length := by omega
  refine run_loop' (fun i : Nat => [(0, T.one (.d (.sl (a.map eR)))), (1, T.one (.d (.sl (b.map eR)))), (5, T.int .i64 i)]) (fun i => i ≤ a.length ∧ a.take i = b.take i) (fun i => a.length - i) 0 rfl ⟨Nat.zero_le _, by simp⟩ (fun i hi => ?_)
  obtain ⟨hi, ht⟩ := hi
  simp (disch := first | assumption | ((try simp only [LEN, LEN2]); omega)) only [push_cast, Int.reduceToNat, Int.reduceEq, Int.reduceNe, Int.reduceLT, Int.reduceLE, Int.reduceAdd, Int.reduceSub, Int.reduceMul, Int.reduceNeg, Nat.reduceEqDiff, Nat.reduceBEq, Nat.reduceBNe, Nat.reduceAdd, Nat.reduceLeDiff, Nat.reduceLT, Nat.reduceMul, ↓reduceIte, reduceCtorEq, g42, pf42, b42]
  refine If.dec (fun h => ?_) (fun h => ?_)
  · replace h : i < a.length := by omega
    have h' : i < b.length := by omega
    have h1 := ha' a[i] (List.getElem_mem h)
    have h2 := hb' b[i] (List.getElem_mem h')
    by_cases he : a[i].Commit = b[i].Commit ∧ a[i].Writes = b[i].Writes
    · simp (disch := first | assumption | ((try simp only [LEN, LEN2]); omega)) only [push_cast, Int.reduceToNat, Int.reduceEq, Int.reduceNe, Int.reduceLT, Int.reduceLE, Int.reduceAdd, Int.reduceSub, Int.reduceMul, Int.reduceNeg, Nat.reduceEqDiff, Nat.reduceBEq, Nat.reduceBNe, Nat.reduceAdd, Nat.reduceLeDiff, Nat.reduceLT, Nat.reduceMul, ↓reduceIte, reduceCtorEq, g42, pf42, b42, eR, he]
      refine ⟨i + 1, rfl, ⟨by omega, ?_⟩, by omega⟩
      rw [List.take_succ_eq_append_getElem h, List.take_succ_eq_append_getElem h', ht, show a[i] = b[i] by cases hx : a[i]; cases hy : b[i]; rw [hx, hy] at he; simpa using he]
    · have hne : a ≠ b := fun e => he (by subst e; exact ⟨rfl, rfl⟩)
      simp (disch := first | assumption | ((try simp only [LEN, LEN2]); omega)) only [push_cast, Int.reduceToNat, Int.reduceEq, Int.reduceNe, Int.reduceLT, Int.reduceLE, Int.reduceAdd, Int.reduceSub, Int.reduceMul, Int.reduceNeg, Nat.reduceEqDiff, Nat.reduceBEq, Nat.reduceBNe, Nat.reduceAdd, Nat.reduceLeDiff, Nat.reduceLT, Nat.reduceMul, ↓reduceIte, reduceCtorEq, g42, pf42, b42, eR, he]
      simp [hne]
  · obtain rfl : i = a.length := by omega
    have : a = b := by rw [List.take_length] at ht; rw [ht, hl, List.take_length]
    simp (disch := first | assumption | ((try simp only [LEN, LEN2]); omega)) only [push_cast, Int.reduceToNat, Int.reduceEq, Int.reduceNe, Int.reduceLT, Int.reduceLE, Int.reduceAdd, Int.reduceSub, Int.reduceMul, Int.reduceNeg, Nat.reduceEqDiff, Nat.reduceBEq, Nat.reduceBNe, Nat.reduceAdd, Nat.reduceLeDiff, Nat.reduceLT, Nat.reduceMul, ↓reduceIte, reduceCtorEq, g42, pf42, b42]
    simp [this]
theorem f42c {a b : List Record} (ha : a.length ≤ 1000000000) (hb : b.length ≤ 1000000000) (ha' : ∀ r ∈ a, r.Writes.length ≤ 1000000000) (hb' : ∀ r ∈ b, r.Writes.length ≤ 1000000000) {g : VG} {F : Fn} {lk : Bool} {e : Env} {dst : Option Nat} {ops : List Ins} {keep : Option (List Nat)} {K : List Fr} : CallC G g F 42 [.one (.d (.sl (a.map eR))), .one (.d (.sl (b.map eR)))] lk e dst ops keep K = ThenL G g F (if lk && !(T.noSl (.bool (decide (a = b)))) then none else e.put g.un dst (.bool (decide (a = b)))) ops keep K := callC_eq (f42 ha hb ha' hb')
attribute [push_cast] f42c

theorem foldB (x p : List UInt8) (a c d : Int) (b : Bool) : x.map oB ++ [[V.d (.sc (.int .u8 (a % 256)))], [V.d (.sc (.int .u8 (c % 256)))], [V.d (.sc (.int .u8 (if b = true then 1 else 0)))], [V.d (.sc (.int .u8 (d % 256)))]] ++ p.map oB = (x ++ [byt a, byt c, if b then 1 else 0, byt d] ++ p).map oB := by
  cases b <;> simp [oB_byt] <;> rfl
theorem foldS1 (l : List (List UInt8)) (x : List UInt8) : l.map oS ++ [[V.d (.sc (.string (bs x)))]] = (l ++ [x]).map oS := by simp [oS]

set_option maxHeartbeats 2000000 in
theorem f77 {n run num' : Int} {l : List Write} (hs : smW l) (hr : okR ⟨n, l⟩ = true) : Fun G 77 [.vs true [.d (.sc (.int .i64 n)), .d (.sl (l.map eW))], .int .i64 run, .int .i64 num'] (.one (.own 9 ((cuts run num' (spelt ⟨n, l⟩)).map oS)), []) := by
  refine Fun.of_run (g := g77) (pf := pf77) rfl rfl rfl rfl ?_
  have h64 : l.length ≤ 64 := by simp [okR] at hr; omega
  simp (disch := first | assumption | ((try simp only [LEN, LEN2]); omega)) only [push_cast, Int.reduceToNat, Int.reduceEq, Int.reduceNe, Int.reduceLT, Int.reduceLE, Int.reduceAdd, Int.reduceSub, Int.reduceMul, Int.reduceNeg, Nat.reduceEqDiff, Nat.reduceBEq, Nat.reduceBNe, Nat.reduceAdd, Nat.reduceLeDiff, Nat.reduceLT, Nat.reduceMul, ↓reduceIte, reduceCtorEq, g77, pf77, b77]
  obtain ⟨s, hsd⟩ : ∃ s, spelt ⟨n, l⟩ = s := ⟨_, rfl⟩
  obtain ⟨hl1, hl2⟩ := okR_len hr
  obtain ⟨hc1, hc2⟩ := cnt_pos hr
  rw [hsd] at hl1 hl2 hc1 hc2 ⊢
  refine run_loop' (fun i : Nat => [(1, T.int .i64 run), (2, T.int .i64 num'), (6, T.one (.own 9 ((cutK run num' s i).map oS))), (7, T.str (bs (s.drop (20 * i)))), (8, T.int .i64 i)]) (fun i => i ≤ cnt s) (fun i => cnt s - i) 0 rfl (Nat.zero_le _) (fun i hi => ?_)
  have hkl : (cutK run num' s i).length = i := by simp [cutK]
  have hf := @f83t [] run (by simp)
  simp only [List.map_nil] at hf
  by_cases h : i < cnt s
  · have hdr : (s.drop (20 * i)).drop (piece s i).length = s.drop (20 * (i + 1)) := by
      rw [List.drop_drop, piece, List.length_take, List.length_drop]
      by_cases h2 : 20 ≤ s.length - 20 * i
      · rw [Nat.min_eq_left h2]; rfl
      · rw [List.drop_of_length_le (by omega), List.drop_of_length_le (by omega)]
    have hb : decide (((piece s i).length : Int) = (s.drop (20 * i)).length) = decide (i + 1 = cnt s) := by
      apply decide_eq_decide.2
      unfold cnt at *
      simp only [piece, List.length_take, List.length_drop]
      omega
    have hm : (if ((s.drop (20 * i)).length : Int) < 20 then ((s.drop (20 * i)).length : Int) else 20) = (piece s i).length := by
      simp only [piece, List.length_take]
      split <;> omega
    have hp := piece_len s i
    have htk : (s.drop (20 * i)).take (piece s i).length = piece s i := by
      simp only [piece, List.length_take]
      by_cases h2 : 20 ≤ (s.drop (20 * i)).length
      · rw [Nat.min_eq_left h2]
      · rw [Nat.min_eq_right (by omega), List.take_of_length_le (Nat.le_refl _), List.take_of_length_le (by omega)]
    have hpd : (piece s i).length ≤ (s.drop (20 * i)).length := by simp only [piece, List.length_take]; omega
    have hdl : (s.drop (20 * i)).length ≤ 3000 := by rw [List.length_drop]; omega
    have hne : s.drop (20 * i) ≠ [] := by
      intro he
      have := congrArg List.length he
      simp [cnt] at this h
      omega
    have hr64 := @f64 (20 - (piece s i).length) (by omega) (by omega)
    have e20 : (20 - ((piece s i).length : Int)).toNat = 20 - (piece s i).length := by omega
    obtain ⟨d, hd⟩ : ∃ d, s.drop (20 * i) = d := ⟨_, rfl⟩
    obtain ⟨p, hpp⟩ : ∃ p, piece s i = p := ⟨_, rfl⟩
    rw [hd, hpp] at hdr hb hm htk hpd
    rw [hd] at hdl hne ⊢
    rw [hpp] at hp hr64 e20
    simp (disch := first | assumption | ((try simp only [LEN, LEN2]); omega)) only [push_cast, Int.reduceToNat, Int.reduceEq, Int.reduceNe, Int.reduceLT, Int.reduceLE, Int.reduceAdd, Int.reduceSub, Int.reduceMul, Int.reduceNeg, Nat.reduceEqDiff, Nat.reduceBEq, Nat.reduceBNe, Nat.reduceAdd, Nat.reduceLeDiff, Nat.reduceLT, Nat.reduceMul, ↓reduceIte, reduceCtorEq, g77, pf77, b77, hne, hf, hm, hb, htk, foldB]
    simp (disch := first | assumption | ((try simp only [LEN, LEN2]); omega)) only [push_cast, Int.reduceToNat, Int.reduceEq, Int.reduceNe, Int.reduceLT, Int.reduceLE, Int.reduceAdd, Int.reduceSub, Int.reduceMul, Int.reduceNeg, Nat.reduceEqDiff, Nat.reduceBEq, Nat.reduceBNe, Nat.reduceAdd, Nat.reduceLeDiff, Nat.reduceLT, Nat.reduceMul, ↓reduceIte, reduceCtorEq, g77, pf77, b77, callC_eq hr64, foldS1, hdr, e20]
    refine ⟨i + 1, ?_, by omega, by omega⟩
    rw [cutK_succ, hpp]
    simp [sec, hdr]
  · obtain rfl : i = cnt s := by omega
    have hz : s.drop (20 * cnt s) = [] := List.drop_of_length_le (by unfold cnt; omega)
    have hz0 : ((cnt s : Int) = 0) = False := by simp; omega
    simp (disch := first | assumption | ((try simp only [LEN, LEN2]); omega)) only [push_cast, Int.reduceToNat, Int.reduceEq, Int.reduceNe, Int.reduceLT, Int.reduceLE, Int.reduceAdd, Int.reduceSub, Int.reduceMul, Int.reduceNeg, Nat.reduceEqDiff, Nat.reduceBEq, Nat.reduceBNe, Nat.reduceAdd, Nat.reduceLeDiff, Nat.reduceLT, Nat.reduceMul, ↓reduceIte, reduceCtorEq, g77, pf77, b77, hz, hz0]
    rfl
theorem f77c {n run num' : Int} {l : List Write} (hs : smW l) (hr : okR ⟨n, l⟩ = true) {g : VG} {F : Fn} {lk : Bool} {e : Env} {dst : Option Nat} {ops : List Ins} {keep : Option (List Nat)} {K : List Fr} : CallC G g F 77 [.vs true [.d (.sc (.int .i64 n)), .d (.sl (l.map eW))], .int .i64 run, .int .i64 num'] lk e dst ops keep K = ThenL G g F (if lk && !(T.noSl (.one (.own 9 ((cuts run num' (spelt ⟨n, l⟩)).map oS)))) then none else e.put g.un dst (.one (.own 9 ((cuts run num' (spelt ⟨n, l⟩)).map oS)))) ops keep K := callC_eq (f77 hs hr)
attribute [push_cast] f77c

end Go.Mir.Try

/- Walks: sectors, read. -/
set_option linter.unusedVariables false
set_option linter.unusedSimpArgs false
set_option maxRecDepth 100000
namespace Go.Mir.Try
open Go.Proofs Go.Mir.Q

def okQ (run n : Int) : Bool := decide (0 ≤ run ∧ run ≤ 1073741824) && decide (0 ≤ n ∧ n ≤ 1073741824)
def okS (r : Record) (run n : Int) : Bool := okR r && okQ run n

set_option maxHeartbeats 2000000 in
theorem f40 {n run nn : Int} {l : List Write} (hs : smW l) : Fun G 40 [.vs true [.d (.sc (.int .i64 n)), .d (.sl (l.map eW))], .int .i64 run, .int .i64 nn] (.tup [(false, [.own 9 ((if okS ⟨n, l⟩ run nn then cuts run nn (spelt ⟨n, l⟩) else []).map oS)]), (false, [.d (.sc (.int .i64 (if okS ⟨n, l⟩ run nn then 0 else 1)))])], []) := by
  refine Fun.of_run (g := g40) (pf := pf40) rfl rfl rfl rfl ?_
  have hl := hs.1
  by_cases hr : okR ⟨n, l⟩ = true
  · by_cases h1 : 0 ≤ run ∧ run ≤ 1073741824
    · by_cases h2 : 0 ≤ nn ∧ nn ≤ 1073741824
      · have e : okS ⟨n, l⟩ run nn = true := by simp [okS, okQ, hr, h1, h2]
        simp (disch := first | assumption | ((try simp only [LEN, LEN2]); omega)) only [push_cast, Int.reduceToNat, Int.reduceEq, Int.reduceNe, Int.reduceLT, Int.reduceLE, Int.reduceAdd, Int.reduceSub, Int.reduceMul, Int.reduceNeg, Nat.reduceEqDiff, Nat.reduceBEq, Nat.reduceBNe, Nat.reduceAdd, Nat.reduceLeDiff, Nat.reduceLT, Nat.reduceMul, ↓reduceIte, reduceCtorEq, g40, pf40, b40, hr, h1, h2, e]
      · have e : okS ⟨n, l⟩ run nn = false := by simp only [okS, okQ, h2]; simp
        simp (disch := first | assumption | ((try simp only [LEN, LEN2]); omega)) only [push_cast, Int.reduceToNat, Int.reduceEq, Int.reduceNe, Int.reduceLT, Int.reduceLE, Int.reduceAdd, Int.reduceSub, Int.reduceMul, Int.reduceNeg, Nat.reduceEqDiff, Nat.reduceBEq, Nat.reduceBNe, Nat.reduceAdd, Nat.reduceLeDiff, Nat.reduceLT, Nat.reduceMul, ↓reduceIte, reduceCtorEq, g40, pf40, b40, hr, h1, h2, e]
    · have e : okS ⟨n, l⟩ run nn = false := by simp only [okS, okQ, h1]; simp
      simp (disch := first | assumption | ((try simp only [LEN, LEN2]); omega)) only [push_cast, Int.reduceToNat, Int.reduceEq, Int.reduceNe, Int.reduceLT, Int.reduceLE, Int.reduceAdd, Int.reduceSub, Int.reduceMul, Int.reduceNeg, Nat.reduceEqDiff, Nat.reduceBEq, Nat.reduceBNe, Nat.reduceAdd, Nat.reduceLeDiff, Nat.reduceLT, Nat.reduceMul, ↓reduceIte, reduceCtorEq, g40, pf40, b40, hr, h1, e]
  · rw [Bool.not_eq_true] at hr
    have e : okS ⟨n, l⟩ run nn = false := by simp [okS, hr]
    simp (disch := first | assumption | ((try simp only [LEN, LEN2]); omega)) only [push_cast, Int.reduceToNat, Int.reduceEq, Int.reduceNe, Int.reduceLT, Int.reduceLE, Int.reduceAdd, Int.reduceSub, Int.reduceMul, Int.reduceNeg, Nat.reduceEqDiff, Nat.reduceBEq, Nat.reduceBNe, Nat.reduceAdd, Nat.reduceLeDiff, Nat.reduceLT, Nat.reduceMul, ↓reduceIte, reduceCtorEq, g40, pf40, b40, hr, e]
theorem f40c {n run nn : Int} {l : List Write} (hs : smW l) {g : VG} {F : Fn} {lk : Bool} {e : Env} {dst : Option Nat} {ops : List Ins} {keep : Option (List Nat)} {K : List Fr} : CallC G g F 40 [.vs true [.d (.sc (.int .i64 n)), .d (.sl (l.map eW))], .int .i64 run, .int .i64 nn] lk e dst ops keep K = ThenL G g F (if lk && !(T.noSl (.tup [(false, [.own 9 ((if okS ⟨n, l⟩ run nn then cuts run nn (spelt ⟨n, l⟩) else []).map oS)]), (false, [.d (.sc (.int .i64 (if okS ⟨n, l⟩ run nn then 0 else 1)))])])) then none else e.put g.un dst (.tup [(false, [.own 9 ((if okS ⟨n, l⟩ run nn then cuts run nn (spelt ⟨n, l⟩) else []).map oS)]), (false, [.d (.sc (.int .i64 (if okS ⟨n, l⟩ run nn then 0 else 1)))])])) ops keep K := callC_eq (f40 hs)
attribute [push_cast] f40c

theorem okR_smW {r : Record} (h : okR r = true) : smW r.Writes := by
  simp only [okR, Bool.and_eq_true, decide_eq_true_eq, List.all_eq_true] at h
  refine ⟨by omega, fun w hw => ?_⟩
  have := h.2 w hw
  simp only [okW, decide_eq_true_eq] at this
  omega
theorem eS_len (L : List (List UInt8)) : (L.map eS).length = L.length := List.length_map ..

set_option maxHeartbeats 2000000 in
theorem f102 {run nn : Int} {L : List (List UInt8)} (hL : L.length ≤ 4000000) : Fun G 102 [.one (.d (.sl (L.map eS))), .int .i64 run, .int .i64 nn] (.tup [(true, [.d (.sc (.int .i64 (whole1 run nn L).1.Commit)), .own 84 ((whole1 run nn L).1.Writes.map oW)]), (false, [.d (.sc (.int .i64 (whole1 run nn L).2))])], []) := by
  refine Fun.of_run (g := g102) (pf := pf102) rfl rfl rfl rfl ?_
  simp (disch := first | assumption | ((try simp only [LEN, LEN2]); omega)) only [push_cast, Int.reduceToNat, Int.reduceEq, Int.reduceNe, Int.reduceLT, Int.reduceLE, Int.reduceAdd, Int.reduceSub, Int.reduceMul, Int.reduceNeg, Nat.reduceEqDiff, Nat.reduceBEq, Nat.reduceBNe, Nat.reduceAdd, Nat.reduceLeDiff, Nat.reduceLT, Nat.reduceMul, ↓reduceIte, reduceCtorEq, g102, pf102, b102]
  obtain ⟨W, hW⟩ : ∃ W, whole1 run nn L = W := ⟨_, rfl⟩
  rw [hW]
  refine run_loop' (fun x : Nat × List UInt8 => [(0, T.one (.d (.sl (L.map eS)))), (1, T.int .i64 run), (2, T.int .i64 nn), (6, T.one (.box [.d (.sc (.int .i64 0)), .own 84 []])), (8, T.str (bs x.2)), (14, T.one (.d (.sl (L.map eS)))), (15, T.int .i64 L.length), (16, T.int .i64 x.1)])
    (fun x => x.1 ≤ L.length ∧ x.2.length ≤ 20 * x.1 ∧ W = whole run nn L (L.drop x.1) x.1 x.2) (fun x => L.length - x.1) (0, []) rfl ⟨Nat.zero_le _, by simp, hW.symm⟩ (fun ⟨i, b⟩ hi => ?_)
  obtain ⟨hi, hb, hw⟩ := hi
  simp only at hi hb hw
  by_cases h : (i : Int) < L.length
  · have hi' : i < L.length := by omega
    rw [List.drop_eq_getElem_cons hi', whole] at hw
    obtain ⟨s, hs⟩ : ∃ s, L[i] = s := ⟨_, rfl⟩
    rw [hs] at hw
    by_cases h32 : s.length = 32
    · rw [if_neg (by omega)] at hw
      obtain ⟨k, hk⟩ : ∃ k, s[11] = k := ⟨_, rfl⟩
      obtain ⟨z, hz⟩ : ∃ z, s[10] = z := ⟨_, rfl⟩
      have hk' : s[11]?.getD 0 = k := by rw [List.getElem?_eq_getElem (by omega), hk]; rfl
      have hz' : s[10]?.getD 0 = z := by rw [List.getElem?_eq_getElem (by omega), hz]; rfl
      rw [hk', hz'] at hw
      by_cases h20 : 20 < k.toNat
      · rw [if_pos h20] at hw
        have hI : ((20 : Int) < k.toNat) = True := by simp; omega
        simp (disch := first | assumption | ((try simp only [LEN, LEN2]); omega)) only [push_cast, Int.reduceToNat, Int.reduceEq, Int.reduceNe, Int.reduceLT, Int.reduceLE, Int.reduceAdd, Int.reduceSub, Int.reduceMul, Int.reduceNeg, Nat.reduceEqDiff, Nat.reduceBEq, Nat.reduceBNe, Nat.reduceAdd, Nat.reduceLeDiff, Nat.reduceLT, Nat.reduceMul, ↓reduceIte, reduceCtorEq, g102, pf102, b102, h, eS, hs, h32, hk, hI, hw]
      · rw [if_neg h20] at hw
        have hI : ((20 : Int) < k.toNat) = False := by simp; omega
        have hk20 : (12 + (k.toNat : Int)).toNat = 12 + k.toNat := by omega
        obtain ⟨p, hp⟩ : ∃ p, (s.drop 12).take k.toNat = p := ⟨_, rfl⟩
        have hpl : p.length ≤ 20 := by rw [← hp, List.length_take]; omega
        rw [hp] at hw
        have hp2 : (s.take (12 + k.toNat)).drop 12 = p := by rw [← hp, List.drop_take]; congr 1; omega
        by_cases h0 : z = 0
        · rw [if_pos h0] at hw
          have hz0 : ((z.toNat : Int) = 0) = True := by subst h0; simp
          simp (disch := first | assumption | ((try simp only [LEN, LEN2]); omega)) only [push_cast, Int.reduceToNat, Int.reduceEq, Int.reduceNe, Int.reduceLT, Int.reduceLE, Int.reduceAdd, Int.reduceSub, Int.reduceMul, Int.reduceNeg, Nat.reduceEqDiff, Nat.reduceBEq, Nat.reduceBNe, Nat.reduceAdd, Nat.reduceLeDiff, Nat.reduceLT, Nat.reduceMul, ↓reduceIte, reduceCtorEq, g102, pf102, b102, h, eS, hs, h32, hk, hI, hz, hz0, hk20, hp2]
          exact ⟨(i + 1, b ++ p), rfl, ⟨by simp only; omega, by simp only [List.length_append]; omega, hw⟩, by simp only; omega⟩
        · have hz0 : ((z.toNat : Int) = 0) = False := by
            simp only [eq_iff_iff, iff_false]
            intro hz0
            exact h0 (UInt8.toNat_inj.1 (by simpa using hz0))
          rw [if_neg h0] at hw
          have hbl : (b ++ p).length ≤ 100000000 := by rw [List.length_append]; omega
          cases ht : take (b ++ p) with
          | none =>
            rw [ht] at hw
            simp (disch := first | assumption | ((try simp only [LEN, LEN2]); omega)) only [push_cast, Int.reduceToNat, Int.reduceEq, Int.reduceNe, Int.reduceLT, Int.reduceLE, Int.reduceAdd, Int.reduceSub, Int.reduceMul, Int.reduceNeg, Nat.reduceEqDiff, Nat.reduceBEq, Nat.reduceBNe, Nat.reduceAdd, Nat.reduceLeDiff, Nat.reduceLT, Nat.reduceMul, ↓reduceIte, reduceCtorEq, g102, pf102, b102, h, eS, hs, h32, hk, hI, hz, hz0, hk20, hp2, ht, hw]
          | some r =>
            rw [ht] at hw
            simp only at hw
            have hr := take_ok ht
            have hws := okR_smW hr
            have hcl : (cuts run nn (spelt r)).length ≤ 1000000000 := by have := (cnt_pos hr).2; rw [cuts_len]; omega
            have htl : (L.take (i + 1)).length ≤ 1000000000 := by rw [List.length_take]; omega
            have ei : ((i : Int) + 1).toNat = i + 1 := by omega
            obtain ⟨c, ws⟩ := r
            simp only at hws
            by_cases hc : cuts run nn (spelt ⟨c, ws⟩) = L.take (i + 1)
            · rw [if_pos hc] at hw
              simp (disch := first | assumption | ((try simp only [LEN, LEN2]); omega)) only [push_cast, Int.reduceToNat, Int.reduceEq, Int.reduceNe, Int.reduceLT, Int.reduceLE, Int.reduceAdd, Int.reduceSub, Int.reduceMul, Int.reduceNeg, Nat.reduceEqDiff, Nat.reduceBEq, Nat.reduceBNe, Nat.reduceAdd, Nat.reduceLeDiff, Nat.reduceLT, Nat.reduceMul, ↓reduceIte, reduceCtorEq, g102, pf102, b102, h, hs, h32, hk, hI, hz, hz0, hk20, hp2, ht, hw, rc, eS, ei, hc]
              done
            · rw [if_neg hc] at hw
              simp (disch := first | assumption | ((try simp only [LEN, LEN2]); omega)) only [push_cast, Int.reduceToNat, Int.reduceEq, Int.reduceNe, Int.reduceLT, Int.reduceLE, Int.reduceAdd, Int.reduceSub, Int.reduceMul, Int.reduceNeg, Nat.reduceEqDiff, Nat.reduceBEq, Nat.reduceBNe, Nat.reduceAdd, Nat.reduceLeDiff, Nat.reduceLT, Nat.reduceMul, ↓reduceIte, reduceCtorEq, g102, pf102, b102, h, hs, h32, hk, hI, hz, hz0, hk20, hp2, ht, hw, rc, eS, ei, hc]
              done
    · rw [if_pos h32] at hw
      have hn : ((s.length : Int) = 32) = False := by simp; omega
      simp (disch := first | assumption | ((try simp only [LEN, LEN2]); omega)) only [push_cast, Int.reduceToNat, Int.reduceEq, Int.reduceNe, Int.reduceLT, Int.reduceLE, Int.reduceAdd, Int.reduceSub, Int.reduceMul, Int.reduceNeg, Nat.reduceEqDiff, Nat.reduceBEq, Nat.reduceBNe, Nat.reduceAdd, Nat.reduceLeDiff, Nat.reduceLT, Nat.reduceMul, ↓reduceIte, reduceCtorEq, g102, pf102, b102, h, eS, hs, hn, hw]
  · obtain rfl : i = L.length := by omega
    rw [List.drop_length, whole] at hw
    simp (disch := first | assumption | ((try simp only [LEN, LEN2]); omega)) only [push_cast, Int.reduceToNat, Int.reduceEq, Int.reduceNe, Int.reduceLT, Int.reduceLE, Int.reduceAdd, Int.reduceSub, Int.reduceMul, Int.reduceNeg, Nat.reduceEqDiff, Nat.reduceBEq, Nat.reduceBNe, Nat.reduceAdd, Nat.reduceLeDiff, Nat.reduceLT, Nat.reduceMul, ↓reduceIte, reduceCtorEq, g102, pf102, b102, h, hw]
theorem f102c {run nn : Int} {L : List (List UInt8)} (hL : L.length ≤ 4000000) {g : VG} {F : Fn} {lk : Bool} {e : Env} {dst : Option Nat} {ops : List Ins} {keep : Option (List Nat)} {K : List Fr} : CallC G g F 102 [.one (.d (.sl (L.map eS))), .int .i64 run, .int .i64 nn] lk e dst ops keep K = ThenL G g F (if lk && !(T.noSl (.tup [(true, [.d (.sc (.int .i64 (whole1 run nn L).1.Commit)), .own 84 ((whole1 run nn L).1.Writes.map oW)]), (false, [.d (.sc (.int .i64 (whole1 run nn L).2))])])) then none else e.put g.un dst (.tup [(true, [.d (.sc (.int .i64 (whole1 run nn L).1.Commit)), .own 84 ((whole1 run nn L).1.Writes.map oW)]), (false, [.d (.sc (.int .i64 (whole1 run nn L).2))])])) ops keep K := callC_eq (f102 hL)
attribute [push_cast] f102c
theorem f102t {run nn : Int} {L : List (List UInt8)} (hL : L.length ≤ 4000000) {g : VG} {F : Fn} {lk : Bool} {ags : List Arg} {e0 e1 : Env} {dst : Option Nat} {ops : List Ins} {keep : Option (List Nat)} {K : List Fr} : CallT G g F 102 [.one (.d (.sl (L.map eS))), .int .i64 run, .int .i64 nn] lk ags e0 e1 dst ops keep K = RetT G g F (.tup [(true, [.d (.sc (.int .i64 (whole1 run nn L).1.Commit)), .own 84 ((whole1 run nn L).1.Writes.map oW)]), (false, [.d (.sc (.int .i64 (whole1 run nn L).2))])]) [] lk ags e0 e1 dst ops keep K := callT_eq (f102 hL)
attribute [push_cast] f102t

end Go.Mir.Try

/- Walks: records, read. -/
set_option linter.unusedVariables false
set_option linter.unusedSimpArgs false
set_option maxRecDepth 100000
namespace Go.Mir.Try
open Go.Proofs Go.Mir.Q

theorem toDs_oR (c : Int) (ws : List Write) : toDs [.d (.sc (.int .i64 c)), .own 84 (ws.map oW)] = some [.sc (.int .i64 c), .sl (ws.map eW)] := by simp [toDs, V.toD, toDss_oW]
def oR (r : Record) : List V := [.d (.sc (.int .i64 r.Commit)), .own 84 (r.Writes.map oW)]

theorem toDss_oR (l : List Record) : toDss (l.map oR) = some (l.map eR) := toDss_map (fun _ => toDs_oR _ _) l
theorem noSlss_oR (l : List Record) : noSlss (l.map oR) = true := noSlss_map (fun x => by simp [oR, noSls, V.noSl, noSlss_oW]) l
attribute [push_cast] toDss_oR noSlss_oR

set_option maxHeartbeats 2000000 in
theorem f78 {run n0 : Int} {L : List (List UInt8)} (hL : L.length ≤ 4000000) (h0 : okN n0) : Fun G 78 [.one (.d (.sl (L.map eS))), .int .i64 run, .int .i64 n0] (.tup [(false, [.own 32 ((rd run n0 L).1.map oR)]), (false, [.d (.sc (.int .i64 (rd run n0 L).2))])], []) := by
  refine Fun.of_run (g := g78) (pf := pf78) rfl rfl rfl rfl ?_
  simp (disch := first | assumption | ((try simp only [LEN, LEN2]); omega)) only [push_cast, Int.reduceToNat, Int.reduceEq, Int.reduceNe, Int.reduceLT, Int.reduceLE, Int.reduceAdd, Int.reduceSub, Int.reduceMul, Int.reduceNeg, Nat.reduceEqDiff, Nat.reduceBEq, Nat.reduceBNe, Nat.reduceAdd, Nat.reduceLeDiff, Nat.reduceLT, Nat.reduceMul, ↓reduceIte, reduceCtorEq, g78, pf78, b78]
  obtain ⟨W, hW⟩ : ∃ W, rd run n0 L = W := ⟨_, rfl⟩
  rw [hW]
  refine run_loop' (fun x : Nat × Int × Nat × List Record => [(0, T.one (.d (.sl (L.map eS)))), (1, T.int .i64 run), (2, T.int .i64 x.2.1), (6, T.one (.own 32 (x.2.2.2.map oR))), (7, T.int .i64 x.2.2.1)])
    (fun x => x.2.2.1 ≤ L.length ∧ L.length - x.2.2.1 < x.1 ∧ x.2.2.2.length ≤ x.2.2.1 ∧ okN x.2.1 ∧ W = (x.2.2.2 ++ (runF run L x.1 x.2.1 x.2.2.1).1, (runF run L x.1 x.2.1 x.2.2.1).2)) (fun x => x.1) (L.length + 1, n0, 0, []) rfl ⟨Nat.zero_le _, by simp only; omega, Nat.zero_le _, h0, hW.symm⟩ (fun ⟨j, n, m, x⟩ hi => ?_)
  obtain ⟨hm, hj, hx, hn, hw⟩ := hi
  simp only at hm hj hx hn hw
  obtain ⟨j, rfl⟩ : ∃ k, j = k + 1 := ⟨j - 1, by omega⟩
  obtain ⟨hn1, hn2⟩ := hn
  rw [runF] at hw
  by_cases h : n ≤ 1073741824
  · rw [if_neg (by omega)] at hw
    have hdl : (L.drop m).length ≤ 4000000 := by rw [List.length_drop]; omega
    have hle := whole1_le run n (L.drop m)
    rw [List.length_drop] at hle
    obtain ⟨⟨⟨c, ws⟩, k⟩, hk⟩ : ∃ x, whole1 run n (L.drop m) = x := ⟨_, rfl⟩
    rw [hk] at hw hle
    simp only at hw hle
    by_cases hk0 : k = 0
    · rw [if_pos hk0] at hw
      subst hk0
      simp (disch := first | assumption | ((try simp only [LEN, LEN2]); omega)) only [push_cast, Int.reduceToNat, Int.reduceEq, Int.reduceNe, Int.reduceLT, Int.reduceLE, Int.reduceAdd, Int.reduceSub, Int.reduceMul, Int.reduceNeg, Nat.reduceEqDiff, Nat.reduceBEq, Nat.reduceBNe, Nat.reduceAdd, Nat.reduceLeDiff, Nat.reduceLT, Nat.reduceMul, ↓reduceIte, reduceCtorEq, g78, pf78, b78, h, hk, hw, List.take_length]
      try rfl
      done
    · rw [if_neg hk0] at hw
      have hk1 : ((k : Int) = 0) = False := by simp; omega
      simp (disch := first | assumption | ((try simp only [LEN, LEN2]); omega)) only [push_cast, Int.reduceToNat, Int.reduceEq, Int.reduceNe, Int.reduceLT, Int.reduceLE, Int.reduceAdd, Int.reduceSub, Int.reduceMul, Int.reduceNeg, Nat.reduceEqDiff, Nat.reduceBEq, Nat.reduceBNe, Nat.reduceAdd, Nat.reduceLeDiff, Nat.reduceLT, Nat.reduceMul, ↓reduceIte, reduceCtorEq, g78, pf78, b78, h, hk, hk1, List.take_length]
      exact ⟨(j, n + 1, m + k, x ++ [⟨c, ws⟩]), by simp [oR], ⟨by simp only; omega, by simp only; omega, by simp only [List.length_append, List.length_singleton]; omega, ⟨by simp only; omega, by simp only; omega⟩, by rw [hw]; simp⟩, by simp only; omega⟩
  · rw [if_pos (by omega)] at hw
    simp (disch := first | assumption | ((try simp only [LEN, LEN2]); omega)) only [push_cast, Int.reduceToNat, Int.reduceEq, Int.reduceNe, Int.reduceLT, Int.reduceLE, Int.reduceAdd, Int.reduceSub, Int.reduceMul, Int.reduceNeg, Nat.reduceEqDiff, Nat.reduceBEq, Nat.reduceBNe, Nat.reduceAdd, Nat.reduceLeDiff, Nat.reduceLT, Nat.reduceMul, ↓reduceIte, reduceCtorEq, g78, pf78, b78, h, hw]
    done
theorem f78c {run n0 : Int} {L : List (List UInt8)} (hL : L.length ≤ 4000000) (h0 : okN n0) {g : VG} {F : Fn} {lk : Bool} {e : Env} {dst : Option Nat} {ops : List Ins} {keep : Option (List Nat)} {K : List Fr} : CallC G g F 78 [.one (.d (.sl (L.map eS))), .int .i64 run, .int .i64 n0] lk e dst ops keep K = ThenL G g F (if lk && !(T.noSl (.tup [(false, [.own 32 ((rd run n0 L).1.map oR)]), (false, [.d (.sc (.int .i64 (rd run n0 L).2))])])) then none else e.put g.un dst (.tup [(false, [.own 32 ((rd run n0 L).1.map oR)]), (false, [.d (.sc (.int .i64 (rd run n0 L).2))])])) ops keep K := callC_eq (f78 hL h0)
attribute [push_cast] f78c

set_option maxHeartbeats 2000000 in
theorem f41 {run n0 : Int} {L : List (List UInt8)} (hL : L.length ≤ 4000000) (h0 : okN n0) : Fun G 41 [.one (.d (.sl (L.map eS))), .int .i64 run, .int .i64 n0] (.tup [(false, [.own 32 ((if okQ run n0 then (rd run n0 L).1 else []).map oR)]), (false, [.d (.sc (.int .i64 (if okQ run n0 then ((rd run n0 L).2 : Int) else 0)))]), (false, [.d (.sc (.int .i64 (if okQ run n0 then 0 else 1)))])], []) := by
  refine Fun.of_run (g := g41) (pf := pf41) rfl rfl rfl rfl ?_
  by_cases h1 : 0 ≤ run ∧ run ≤ 1073741824
  · by_cases h2 : 0 ≤ n0 ∧ n0 ≤ 1073741824
    · have e : okQ run n0 = true := by simp [okQ, h1, h2]
      simp (disch := first | assumption | ((try simp only [LEN, LEN2]); omega)) only [push_cast, Int.reduceToNat, Int.reduceEq, Int.reduceNe, Int.reduceLT, Int.reduceLE, Int.reduceAdd, Int.reduceSub, Int.reduceMul, Int.reduceNeg, Nat.reduceEqDiff, Nat.reduceBEq, Nat.reduceBNe, Nat.reduceAdd, Nat.reduceLeDiff, Nat.reduceLT, Nat.reduceMul, ↓reduceIte, reduceCtorEq, g41, pf41, b41, h1, h2, e]
    · have e : okQ run n0 = false := by simp only [okQ, h2]; simp
      simp (disch := first | assumption | ((try simp only [LEN, LEN2]); omega)) only [push_cast, Int.reduceToNat, Int.reduceEq, Int.reduceNe, Int.reduceLT, Int.reduceLE, Int.reduceAdd, Int.reduceSub, Int.reduceMul, Int.reduceNeg, Nat.reduceEqDiff, Nat.reduceBEq, Nat.reduceBNe, Nat.reduceAdd, Nat.reduceLeDiff, Nat.reduceLT, Nat.reduceMul, ↓reduceIte, reduceCtorEq, g41, pf41, b41, h1, h2, e]
  · have e : okQ run n0 = false := by simp only [okQ, h1]; simp
    simp (disch := first | assumption | ((try simp only [LEN, LEN2]); omega)) only [push_cast, Int.reduceToNat, Int.reduceEq, Int.reduceNe, Int.reduceLT, Int.reduceLE, Int.reduceAdd, Int.reduceSub, Int.reduceMul, Int.reduceNeg, Nat.reduceEqDiff, Nat.reduceBEq, Nat.reduceBNe, Nat.reduceAdd, Nat.reduceLeDiff, Nat.reduceLT, Nat.reduceMul, ↓reduceIte, reduceCtorEq, g41, pf41, b41, h1, e]
theorem f41c {run n0 : Int} {L : List (List UInt8)} (hL : L.length ≤ 4000000) (h0 : okN n0) {g : VG} {F : Fn} {lk : Bool} {e : Env} {dst : Option Nat} {ops : List Ins} {keep : Option (List Nat)} {K : List Fr} : CallC G g F 41 [.one (.d (.sl (L.map eS))), .int .i64 run, .int .i64 n0] lk e dst ops keep K = ThenL G g F (if lk && !(T.noSl (.tup [(false, [.own 32 ((if okQ run n0 then (rd run n0 L).1 else []).map oR)]), (false, [.d (.sc (.int .i64 (if okQ run n0 then ((rd run n0 L).2 : Int) else 0)))]), (false, [.d (.sc (.int .i64 (if okQ run n0 then 0 else 1)))])])) then none else e.put g.un dst (.tup [(false, [.own 32 ((if okQ run n0 then (rd run n0 L).1 else []).map oR)]), (false, [.d (.sc (.int .i64 (if okQ run n0 then ((rd run n0 L).2 : Int) else 0)))]), (false, [.d (.sc (.int .i64 (if okQ run n0 then 0 else 1)))])])) ops keep K := callC_eq (f41 hL h0)
attribute [push_cast] f41c

end Go.Mir.Try

/- Walks: the law CodeLong. -/
set_option linter.unusedVariables false
set_option linter.unusedSimpArgs false
set_option maxRecDepth 100000
namespace Go.Mir.Try
open Go.Proofs Go.Mir.Q

theorem f24 : Fun G 24 [] (.bool true, []) := ⟨30, by kernel_rfl⟩
abbrev askV (R : List Record) (S : List (List UInt8)) (N : List Int) (L : List (List (List UInt8))) : List V := [.d (.sl (R.map eR)), .d (.sl (S.map eS)), .d (.sl (N.map eN)), .d (.sl (L.map fun l => [.sl (l.map eS)]))]
theorem noSlss_nil : noSlss [] = true := rfl

/-- One record alone. -/
theorem rd_one {run n : Int} {r : Record} (hr : okR r = true) (hn : n < 1073741824) : rd run n (cuts run n (spelt r)) = ([r], cnt (spelt r)) := by
  have h0 := (cnt_pos hr).1
  have hw := whole1_cut (run := run) (n := n) (S := []) hr
  rw [List.append_nil] at hw
  have hl := cuts_len run n (spelt r)
  obtain ⟨k, hk⟩ : ∃ k, (cuts run n (spelt r)).length = k + 1 := ⟨(cuts run n (spelt r)).length - 1, by omega⟩
  rw [rd, hk, runF, if_neg (by omega), List.drop_zero, hw]
  simp only
  rw [if_neg (by omega), runF, if_neg (by omega), List.drop_of_length_le (by omega)]
  simp [whole1, whole]

def wN (i : Nat) : Write := ⟨(i : Int) % 3, [byt (97 + (i : Int) / 8), byt (97 + (i : Int) % 8), 107, 107, 107, 107, 107, 107, 107, 107, 107, 107], [118, 118, 118, 118, 118, 118, 118, 118, 118, 118, 118, 118, 118, 118, 118, 118, 118, 118, 118, 118], false⟩
def wsN (n : Nat) : List Write := (List.range n).map wN
theorem wsN_succ (n : Nat) : wsN (n + 1) = wsN n ++ [wN n] := by simp [wsN, List.range_succ]
theorem wsN_len (n : Nat) : (wsN n).length = n := by simp [wsN]
theorem wN_ok (i : Nat) : okW (wN i) = true := by
  simp only [okW, wN, decide_eq_true_eq]
  refine ⟨by omega, by omega, by simp, by simp, by simp, by simp⟩
theorem okR_long : okR ⟨1073741824, wsN 64⟩ = true := by
  simp only [okR, Bool.and_eq_true, decide_eq_true_eq, List.all_eq_true, wsN_len]
  refine ⟨by omega, fun w hw => ?_⟩
  simp only [wsN, List.mem_map] at hw
  obtain ⟨i, _, rfl⟩ := hw
  exact wN_ok i
theorem okR_longer (w : Write) : okR ⟨1, wsN 64 ++ [w]⟩ = false := by
  simp [okR, wsN_len]

def kN (a b : Int) : List UInt8 := [byt a, byt b, 107, 107, 107, 107, 107, 107, 107, 107, 107, 107]
theorem rowK (a b : Int) : [[V.d (.sc (.int .u8 (a % 256)))], [V.d (.sc (.int .u8 (b % 256)))], [V.d (.sc (.int .u8 107))], [V.d (.sc (.int .u8 107))], [V.d (.sc (.int .u8 107))], [V.d (.sc (.int .u8 107))], [V.d (.sc (.int .u8 107))], [V.d (.sc (.int .u8 107))], [V.d (.sc (.int .u8 107))], [V.d (.sc (.int .u8 107))], [V.d (.sc (.int .u8 107))], [V.d (.sc (.int .u8 107))]] = (kN a b).map oB := by
  unfold kN
  rw [List.map_cons, List.map_cons, oB_byt, oB_byt]; rfl
def wA : Write := ⟨0, [97], [], false⟩
theorem toDssA : toDss [[V.d (.sc (.int .i64 0)), V.d (.sc (.string (bs [97]))), V.d (.sc (.string (bs []))), V.d (.sc (.bool false))]] = some [[.sc (.int .i64 0), .sc (.string (bs [97])), .sc (.string (bs [])), .sc (.bool false)]] := rfl
theorem foldW (l : List Write) : l.map eW ++ [[.sc (.int .i64 0), .sc (.string (bs [97])), .sc (.string (bs [])), .sc (.bool false)]] = (l ++ [wA]).map eW := by simp [eW, wA]

set_option maxHeartbeats 2000000 in
theorem f9 {R : List Record} {S : List (List UInt8)} {N : List Int} {L : List (List (List UInt8))} (hN : N.length ≤ 1048576) : Fun G 9 [.vs true (askV R S N L)] (.bool true, []) := by
  refine Fun.of_run (g := g9) (pf := pf9) rfl rfl rfl rfl ?_
  simp (disch := first | assumption | ((try simp only [LEN, LEN2]); omega)) only [push_cast, Int.reduceToNat, Int.reduceEq, Int.reduceNe, Int.reduceLT, Int.reduceLE, Int.reduceAdd, Int.reduceSub, Int.reduceMul, Int.reduceNeg, Nat.reduceEqDiff, Nat.reduceBEq, Nat.reduceBNe, Nat.reduceAdd, Nat.reduceLeDiff, Nat.reduceLT, Nat.reduceMul, ↓reduceIte, reduceCtorEq, g9, pf9, b9, callC_eq f24]
  refine run_loop' (fun i : Nat => [(1, T.one (.box (askV R S N L))), (3, T.one (.box [.d (.sc (.int .i64 1073741824)), .own 84 ((wsN i).map oW)])), (4, T.int .i64 i)]) (fun i => i ≤ 64) (fun i => 64 - i) 0 rfl (Nat.zero_le _) (fun i hi => ?_)
  have hwl := wsN_len i
  by_cases h : (i : Int) < 64
  · simp (disch := first | assumption | ((try simp only [LEN, LEN2]); omega)) only [push_cast, Int.reduceToNat, Int.reduceEq, Int.reduceNe, Int.reduceLT, Int.reduceLE, Int.reduceAdd, Int.reduceSub, Int.reduceMul, Int.reduceNeg, Nat.reduceEqDiff, Nat.reduceBEq, Nat.reduceBNe, Nat.reduceAdd, Nat.reduceLeDiff, Nat.reduceLT, Nat.reduceMul, ↓reduceIte, reduceCtorEq, g9, pf9, b9, h, rowK]
    exact ⟨i + 1, by simp [wsN_succ, oW, wN, kN], by omega, by omega⟩
  · obtain rfl : i = 64 := by omega
    have hr := okR_long
    have hs := okR_smW hr
    simp only at hs
    have htk := take_spelt hr
    have hrc : rc (spelt ⟨1073741824, wsN 64⟩) = ⟨1073741824, wsN 64⟩ := by simp [rc, htk]
    have hsl : (spelt ⟨1073741824, wsN 64⟩).length ≤ 100000000 := by have := okR_len hr; omega
    have hokS : okS ⟨1073741824, wsN 64⟩ 3 4 = true := by simp only [okS, hr]; decide
    have hcn := cnt_pos hr
    have hrd := rd_one (run := 3) (n := 4) hr (by omega)
    rw [← cuts_len 3 4] at hrd hcn
    obtain ⟨C, hC⟩ : ∃ C, cuts 3 4 (spelt ⟨1073741824, wsN 64⟩) = C := ⟨_, rfl⟩
    rw [hC] at hrd hcn
    have hCm : C.length ≤ 4000000 := by omega
    obtain ⟨x, hx⟩ : ∃ x, x = [(⟨1073741824, wsN 64⟩ : Record)] := ⟨_, rfl⟩
    rw [← hx] at hrd
    have hxl : x.length = 1 := by rw [hx]; rfl
    have hx0 : x[0] = ⟨1073741824, wsN 64⟩ := by simp [hx]
    have hq : okQ 3 4 = true := by decide
    have hk4 : okN 4 := ⟨by omega, by omega⟩
    have hs2 : smW (wsN 64 ++ [wA]) := ⟨by rw [List.length_append, hwl]; simp, fun w hw => by
      rw [List.mem_append, List.mem_singleton] at hw
      rcases hw with hw | rfl
      · exact hs.2 w hw
      · simp [wA]⟩
    have hr2 := okR_longer wA
    have hN0 : ((0 : Int) ≤ N.length) = True := eq_true (by omega)
    have hwl9 : (wsN 64).length ≤ 1000000000 := by omega
    simp (disch := first | assumption | ((try simp only [LEN, LEN2]); omega)) only [push_cast, Int.reduceToNat, Int.reduceEq, Int.reduceNe, Int.reduceLT, Int.reduceLE, Int.reduceAdd, Int.reduceSub, Int.reduceMul, Int.reduceNeg, Nat.reduceEqDiff, Nat.reduceBEq, Nat.reduceBNe, Nat.reduceAdd, Nat.reduceLeDiff, Nat.reduceLT, Nat.reduceMul, ↓reduceIte, reduceCtorEq, g9, pf9, b9, hr, htk, hrc, hokS, hC, hrd, hq, hxl, hx0, hwl, oR, foldW, toDssA, hr2, eq_self, hN0, callC_eq f24]
    done
theorem f9t {R : List Record} {S : List (List UInt8)} {N : List Int} {L : List (List (List UInt8))} (hN : N.length ≤ 1048576) {g : VG} {F : Fn} {lk : Bool} {ags : List Arg} {e0 e1 : Env} {dst : Option Nat} {ops : List Ins} {keep : Option (List Nat)} {K : List Fr} : CallT G g F 9 [.vs true (askV R S N L)] lk ags e0 e1 dst ops keep K = RetT G g F (.bool true) [] lk ags e0 e1 dst ops keep K := callT_eq (f9 hN)
attribute [push_cast] f9t

end Go.Mir.Try
