/-
  The abstract code of the program's functions (printed: wip/tools/gen.sh).
-/
import Derived.Test.YtpgkpdojpmikkaaE16
import Derived.Test.YtpgkpdojpmikkaaProg
set_option maxRecDepth 100000
namespace Go.Proofs.Ytpgkpdojpmikkaa.Eng
open Go Go.Proofs
def a3 : AFn :=
  ⟨70, [.tmp 6], .seq (.region 0 [⟨some 5, .box 6 (.t 2), none⟩, ⟨some 6, .mv (.k (.bool false)), none⟩]) 
    (.seq 
    (.seq (.region 1 [⟨some 12, .mv (.t 0), none⟩, ⟨some 13, .len (.t 12), none⟩, ⟨some 14, .bin .gtr false none (.t 13) (.k (.int .i64 (60))), none⟩, ⟨some 15, .mv (.t 14), none⟩, ⟨some 16, .mv (.t 1), some (15, false)⟩, ⟨some 17, .len (.t 16), some (15, false)⟩, ⟨some 18, .bin .gtr false none (.t 17) (.k (.int .i64 (60))), some (15, false)⟩, ⟨some 19, .pick (.t 15) (.k (.bool true)) (.t 18), none⟩]) (.cond (.t 19) 
    (.seq (.region 2 [⟨some 20, .call (.k (.fn 12 [])) [], none⟩, ⟨some 6, .mv (.t 20), none⟩]) .ret) .skip)) 
    (.seq (.region 3 [⟨some 21, .bsl 4 0 [], none⟩, ⟨some 22, .mv (.t 0), none⟩, ⟨some 23, .app 4 32 (.t 21) (.t 22), none⟩, ⟨some 7, .mv (.t 23), none⟩]) 
    (.seq (.region 4 [⟨some 25, .mv (.t 7), none⟩, ⟨some 26, .load 6 true (.t 5), none⟩, ⟨some 27, .call (.k (.fn 13 [])) [.t 25, .t 26], none⟩, ⟨some 24, .mv (.t 27), none⟩, ⟨some 28, .ext (.t 24) 0, none⟩, ⟨some 29, .ext (.t 24) 1, none⟩, ⟨some 8, .mv (.t 28), none⟩, ⟨some 9, .mv (.t 29), none⟩]) 
    (.seq (.region 5 [⟨some 31, .mv (.t 0), none⟩, ⟨some 32, .load 6 true (.t 5), none⟩, ⟨some 33, .call (.k (.fn 14 [])) [.t 31, .t 32], none⟩, ⟨some 30, .mv (.t 33), none⟩, ⟨some 34, .ext (.t 30) 0, none⟩, ⟨some 35, .ext (.t 30) 1, none⟩, ⟨some 10, .mv (.t 34), none⟩, ⟨some 11, .mv (.t 35), none⟩]) 
    (.seq (.region 6 [⟨some 36, .mv (.t 8), none⟩, ⟨some 37, .mv (.t 10), none⟩, ⟨some 38, .call (.k (.fn 15 [])) [.t 36, .t 37], none⟩, ⟨some 39, .mv (.t 38), none⟩, ⟨some 40, .mv (.t 9), some (39, true)⟩, ⟨some 41, .mv (.t 11), some (39, true)⟩, ⟨some 42, .bin .eql false none (.t 40) (.t 41), some (39, true)⟩, ⟨some 43, .pick (.t 39) (.t 42) (.k (.bool false)), none⟩, ⟨some 44, .mv (.t 43), none⟩, ⟨some 45, .mv (.t 0), some (44, true)⟩, ⟨some 46, .call (.k (.fn 17 [])) [.t 45], some (44, true)⟩, ⟨some 47, .call (.k (.fn 16 [])) [.t 46], some (44, true)⟩, ⟨some 48, .bin .eql false none (.t 47) (.k (.int .i64 (0))), some (44, true)⟩, ⟨some 49, .mv (.t 0), some (44, true)⟩, ⟨some 50, .call (.k (.fn 18 [])) [.t 49], some (44, true)⟩, ⟨some 51, .bin .eql true none (.t 48) (.t 50), some (44, true)⟩, ⟨some 52, .pick (.t 44) (.t 51) (.k (.bool false)), none⟩, ⟨some 53, .mv (.t 52), none⟩, ⟨some 54, .mv (.t 0), some (53, true)⟩, ⟨some 55, .mv (.t 1), some (53, true)⟩, ⟨some 56, .call (.k (.fn 19 [])) [.t 54, .t 55], some (53, true)⟩, ⟨some 57, .mv (.t 0), some (53, true)⟩, ⟨some 58, .mv (.t 1), some (53, true)⟩, ⟨some 59, .call (.k (.fn 15 [])) [.t 57, .t 58], some (53, true)⟩, ⟨some 60, .bin .eql true none (.t 56) (.t 59), some (53, true)⟩, ⟨some 61, .pick (.t 53) (.t 60) (.k (.bool false)), none⟩, ⟨some 62, .mv (.t 61), none⟩, ⟨some 63, .mv (.t 7), some (62, true)⟩, ⟨some 64, .mv (.t 0), some (62, true)⟩, ⟨some 65, .call (.k (.fn 15 [])) [.t 63, .t 64], some (62, true)⟩, ⟨some 66, .pick (.t 62) (.t 65) (.k (.bool false)), none⟩, ⟨some 67, .mv (.t 66), none⟩, ⟨some 68, .call (.k (.fn 12 [])) [], some (67, true)⟩, ⟨some 69, .pick (.t 67) (.t 68) (.k (.bool false)), none⟩, ⟨some 6, .mv (.t 69), none⟩]) .ret)))))⟩
theorem a3_ok : cfun Try.prog Try.f3 = some a3 := by kernel_rfl
def a4 : AFn :=
  ⟨84, [.tmp 6], .seq (.region 0 [⟨some 4, .box 2 (.t 1), none⟩, ⟨some 5, .box 2 (.t 2), none⟩, ⟨some 6, .mv (.k (.bool false)), none⟩]) 
    (.seq 
    (.seq (.region 1 [⟨some 15, .mv (.t 0), none⟩, ⟨some 16, .len (.t 15), none⟩, ⟨some 17, .bin .gtr false none (.t 16) (.k (.int .i64 (60))), none⟩]) (.cond (.t 17) 
    (.seq (.region 2 [⟨some 18, .call (.k (.fn 12 [])) [], none⟩, ⟨some 6, .mv (.t 18), none⟩]) .ret) .skip)) 
    (.seq (.region 3 [⟨some 20, .mv (.t 0), none⟩, ⟨some 21, .load 2 true (.t 4), none⟩, ⟨some 22, .call (.k (.fn 20 [])) [.t 20, .t 21], none⟩, ⟨some 19, .mv (.t 22), none⟩, ⟨some 23, .ext (.t 19) 0, none⟩, ⟨some 24, .ext (.t 19) 1, none⟩, ⟨some 7, .mv (.t 23), none⟩, ⟨some 8, .mv (.t 24), none⟩]) 
    (.seq (.region 4 [⟨some 26, .mv (.t 0), none⟩, ⟨some 27, .load 2 true (.t 4), none⟩, ⟨some 28, .call (.k (.fn 21 [])) [.t 26, .t 27], none⟩, ⟨some 25, .mv (.t 28), none⟩, ⟨some 29, .ext (.t 25) 0, none⟩, ⟨some 30, .ext (.t 25) 1, none⟩, ⟨some 9, .mv (.t 29), none⟩, ⟨some 10, .mv (.t 30), none⟩]) 
    (.seq (.region 5 [⟨some 32, .mv (.t 0), none⟩, ⟨some 33, .load 2 true (.t 4), none⟩, ⟨some 34, .call (.k (.fn 22 [])) [.t 32, .t 33], none⟩, ⟨some 31, .mv (.t 34), none⟩, ⟨some 35, .ext (.t 31) 0, none⟩, ⟨some 36, .ext (.t 31) 1, none⟩, ⟨some 11, .alloc [.int .i64 (0), .int .i64 (0)], none⟩, ⟨none, .store 2 (.t 11) (.t 35), none⟩, ⟨some 12, .mv (.t 36), none⟩]) 
    (.seq (.region 6 [⟨some 38, .mv (.t 0), none⟩, ⟨some 39, .load 2 true (.t 4), none⟩, ⟨some 40, .call (.k (.fn 23 [])) [.t 38, .t 39], none⟩, ⟨some 37, .mv (.t 40), none⟩, ⟨some 41, .ext (.t 37) 0, none⟩, ⟨some 42, .ext (.t 37) 1, none⟩, ⟨some 13, .alloc [.int .i64 (0), .int .i64 (0)], none⟩, ⟨none, .store 2 (.t 13) (.t 41), none⟩, ⟨some 14, .mv (.t 42), none⟩]) 
    (.seq (.dregion 7 [⟨some 43, .mv (.t 7), none⟩, ⟨some 44, .mv (.t 9), none⟩, ⟨some 45, .bin .eql false none (.t 43) (.t 44), none⟩, ⟨some 46, .mv (.t 45), none⟩, ⟨some 47, .mv (.t 8), some (46, true)⟩, ⟨some 48, .mv (.t 10), some (46, true)⟩, ⟨some 49, .bin .eql true none (.t 47) (.t 48), some (46, true)⟩, ⟨some 50, .pick (.t 46) (.t 49) (.k (.bool false)), none⟩, ⟨some 51, .mv (.t 50), none⟩, ⟨some 52, .load 2 true (.t 11), some (51, true)⟩, ⟨some 53, .load 2 true (.t 13), some (51, true)⟩, ⟨some 54, .bin .eql false (some [true, true]) (.t 52) (.t 53), some (51, true)⟩, ⟨some 55, .pick (.t 51) (.t 54) (.k (.bool false)), none⟩, ⟨some 56, .mv (.t 55), none⟩, ⟨some 57, .mv (.t 12), some (56, true)⟩, ⟨some 58, .mv (.t 14), some (56, true)⟩, ⟨some 59, .bin .eql true none (.t 57) (.t 58), some (56, true)⟩, ⟨some 60, .pick (.t 56) (.t 59) (.k (.bool false)), none⟩, ⟨some 61, .mv (.t 60), none⟩, ⟨some 62, .mv (.t 0), some (61, true)⟩, ⟨some 63, .load 2 true (.t 4), some (61, true)⟩, ⟨some 64, .call (.k (.fn 25 [])) [.t 62, .t 63], some (61, true)⟩, ⟨some 65, .mv (.t 0), some (61, true)⟩, ⟨some 66, .load 2 true (.t 4), some (61, true)⟩, ⟨some 67, .call (.k (.fn 26 [])) [.t 65, .t 66], some (61, true)⟩, ⟨some 68, .call (.k (.fn 24 [])) [.t 64, .t 67], some (61, true)⟩, ⟨some 69, .pick (.t 61) (.t 68) (.k (.bool false)), none⟩, ⟨some 70, .mv (.t 69), none⟩, ⟨some 71, .mv (.t 0), some (70, true)⟩, ⟨some 72, .load 2 true (.t 4), some (70, true)⟩, ⟨some 73, .load 2 true (.t 5), some (70, true)⟩, ⟨some 74, .call (.k (.fn 27 [])) [.t 71, .t 72, .t 73], some (70, true)⟩, ⟨some 75, .mv (.t 0), some (70, true)⟩, ⟨some 76, .load 2 true (.t 4), some (70, true)⟩, ⟨some 77, .load 2 true (.t 5), some (70, true)⟩, ⟨some 78, .call (.k (.fn 28 [])) [.t 75, .t 76, .t 77], some (70, true)⟩, ⟨some 79, .bin .eql true none (.t 74) (.t 78), some (70, true)⟩, ⟨some 80, .pick (.t 70) (.t 79) (.k (.bool false)), none⟩, ⟨some 81, .mv (.t 80), none⟩, ⟨some 82, .call (.k (.fn 12 [])) [], some (81, true)⟩, ⟨some 83, .pick (.t 81) (.t 82) (.k (.bool false)), none⟩, ⟨some 6, .mv (.t 83), none⟩] [(0, 1), (4, 5), (9, 10), (14, 15), (19, 20), (19, 22), (20, 22), (21, 22), (19, 23), (20, 23), (21, 23), (22, 23), (28, 29), (28, 30), (29, 30), (28, 32), (29, 32), (30, 32), (31, 32), (28, 33), (29, 33), (30, 33), (31, 33), (32, 33), (28, 34), (29, 34), (30, 34), (31, 34), (32, 34), (33, 34)]) .ret))))))⟩
theorem a4_ok : cfun Try.prog Try.f4 = some a4 := by kernel_rfl
def a5 : AFn :=
  ⟨56, [.tmp 2], .seq (.region 0 [⟨some 2, .mv (.k (.bool false)), none⟩]) 
    (.seq 
    (.seq (.region 1 [⟨some 10, .mv (.t 0), none⟩, ⟨some 11, .len (.t 10), none⟩, ⟨some 12, .bin .gtr false none (.t 11) (.k (.int .i64 (60))), none⟩]) (.cond (.t 12) 
    (.seq (.region 2 [⟨some 13, .call (.k (.fn 12 [])) [], none⟩, ⟨some 2, .mv (.t 13), none⟩]) .ret) .skip)) 
    (.seq (.region 3 [⟨some 3, .mv (.k (.sl 4 true [])), none⟩, ⟨some 4, .mv (.k (.sl 4 true [])), none⟩]) 
    (.seq 
    (.seq (.region 4 [⟨some 5, .mv (.k (.int .i64 (0))), none⟩]) (.block 0 (.loop 
    (.seq 
    (.seq (.region 5 [⟨some 14, .mv (.t 5), none⟩, ⟨some 15, .mv (.t 0), none⟩, ⟨some 16, .len (.t 15), none⟩, ⟨some 17, .bin .lss false none (.t 14) (.t 16), none⟩]) (.cond (.t 17) .skip (.exit 0))) 
    (.seq (.block 1 
    (.seq (.region 7 [⟨some 21, .mv (.t 3), none⟩, ⟨some 22, .mv (.t 0), none⟩, ⟨some 23, .mv (.t 5), none⟩, ⟨some 24, .iaddr 6 (.t 22) (.t 23), none⟩, ⟨some 25, .load 6 true (.t 24), none⟩, ⟨some 26, .call (.k (.fn 13 [])) [.t 21, .t 25], none⟩, ⟨some 20, .mv (.t 26), none⟩, ⟨some 27, .ext (.t 20) 0, none⟩, ⟨some 28, .ext (.t 20) 1, none⟩, ⟨some 6, .mv (.t 27), none⟩, ⟨some 7, .mv (.t 28), none⟩]) 
    (.seq (.region 8 [⟨some 30, .mv (.t 4), none⟩, ⟨some 31, .mv (.t 0), none⟩, ⟨some 32, .mv (.t 5), none⟩, ⟨some 33, .iaddr 6 (.t 31) (.t 32), none⟩, ⟨some 34, .load 6 true (.t 33), none⟩, ⟨some 35, .call (.k (.fn 14 [])) [.t 30, .t 34], none⟩, ⟨some 29, .mv (.t 35), none⟩, ⟨some 36, .ext (.t 29) 0, none⟩, ⟨some 37, .ext (.t 29) 1, none⟩, ⟨some 8, .mv (.t 36), none⟩, ⟨some 9, .mv (.t 37), none⟩]) 
    (.seq 
    (.seq (.region 9 [⟨some 38, .mv (.t 6), none⟩, ⟨some 39, .mv (.t 8), none⟩, ⟨some 40, .call (.k (.fn 15 [])) [.t 38, .t 39], none⟩, ⟨some 41, .un .not (.t 40), none⟩, ⟨some 42, .mv (.t 41), none⟩, ⟨some 43, .mv (.t 7), some (42, false)⟩, ⟨some 44, .mv (.t 9), some (42, false)⟩, ⟨some 45, .bin .neq false none (.t 43) (.t 44), some (42, false)⟩, ⟨some 46, .pick (.t 42) (.k (.bool true)) (.t 45), none⟩, ⟨some 47, .mv (.t 46), none⟩, ⟨some 48, .mv (.t 6), some (47, false)⟩, ⟨some 49, .call (.k (.fn 17 [])) [.t 48], some (47, false)⟩, ⟨some 50, .call (.k (.fn 16 [])) [.t 49], some (47, false)⟩, ⟨some 51, .bin .neq false none (.t 50) (.k (.int .i64 (0))), some (47, false)⟩, ⟨some 52, .pick (.t 47) (.k (.bool true)) (.t 51), none⟩]) (.cond (.t 52) 
    (.seq (.region 10 [⟨some 2, .mv (.k (.bool false)), none⟩]) .ret) .skip)) (.region 11 [⟨some 53, .mv (.t 6), none⟩, ⟨some 54, .mv (.t 8), none⟩, ⟨some 3, .mv (.t 53), none⟩, ⟨some 4, .mv (.t 54), none⟩]))))) (.region 6 [⟨some 18, .mv (.t 5), none⟩, ⟨some 19, .bin .add false none (.t 18) (.k (.int .i64 (1))), none⟩, ⟨some 5, .mv (.t 19), none⟩])))))) 
    (.seq (.region 12 [⟨some 55, .call (.k (.fn 12 [])) [], none⟩, ⟨some 2, .mv (.t 55), none⟩]) .ret))))⟩
theorem a5_ok : cfun Try.prog Try.f5 = some a5 := by kernel_rfl
def a6 : AFn :=
  ⟨108, [.tmp 8], .seq (.region 0 [⟨some 5, .box 2 (.t 1), none⟩, ⟨some 6, .box 2 (.t 2), none⟩, ⟨some 7, .box 2 (.t 3), none⟩, ⟨some 8, .mv (.k (.bool false)), none⟩]) 
    (.seq 
    (.seq (.region 1 [⟨some 18, .mv (.t 0), none⟩, ⟨some 19, .len (.t 18), none⟩, ⟨some 20, .bin .gtr false none (.t 19) (.k (.int .i64 (60))), none⟩]) (.cond (.t 20) 
    (.seq (.region 2 [⟨some 21, .call (.k (.fn 12 [])) [], none⟩, ⟨some 8, .mv (.t 21), none⟩]) .ret) .skip)) 
    (.seq (.region 3 [⟨some 22, .mv (.t 0), none⟩, ⟨some 23, .call (.k (.fn 29 [])) [.t 22], none⟩, ⟨some 9, .mv (.t 23), none⟩]) 
    (.seq (.region 4 [⟨some 25, .mv (.t 9), none⟩, ⟨some 26, .load 2 true (.t 5), none⟩, ⟨some 27, .load 2 true (.t 6), none⟩, ⟨some 28, .call (.k (.fn 30 [])) [.t 25, .t 26, .t 27], none⟩, ⟨some 24, .mv (.t 28), none⟩, ⟨some 29, .ext (.t 24) 0, none⟩, ⟨some 30, .ext (.t 24) 1, none⟩, ⟨some 10, .mv (.t 29), none⟩, ⟨some 11, .mv (.t 30), none⟩]) 
    (.seq 
    (.seq (.region 5 [⟨some 31, .mv (.t 11), none⟩, ⟨some 32, .call (.k (.fn 16 [])) [.t 31], none⟩, ⟨some 33, .bin .neq false none (.t 32) (.k (.int .i64 (0))), none⟩]) (.cond (.t 33) 
    (.seq (.region 6 [⟨some 34, .mv (.t 9), none⟩, ⟨some 35, .mv (.t 10), none⟩, ⟨some 36, .call (.k (.fn 19 [])) [.t 34, .t 35], none⟩, ⟨some 37, .mv (.t 36), none⟩, ⟨some 38, .call (.k (.fn 12 [])) [], some (37, true)⟩, ⟨some 39, .pick (.t 37) (.t 38) (.k (.bool false)), none⟩, ⟨some 8, .mv (.t 39), none⟩]) .ret) .skip)) 
    (.seq (.region 7 [⟨some 41, .mv (.t 10), none⟩, ⟨some 42, .load 2 true (.t 6), none⟩, ⟨some 43, .call (.k (.fn 22 [])) [.t 41, .t 42], none⟩, ⟨some 40, .mv (.t 43), none⟩, ⟨some 44, .ext (.t 40) 0, none⟩, ⟨some 45, .ext (.t 40) 1, none⟩, ⟨some 12, .alloc [.int .i64 (0), .int .i64 (0)], none⟩, ⟨none, .store 2 (.t 12) (.t 44), none⟩, ⟨some 13, .mv (.t 45), none⟩]) 
    (.seq (.region 8 [⟨some 47, .mv (.t 10), none⟩, ⟨some 48, .load 2 true (.t 6), none⟩, ⟨some 49, .call (.k (.fn 31 [])) [.t 47, .t 48], none⟩, ⟨some 46, .mv (.t 49), none⟩, ⟨some 50, .ext (.t 46) 0, none⟩, ⟨some 51, .ext (.t 46) 1, none⟩, ⟨some 14, .mv (.t 50), none⟩, ⟨some 15, .mv (.t 51), none⟩]) 
    (.seq 
    (.seq (.region 9 [⟨some 52, .mv (.t 13), none⟩, ⟨some 53, .un .not (.t 52), none⟩, ⟨some 54, .mv (.t 53), none⟩, ⟨some 55, .load 2 true (.t 12), some (54, false)⟩, ⟨some 56, .load 2 true (.t 5), some (54, false)⟩, ⟨some 57, .bin .neq false (some [true, true]) (.t 55) (.t 56), some (54, false)⟩, ⟨some 58, .pick (.t 54) (.k (.bool true)) (.t 57), none⟩, ⟨some 59, .mv (.t 58), none⟩, ⟨some 60, .mv (.t 15), some (59, false)⟩, ⟨some 61, .call (.k (.fn 16 [])) [.t 60], some (59, false)⟩, ⟨some 62, .bin .neq false none (.t 61) (.k (.int .i64 (0))), some (59, false)⟩, ⟨some 63, .pick (.t 59) (.k (.bool true)) (.t 62), none⟩, ⟨some 64, .mv (.t 63), none⟩, ⟨some 65, .mv (.t 14), some (64, false)⟩, ⟨some 66, .mv (.t 9), some (64, false)⟩, ⟨some 67, .call (.k (.fn 19 [])) [.t 65, .t 66], some (64, false)⟩, ⟨some 68, .un .not (.t 67), some (64, false)⟩, ⟨some 69, .pick (.t 64) (.k (.bool true)) (.t 68), none⟩, ⟨some 70, .mv (.t 69), none⟩, ⟨some 71, .mv (.t 10), some (70, false)⟩, ⟨some 72, .len (.t 71), some (70, false)⟩, ⟨some 73, .mv (.t 9), some (70, false)⟩, ⟨some 74, .len (.t 73), some (70, false)⟩, ⟨some 75, .bin .add false none (.t 74) (.k (.int .i64 (1))), some (70, false)⟩, ⟨some 76, .bin .neq false none (.t 72) (.t 75), some (70, false)⟩, ⟨some 77, .pick (.t 70) (.k (.bool true)) (.t 76), none⟩]) (.cond (.t 77) 
    (.seq (.region 10 [⟨some 8, .mv (.k (.bool false)), none⟩]) .ret) .skip)) 
    (.seq (.region 11 [⟨some 79, .mv (.t 9), none⟩, ⟨some 80, .load 2 true (.t 7), none⟩, ⟨some 81, .call (.k (.fn 20 [])) [.t 79, .t 80], none⟩, ⟨some 78, .mv (.t 81), none⟩, ⟨some 82, .ext (.t 78) 0, none⟩, ⟨some 83, .ext (.t 78) 1, none⟩, ⟨some 16, .mv (.t 82), none⟩, ⟨some 17, .mv (.t 83), none⟩]) 
    (.seq 
    (.seq (.dregion 12 [⟨some 84, .mv (.t 17), none⟩, ⟨some 85, .mv (.t 84), none⟩, ⟨some 86, .mv (.t 10), some (85, true)⟩, ⟨some 87, .load 2 true (.t 6), some (85, true)⟩, ⟨some 88, .load 2 true (.t 7), some (85, true)⟩, ⟨some 89, .call (.k (.fn 27 [])) [.t 86, .t 87, .t 88], some (85, true)⟩, ⟨some 90, .load 2 true (.t 7), some (85, true)⟩, ⟨some 91, .load 2 true (.t 5), some (85, true)⟩, ⟨some 92, .bin .eql false (some [true, true]) (.t 90) (.t 91), some (85, true)⟩, ⟨some 93, .mv (.t 92), some (85, true)⟩, ⟨some 94, .mv (.t 9), some (93, false)⟩, ⟨some 95, .load 2 true (.t 5), some (93, false)⟩, ⟨some 96, .load 2 true (.t 7), some (93, false)⟩, ⟨some 97, .call (.k (.fn 27 [])) [.t 94, .t 95, .t 96], some (93, false)⟩, ⟨some 98, .pick (.t 93) (.k (.bool true)) (.t 97), some (85, true)⟩, ⟨some 99, .bin .neq true none (.t 89) (.t 98), some (85, true)⟩, ⟨some 100, .mv (.t 99), some (85, true)⟩, ⟨some 101, .mv (.t 10), some (100, false)⟩, ⟨some 102, .load 2 true (.t 7), some (100, false)⟩, ⟨some 103, .load 2 true (.t 6), some (100, false)⟩, ⟨some 104, .call (.k (.fn 27 [])) [.t 101, .t 102, .t 103], some (100, false)⟩, ⟨some 105, .pick (.t 100) (.k (.bool true)) (.t 104), some (85, true)⟩, ⟨some 106, .pick (.t 85) (.t 105) (.k (.bool false)), none⟩] [(2, 3), (2, 4), (3, 4), (2, 6), (3, 6), (4, 6), (5, 6), (2, 7), (3, 7), (4, 7), (5, 7), (6, 7), (2, 8), (3, 8), (4, 8), (5, 8), (10, 11), (10, 12), (11, 12), (17, 18), (17, 19), (18, 19)]) (.cond (.t 106) 
    (.seq (.region 13 [⟨some 8, .mv (.k (.bool false)), none⟩]) .ret) .skip)) 
    (.seq (.region 14 [⟨some 107, .call (.k (.fn 12 [])) [], none⟩, ⟨some 8, .mv (.t 107), none⟩]) .ret))))))))))⟩
theorem a6_ok : cfun Try.prog Try.f6 = some a6 := by kernel_rfl
def a7 : AFn :=
  ⟨88, [.tmp 8], .seq (.region 0 [⟨some 5, .box 2 (.t 1), none⟩, ⟨some 6, .box 2 (.t 2), none⟩, ⟨some 7, .box 2 (.t 3), none⟩, ⟨some 8, .mv (.k (.bool false)), none⟩]) 
    (.seq 
    (.seq (.region 1 [⟨some 12, .mv (.t 0), none⟩, ⟨some 13, .len (.t 12), none⟩, ⟨some 14, .bin .gtr false none (.t 13) (.k (.int .i64 (60))), none⟩]) (.cond (.t 14) 
    (.seq (.region 2 [⟨some 15, .call (.k (.fn 12 [])) [], none⟩, ⟨some 8, .mv (.t 15), none⟩]) .ret) .skip)) 
    (.seq (.region 3 [⟨some 16, .mv (.t 0), none⟩, ⟨some 17, .call (.k (.fn 29 [])) [.t 16], none⟩, ⟨some 9, .mv (.t 17), none⟩]) 
    (.seq 
    (.seq (.region 4 [⟨some 18, .mv (.t 9), none⟩, ⟨some 19, .load 2 true (.t 5), none⟩, ⟨some 20, .load 2 true (.t 5), none⟩, ⟨some 21, .call (.k (.fn 27 [])) [.t 18, .t 19, .t 20], none⟩, ⟨some 22, .mv (.t 21), none⟩, ⟨some 23, .mv (.t 9), some (22, false)⟩, ⟨some 24, .load 2 true (.t 5), some (22, false)⟩, ⟨some 25, .load 2 true (.t 6), some (22, false)⟩, ⟨some 26, .call (.k (.fn 27 [])) [.t 23, .t 24, .t 25], some (22, false)⟩, ⟨some 27, .mv (.t 26), some (22, false)⟩, ⟨some 28, .mv (.t 9), some (27, true)⟩, ⟨some 29, .load 2 true (.t 6), some (27, true)⟩, ⟨some 30, .load 2 true (.t 5), some (27, true)⟩, ⟨some 31, .call (.k (.fn 27 [])) [.t 28, .t 29, .t 30], some (27, true)⟩, ⟨some 32, .mv (.t 31), some (27, true)⟩, ⟨some 33, .mv (.t 9), some (32, false)⟩, ⟨some 34, .load 2 true (.t 6), some (32, false)⟩, ⟨some 35, .load 2 true (.t 7), some (32, false)⟩, ⟨some 36, .call (.k (.fn 27 [])) [.t 33, .t 34, .t 35], some (32, false)⟩, ⟨some 37, .mv (.t 36), some (32, false)⟩, ⟨some 38, .mv (.t 9), some (37, true)⟩, ⟨some 39, .load 2 true (.t 5), some (37, true)⟩, ⟨some 40, .load 2 true (.t 7), some (37, true)⟩, ⟨some 41, .call (.k (.fn 27 [])) [.t 38, .t 39, .t 40], some (37, true)⟩, ⟨some 42, .un .not (.t 41), some (37, true)⟩, ⟨some 43, .pick (.t 37) (.t 42) (.k (.bool false)), some (32, false)⟩, ⟨some 44, .pick (.t 32) (.k (.bool true)) (.t 43), some (27, true)⟩, ⟨some 45, .pick (.t 27) (.t 44) (.k (.bool false)), some (22, false)⟩, ⟨some 46, .pick (.t 22) (.k (.bool true)) (.t 45), none⟩]) (.cond (.t 46) 
    (.seq (.region 5 [⟨some 8, .mv (.k (.bool false)), none⟩]) .ret) .skip)) 
    (.seq (.region 6 [⟨some 48, .mv (.t 9), none⟩, ⟨some 49, .load 2 true (.t 5), none⟩, ⟨some 50, .call (.k (.fn 22 [])) [.t 48, .t 49], none⟩, ⟨some 47, .mv (.t 50), none⟩, ⟨some 51, .ext (.t 47) 0, none⟩, ⟨some 52, .ext (.t 47) 1, none⟩, ⟨some 10, .alloc [.int .i64 (0), .int .i64 (0)], none⟩, ⟨none, .store 2 (.t 10) (.t 51), none⟩, ⟨some 11, .mv (.t 52), none⟩]) 
    (.seq 
    (.seq (.region 7 [⟨some 53, .mv (.t 11), none⟩, ⟨some 54, .un .not (.t 53), none⟩]) (.cond (.t 54) 
    (.seq (.region 8 [⟨some 55, .mv (.t 9), none⟩, ⟨some 56, .load 2 true (.t 5), none⟩, ⟨some 57, .load 2 true (.t 6), none⟩, ⟨some 58, .call (.k (.fn 27 [])) [.t 55, .t 56, .t 57], none⟩, ⟨some 59, .un .not (.t 58), none⟩, ⟨some 60, .mv (.t 59), none⟩, ⟨some 61, .call (.k (.fn 12 [])) [], some (60, true)⟩, ⟨some 62, .pick (.t 60) (.t 61) (.k (.bool false)), none⟩, ⟨some 8, .mv (.t 62), none⟩]) .ret) .skip)) 
    (.seq (.region 9 [⟨some 63, .mv (.t 9), none⟩, ⟨some 64, .load 2 true (.t 5), none⟩, ⟨some 65, .load 2 true (.t 10), none⟩, ⟨some 66, .call (.k (.fn 27 [])) [.t 63, .t 64, .t 65], none⟩, ⟨some 67, .mv (.t 66), none⟩, ⟨some 68, .mv (.t 9), some (67, true)⟩, ⟨some 69, .load 2 true (.t 5), some (67, true)⟩, ⟨some 70, .load 2 true (.t 6), some (67, true)⟩, ⟨some 71, .call (.k (.fn 27 [])) [.t 68, .t 69, .t 70], some (67, true)⟩, ⟨some 72, .un .not (.t 71), some (67, true)⟩, ⟨some 73, .mv (.t 72), some (67, true)⟩, ⟨some 74, .load 2 true (.t 6), some (73, false)⟩, ⟨some 75, .load 2 true (.t 10), some (73, false)⟩, ⟨some 76, .bin .eql false (some [true, true]) (.t 74) (.t 75), some (73, false)⟩, ⟨some 77, .pick (.t 73) (.k (.bool true)) (.t 76), some (67, true)⟩, ⟨some 78, .mv (.t 77), some (67, true)⟩, ⟨some 79, .mv (.t 9), some (78, false)⟩, ⟨some 80, .load 2 true (.t 10), some (78, false)⟩, ⟨some 81, .load 2 true (.t 6), some (78, false)⟩, ⟨some 82, .call (.k (.fn 27 [])) [.t 79, .t 80, .t 81], some (78, false)⟩, ⟨some 83, .pick (.t 78) (.k (.bool true)) (.t 82), some (67, true)⟩, ⟨some 84, .pick (.t 67) (.t 83) (.k (.bool false)), none⟩, ⟨some 85, .mv (.t 84), none⟩, ⟨some 86, .call (.k (.fn 12 [])) [], some (85, true)⟩, ⟨some 87, .pick (.t 85) (.t 86) (.k (.bool false)), none⟩, ⟨some 8, .mv (.t 87), none⟩]) .ret))))))⟩
theorem a7_ok : cfun Try.prog Try.f7 = some a7 := by kernel_rfl
def a8 : AFn :=
  ⟨106, [.tmp 10], .seq (.region 0 [⟨some 6, .box 2 (.t 1), none⟩, ⟨some 7, .box 2 (.t 2), none⟩, ⟨some 8, .box 2 (.t 3), none⟩, ⟨some 9, .box 2 (.t 4), none⟩, ⟨some 10, .mv (.k (.bool false)), none⟩]) 
    (.seq 
    (.seq (.region 1 [⟨some 20, .mv (.t 0), none⟩, ⟨some 21, .len (.t 20), none⟩, ⟨some 22, .bin .gtr false none (.t 21) (.k (.int .i64 (60))), none⟩]) (.cond (.t 22) 
    (.seq (.region 2 [⟨some 23, .call (.k (.fn 12 [])) [], none⟩, ⟨some 10, .mv (.t 23), none⟩]) .ret) .skip)) 
    (.seq (.region 3 [⟨some 24, .mv (.t 0), none⟩, ⟨some 25, .call (.k (.fn 29 [])) [.t 24], none⟩, ⟨some 11, .mv (.t 25), none⟩]) 
    (.seq (.region 4 [⟨some 27, .mv (.t 11), none⟩, ⟨some 28, .load 2 true (.t 6), none⟩, ⟨some 29, .load 2 true (.t 7), none⟩, ⟨some 30, .call (.k (.fn 32 [])) [.t 27, .t 28, .t 29], none⟩, ⟨some 26, .mv (.t 30), none⟩, ⟨some 31, .ext (.t 26) 0, none⟩, ⟨some 32, .ext (.t 26) 1, none⟩, ⟨some 12, .mv (.t 31), none⟩, ⟨some 13, .mv (.t 32), none⟩]) 
    (.seq (.region 5 [⟨some 34, .mv (.t 11), none⟩, ⟨some 35, .load 2 true (.t 8), none⟩, ⟨some 36, .call (.k (.fn 33 [])) [.t 34, .t 35, .k (.bool true)], none⟩, ⟨some 33, .mv (.t 36), none⟩, ⟨some 37, .ext (.t 33) 0, none⟩, ⟨some 38, .ext (.t 33) 1, none⟩, ⟨some 14, .mv (.t 37), none⟩, ⟨some 15, .mv (.t 38), none⟩]) 
    (.seq 
    (.seq (.dregion 6 [⟨some 39, .mv (.t 15), none⟩, ⟨some 40, .call (.k (.fn 16 [])) [.t 39], none⟩, ⟨some 41, .bin .eql false none (.t 40) (.k (.int .i64 (0))), none⟩, ⟨some 42, .mv (.t 41), none⟩, ⟨some 43, .mv (.t 14), some (42, true)⟩, ⟨some 44, .load 2 true (.t 8), some (42, true)⟩, ⟨some 45, .load 2 true (.t 9), some (42, true)⟩, ⟨some 46, .call (.k (.fn 27 [])) [.t 43, .t 44, .t 45], some (42, true)⟩, ⟨some 47, .mv (.t 11), some (42, true)⟩, ⟨some 48, .load 2 true (.t 8), some (42, true)⟩, ⟨some 49, .load 2 true (.t 9), some (42, true)⟩, ⟨some 50, .call (.k (.fn 27 [])) [.t 47, .t 48, .t 49], some (42, true)⟩, ⟨some 51, .bin .neq true none (.t 46) (.t 50), some (42, true)⟩, ⟨some 52, .pick (.t 42) (.t 51) (.k (.bool false)), none⟩] [(4, 5), (4, 6), (5, 6), (4, 8), (5, 8), (6, 8), (7, 8), (4, 9), (5, 9), (6, 9), (7, 9), (8, 9), (4, 10), (5, 10), (6, 10), (7, 10), (8, 10), (9, 10)]) (.cond (.t 52) 
    (.seq (.region 7 [⟨some 10, .mv (.k (.bool false)), none⟩]) .ret) .skip)) 
    (.seq 
    (.seq (.region 8 [⟨some 53, .mv (.t 13), none⟩, ⟨some 54, .call (.k (.fn 16 [])) [.t 53], none⟩, ⟨some 55, .bin .neq false none (.t 54) (.k (.int .i64 (0))), none⟩, ⟨some 56, .mv (.t 55), none⟩, ⟨some 57, .load 2 true (.t 8), some (56, false)⟩, ⟨some 58, .load 2 true (.t 7), some (56, false)⟩, ⟨some 59, .bin .eql false (some [true, true]) (.t 57) (.t 58), some (56, false)⟩, ⟨some 60, .pick (.t 56) (.k (.bool true)) (.t 59), none⟩, ⟨some 61, .mv (.t 60), none⟩, ⟨some 62, .load 2 true (.t 9), some (61, false)⟩, ⟨some 63, .load 2 true (.t 7), some (61, false)⟩, ⟨some 64, .bin .eql false (some [true, true]) (.t 62) (.t 63), some (61, false)⟩, ⟨some 65, .pick (.t 61) (.k (.bool true)) (.t 64), none⟩]) (.cond (.t 65) 
    (.seq (.region 9 [⟨some 66, .call (.k (.fn 12 [])) [], none⟩, ⟨some 10, .mv (.t 66), none⟩]) .ret) .skip)) 
    (.seq (.dregion 10 [⟨some 67, .load 2 true (.t 8), none⟩, ⟨some 68, .load 2 true (.t 9), none⟩, ⟨some 16, .alloc [.int .i64 (0), .int .i64 (0)], none⟩, ⟨some 17, .alloc [.int .i64 (0), .int .i64 (0)], none⟩, ⟨none, .store 2 (.t 16) (.t 67), none⟩, ⟨none, .store 2 (.t 17) (.t 68), none⟩] [(0, 1), (0, 2), (1, 2), (0, 3), (1, 3), (2, 3), (1, 4)]) 
    (.seq 
    (.seq (.region 11 [⟨some 69, .load 2 true (.t 8), none⟩, ⟨some 70, .load 2 true (.t 6), none⟩, ⟨some 71, .bin .eql false (some [true, true]) (.t 69) (.t 70), none⟩]) (.cond (.t 71) (.region 12 [⟨some 72, .load 2 true (.t 7), none⟩, ⟨none, .store 2 (.t 16) (.t 72), none⟩]) .skip)) 
    (.seq 
    (.seq (.region 13 [⟨some 73, .load 2 true (.t 9), none⟩, ⟨some 74, .load 2 true (.t 6), none⟩, ⟨some 75, .bin .eql false (some [true, true]) (.t 73) (.t 74), none⟩]) (.cond (.t 75) (.region 14 [⟨some 76, .load 2 true (.t 7), none⟩, ⟨none, .store 2 (.t 17) (.t 76), none⟩]) .skip)) 
    (.seq (.region 15 [⟨some 78, .mv (.t 12), none⟩, ⟨some 79, .load 2 true (.t 6), none⟩, ⟨some 80, .call (.k (.fn 20 [])) [.t 78, .t 79], none⟩, ⟨some 77, .mv (.t 80), none⟩, ⟨some 81, .ext (.t 77) 0, none⟩, ⟨some 82, .ext (.t 77) 1, none⟩, ⟨some 18, .mv (.t 81), none⟩, ⟨some 19, .mv (.t 82), none⟩]) 
    (.seq (.dregion 16 [⟨some 83, .mv (.t 19), none⟩, ⟨some 84, .un .not (.t 83), none⟩, ⟨some 85, .mv (.t 84), none⟩, ⟨some 86, .mv (.t 12), some (85, true)⟩, ⟨some 87, .load 2 true (.t 16), some (85, true)⟩, ⟨some 88, .load 2 true (.t 17), some (85, true)⟩, ⟨some 89, .call (.k (.fn 27 [])) [.t 86, .t 87, .t 88], some (85, true)⟩, ⟨some 90, .mv (.t 11), some (85, true)⟩, ⟨some 91, .load 2 true (.t 8), some (85, true)⟩, ⟨some 92, .load 2 true (.t 9), some (85, true)⟩, ⟨some 93, .call (.k (.fn 27 [])) [.t 90, .t 91, .t 92], some (85, true)⟩, ⟨some 94, .bin .eql true none (.t 89) (.t 93), some (85, true)⟩, ⟨some 95, .pick (.t 85) (.t 94) (.k (.bool false)), none⟩, ⟨some 96, .mv (.t 95), none⟩, ⟨some 97, .mv (.t 12), some (96, true)⟩, ⟨some 98, .len (.t 97), some (96, true)⟩, ⟨some 99, .mv (.t 11), some (96, true)⟩, ⟨some 100, .len (.t 99), some (96, true)⟩, ⟨some 101, .bin .eql false none (.t 98) (.t 100), some (96, true)⟩, ⟨some 102, .pick (.t 96) (.t 101) (.k (.bool false)), none⟩, ⟨some 103, .mv (.t 102), none⟩, ⟨some 104, .call (.k (.fn 12 [])) [], some (103, true)⟩, ⟨some 105, .pick (.t 103) (.t 104) (.k (.bool false)), none⟩, ⟨some 10, .mv (.t 105), none⟩] [(3, 4), (3, 5), (4, 5), (3, 7), (4, 7), (5, 7), (6, 7), (3, 8), (4, 8), (5, 8), (6, 8), (7, 8), (3, 9), (4, 9), (5, 9), (6, 9), (7, 9), (8, 9), (14, 16), (15, 16), (14, 17), (15, 17)]) .ret)))))))))))⟩
theorem a8_ok : cfun Try.prog Try.f8 = some a8 := by kernel_rfl
def a9 : AFn :=
  ⟨124, [.tmp 4], .seq (.region 0 [⟨some 3, .box 2 (.t 1), none⟩, ⟨some 4, .mv (.k (.bool false)), none⟩]) 
    (.seq 
    (.seq (.region 1 [⟨some 15, .mv (.t 0), none⟩, ⟨some 16, .len (.t 15), none⟩, ⟨some 17, .bin .gtr false none (.t 16) (.k (.int .i64 (60))), none⟩]) (.cond (.t 17) 
    (.seq (.region 2 [⟨some 18, .call (.k (.fn 12 [])) [], none⟩, ⟨some 4, .mv (.t 18), none⟩]) .ret) .skip)) 
    (.seq (.region 3 [⟨some 19, .mv (.t 0), none⟩, ⟨some 20, .call (.k (.fn 29 [])) [.t 19], none⟩, ⟨some 5, .mv (.t 20), none⟩]) 
    (.seq (.region 4 [⟨some 22, .mv (.t 5), none⟩, ⟨some 23, .load 2 true (.t 3), none⟩, ⟨some 24, .call (.k (.fn 20 [])) [.t 22, .t 23], none⟩, ⟨some 21, .mv (.t 24), none⟩, ⟨some 25, .ext (.t 21) 0, none⟩, ⟨some 26, .ext (.t 21) 1, none⟩, ⟨some 6, .mv (.t 25), none⟩, ⟨some 7, .mv (.t 26), none⟩]) 
    (.seq (.region 5 [⟨some 27, .mv (.t 5), none⟩, ⟨some 28, .load 2 true (.t 3), none⟩, ⟨some 29, .call (.k (.fn 25 [])) [.t 27, .t 28], none⟩, ⟨some 8, .mv (.t 29), none⟩]) 
    (.seq 
    (.seq (.region 6 [⟨some 30, .mv (.t 7), none⟩, ⟨some 31, .un .not (.t 30), none⟩]) (.cond (.t 31) 
    (.seq (.region 7 [⟨some 32, .mv (.t 8), none⟩, ⟨some 33, .len (.t 32), none⟩, ⟨some 34, .bin .eql false none (.t 33) (.k (.int .i64 (0))), none⟩, ⟨some 35, .mv (.t 34), none⟩, ⟨some 36, .call (.k (.fn 12 [])) [], some (35, true)⟩, ⟨some 37, .pick (.t 35) (.t 36) (.k (.bool false)), none⟩, ⟨some 4, .mv (.t 37), none⟩]) .ret) .skip)) 
    (.seq (.region 8 [⟨some 9, .mv (.k (.int .i64 (0))), none⟩]) 
    (.seq (.region 9 [⟨some 10, .mv (.k (.int .i64 (0))), none⟩]) 
    (.seq 
    (.seq (.region 10 [⟨some 11, .mv (.k (.int .i64 (0))), none⟩]) (.block 0 (.loop 
    (.seq 
    (.seq (.region 11 [⟨some 38, .mv (.t 11), none⟩, ⟨some 39, .mv (.t 5), none⟩, ⟨some 40, .len (.t 39), none⟩, ⟨some 41, .bin .lss false none (.t 38) (.t 40), none⟩]) (.cond (.t 41) .skip (.exit 0))) 
    (.seq (.block 1 
    (.seq (.region 13 [⟨some 45, .mv (.t 5), none⟩, ⟨some 46, .mv (.t 5), none⟩, ⟨some 47, .mv (.t 11), none⟩, ⟨some 48, .iaddr 4 (.t 46) (.t 47), none⟩, ⟨some 49, .faddr 0 (.t 48), none⟩, ⟨some 50, .load 2 true (.t 49), none⟩, ⟨some 51, .call (.k (.fn 22 [])) [.t 45, .t 50], none⟩, ⟨some 44, .mv (.t 51), none⟩, ⟨some 52, .ext (.t 44) 0, none⟩, ⟨some 53, .ext (.t 44) 1, none⟩, ⟨some 12, .alloc [.int .i64 (0), .int .i64 (0)], none⟩, ⟨none, .store 2 (.t 12) (.t 52), none⟩, ⟨some 13, .mv (.t 53), none⟩]) 
    (.seq 
    (.seq (.region 14 [⟨some 54, .mv (.t 13), none⟩, ⟨some 55, .mv (.t 54), none⟩, ⟨some 56, .load 2 true (.t 12), some (55, true)⟩, ⟨some 57, .load 2 true (.t 3), some (55, true)⟩, ⟨some 58, .bin .eql false (some [true, true]) (.t 56) (.t 57), some (55, true)⟩, ⟨some 59, .pick (.t 55) (.t 58) (.k (.bool false)), none⟩]) (.cond (.t 59) 
    (.seq (.region 15 [⟨some 60, .mv (.t 9), none⟩, ⟨some 61, .bin .add false none (.t 60) (.k (.int .i64 (1))), none⟩, ⟨some 9, .mv (.t 61), none⟩]) (.region 16 [⟨some 62, .mv (.t 10), none⟩, ⟨some 63, .bin .add false none (.t 62) (.k (.int .i64 (1))), none⟩, ⟨some 64, .mv (.t 5), none⟩, ⟨some 65, .mv (.t 5), none⟩, ⟨some 66, .mv (.t 11), none⟩, ⟨some 67, .iaddr 4 (.t 65) (.t 66), none⟩, ⟨some 68, .faddr 0 (.t 67), none⟩, ⟨some 69, .load 2 true (.t 68), none⟩, ⟨some 70, .call (.k (.fn 25 [])) [.t 64, .t 69], none⟩, ⟨some 71, .len (.t 70), none⟩, ⟨some 72, .bin .add false none (.t 63) (.t 71), none⟩, ⟨some 10, .mv (.t 72), none⟩])) .skip)) 
    (.seq (.region 17 [⟨some 73, .mv (.t 13), none⟩, ⟨some 74, .mv (.t 5), none⟩, ⟨some 75, .mv (.t 11), none⟩, ⟨some 76, .iaddr 4 (.t 74) (.t 75), none⟩, ⟨some 77, .faddr 2 (.t 76), none⟩, ⟨some 78, .load 1 false (.t 77), none⟩, ⟨some 79, .bin .eql false none (.t 78) (.k (.int .i64 (0))), none⟩, ⟨some 80, .bin .eql true none (.t 73) (.t 79), none⟩]) (.cond (.t 80) 
    (.seq (.region 18 [⟨some 4, .mv (.k (.bool false)), none⟩]) .ret) .skip))))) (.region 12 [⟨some 42, .mv (.t 11), none⟩, ⟨some 43, .bin .add false none (.t 42) (.k (.int .i64 (1))), none⟩, ⟨some 11, .mv (.t 43), none⟩])))))) 
    (.seq 
    (.seq (.region 19 [⟨some 14, .mv (.k (.int .i64 (0))), none⟩]) (.block 2 (.loop 
    (.seq 
    (.seq (.region 20 [⟨some 81, .mv (.t 14), none⟩, ⟨some 82, .mv (.t 8), none⟩, ⟨some 83, .len (.t 82), none⟩, ⟨some 84, .bin .lss false none (.t 81) (.t 83), none⟩]) (.cond (.t 84) .skip (.exit 2))) 
    (.seq (.block 3 
    (.seq (.dregion 22 [⟨some 87, .mv (.t 6), none⟩, ⟨some 88, .bin .add false none (.t 87) (.k (.int .i64 (1))), none⟩, ⟨some 89, .mv (.t 14), none⟩, ⟨some 90, .bin .add false none (.t 88) (.t 89), none⟩, ⟨some 91, .mv (.t 5), none⟩, ⟨some 92, .len (.t 91), none⟩, ⟨some 93, .bin .geq false none (.t 90) (.t 92), none⟩, ⟨some 94, .mv (.t 93), none⟩, ⟨some 95, .mv (.t 5), some (94, false)⟩, ⟨some 96, .mv (.t 6), some (94, false)⟩, ⟨some 97, .bin .add false none (.t 96) (.k (.int .i64 (1))), some (94, false)⟩, ⟨some 98, .mv (.t 14), some (94, false)⟩, ⟨some 99, .bin .add false none (.t 97) (.t 98), some (94, false)⟩, ⟨some 100, .iaddr 4 (.t 95) (.t 99), some (94, false)⟩, ⟨some 101, .faddr 0 (.t 100), some (94, false)⟩, ⟨some 102, .load 2 true (.t 101), some (94, false)⟩, ⟨some 103, .mv (.t 8), some (94, false)⟩, ⟨some 104, .mv (.t 14), some (94, false)⟩, ⟨some 105, .iaddr 2 (.t 103) (.t 104), some (94, false)⟩, ⟨some 106, .load 2 true (.t 105), some (94, false)⟩, ⟨some 107, .bin .neq false (some [true, true]) (.t 102) (.t 106), some (94, false)⟩, ⟨some 108, .pick (.t 94) (.k (.bool true)) (.t 107), none⟩] [(0, 2), (1, 2), (0, 4), (1, 4), (2, 4), (3, 4), (0, 5), (1, 5), (2, 5), (3, 5), (8, 9), (8, 10), (8, 11), (9, 11), (10, 11), (8, 12), (8, 16), (9, 16), (10, 16), (11, 16), (12, 16), (13, 16), (14, 16), (15, 16), (8, 17), (9, 17), (10, 17), (11, 17), (12, 17), (13, 17), (14, 17), (15, 17), (16, 17), (8, 18), (9, 18), (10, 18), (11, 18), (12, 18), (13, 18), (14, 18), (15, 18), (8, 19), (9, 19), (10, 19), (11, 19), (12, 19), (13, 19), (14, 19), (15, 19)]) (.cond (.t 108) 
    (.seq (.region 23 [⟨some 4, .mv (.k (.bool false)), none⟩]) .ret) .skip))) (.region 21 [⟨some 85, .mv (.t 14), none⟩, ⟨some 86, .bin .add false none (.t 85) (.k (.int .i64 (1))), none⟩, ⟨some 14, .mv (.t 86), none⟩])))))) 
    (.seq (.region 24 [⟨some 109, .mv (.t 10), none⟩, ⟨some 110, .mv (.t 8), none⟩, ⟨some 111, .len (.t 110), none⟩, ⟨some 112, .bin .eql false none (.t 109) (.t 111), none⟩, ⟨some 113, .mv (.t 112), none⟩, ⟨some 114, .mv (.t 9), some (113, true)⟩, ⟨some 115, .bin .eql false none (.t 114) (.k (.int .i64 (0))), some (113, true)⟩, ⟨some 116, .mv (.t 8), some (113, true)⟩, ⟨some 117, .len (.t 116), some (113, true)⟩, ⟨some 118, .bin .eql false none (.t 117) (.k (.int .i64 (0))), some (113, true)⟩, ⟨some 119, .bin .eql true none (.t 115) (.t 118), some (113, true)⟩, ⟨some 120, .pick (.t 113) (.t 119) (.k (.bool false)), none⟩, ⟨some 121, .mv (.t 120), none⟩, ⟨some 122, .call (.k (.fn 12 [])) [], some (121, true)⟩, ⟨some 123, .pick (.t 121) (.t 122) (.k (.bool false)), none⟩, ⟨some 4, .mv (.t 123), none⟩]) .ret))))))))))⟩
theorem a9_ok : cfun Try.prog Try.f9 = some a9 := by kernel_rfl
def a10 : AFn :=
  ⟨70, [.tmp 2], .seq (.region 0 [⟨some 2, .mv (.k (.bool false)), none⟩]) 
    (.seq 
    (.seq (.region 1 [⟨some 7, .mv (.t 0), none⟩, ⟨some 8, .bin .lss false none (.t 7) (.k (.int .i64 (500))), none⟩, ⟨some 9, .mv (.t 8), none⟩, ⟨some 10, .mv (.t 0), some (9, false)⟩, ⟨some 11, .bin .gtr false none (.t 10) (.k (.int .i64 (520))), some (9, false)⟩, ⟨some 12, .pick (.t 9) (.k (.bool true)) (.t 11), none⟩]) (.cond (.t 12) 
    (.seq (.region 2 [⟨some 13, .call (.k (.fn 12 [])) [], none⟩, ⟨some 2, .mv (.t 13), none⟩]) .ret) .skip)) 
    (.seq (.region 3 [⟨some 3, .mv (.k (.sl 4 true [])), none⟩]) 
    (.seq (.region 4 [⟨some 4, .mv (.k (.int .i64 (0))), none⟩]) 
    (.seq 
    (.seq (.region 5 [⟨some 5, .mv (.k (.int .i64 (0))), none⟩]) (.block 0 (.loop 
    (.seq 
    (.seq (.region 6 [⟨some 14, .mv (.t 5), none⟩, ⟨some 15, .mv (.t 0), none⟩, ⟨some 16, .bin .lss false none (.t 14) (.t 15), none⟩]) (.cond (.t 16) .skip (.exit 0))) 
    (.seq (.block 1 
    (.seq (.region 8 [⟨some 19, .mv (.t 5), none⟩, ⟨some 20, .bin .quo false none (.t 19) (.k (.int .i64 (8))), none⟩, ⟨some 21, .mv (.t 5), none⟩, ⟨some 22, .bin .rem false none (.t 21) (.k (.int .i64 (8))), none⟩, ⟨some 23, .build [.int .i64 (0), .int .i64 (0)] [(0, 1), (1, 1)] [(0, .t 20), (1, .t 22)], none⟩, ⟨some 6, .alloc [.int .i64 (0), .int .i64 (0)], none⟩, ⟨none, .store 2 (.t 6) (.t 23), none⟩]) 
    (.seq 
    (.seq (.region 9 [⟨some 24, .mv (.t 5), none⟩, ⟨some 25, .bin .rem false none (.t 24) (.k (.int .i64 (2))), none⟩, ⟨some 26, .bin .eql false none (.t 25) (.k (.int .i64 (0))), none⟩]) (.cond (.t 26) (.region 10 [⟨some 28, .mv (.t 3), none⟩, ⟨some 29, .load 2 true (.t 6), none⟩, ⟨some 30, .call (.k (.fn 34 [])) [.t 28, .t 29], none⟩, ⟨some 27, .mv (.t 30), none⟩, ⟨some 31, .ext (.t 27) 0, none⟩, ⟨some 32, .ext (.t 27) 1, none⟩, ⟨some 3, .mv (.t 31), none⟩, ⟨some 4, .mv (.t 32), none⟩]) (.region 11 [⟨some 34, .mv (.t 3), none⟩, ⟨some 35, .mv (.t 5), none⟩, ⟨some 36, .bin .quo false none (.t 35) (.k (.int .i64 (8))), none⟩, ⟨some 37, .mv (.t 5), none⟩, ⟨some 38, .bin .rem false none (.t 37) (.k (.int .i64 (8))), none⟩, ⟨some 39, .bin .sub false none (.t 38) (.k (.int .i64 (1))), none⟩, ⟨some 40, .build [.int .i64 (0), .int .i64 (0)] [(0, 1), (1, 1)] [(0, .t 36), (1, .t 39)], none⟩, ⟨some 41, .load 2 true (.t 6), none⟩, ⟨some 42, .call (.k (.fn 30 [])) [.t 34, .t 40, .t 41], none⟩, ⟨some 33, .mv (.t 42), none⟩, ⟨some 43, .ext (.t 33) 0, none⟩, ⟨some 44, .ext (.t 33) 1, none⟩, ⟨some 3, .mv (.t 43), none⟩, ⟨some 4, .mv (.t 44), none⟩]))) 
    (.seq (.region 12 [⟨some 45, .mv (.t 4), none⟩, ⟨some 46, .call (.k (.fn 16 [])) [.t 45], none⟩, ⟨some 47, .bin .eql false none (.t 46) (.k (.int .i64 (0))), none⟩, ⟨some 48, .mv (.t 5), none⟩, ⟨some 49, .bin .lss false none (.t 48) (.k (.int .i64 (512))), none⟩, ⟨some 50, .bin .neq true none (.t 47) (.t 49), none⟩, ⟨some 51, .mv (.t 50), none⟩, ⟨some 52, .mv (.t 4), some (51, true)⟩, ⟨some 53, .call (.k (.fn 16 [])) [.t 52], some (51, true)⟩, ⟨some 54, .bin .neq false none (.t 53) (.k (.int .i64 (7))), some (51, true)⟩, ⟨some 55, .pick (.t 51) (.t 54) (.k (.bool false)), none⟩]) (.cond (.t 55) 
    (.seq (.region 13 [⟨some 2, .mv (.k (.bool false)), none⟩]) .ret) .skip))))) (.region 7 [⟨some 17, .mv (.t 5), none⟩, ⟨some 18, .bin .add false none (.t 17) (.k (.int .i64 (1))), none⟩, ⟨some 5, .mv (.t 18), none⟩])))))) 
    (.seq (.region 14 [⟨some 56, .mv (.t 3), none⟩, ⟨some 57, .len (.t 56), none⟩, ⟨some 58, .mv (.t 0), none⟩, ⟨some 59, .mn [.t 58, .k (.int .i64 (512))], none⟩, ⟨some 60, .bin .eql false none (.t 57) (.t 59), none⟩, ⟨some 61, .mv (.t 60), none⟩, ⟨some 62, .mv (.t 3), some (61, true)⟩, ⟨some 63, .call (.k (.fn 17 [])) [.t 62], some (61, true)⟩, ⟨some 64, .call (.k (.fn 16 [])) [.t 63], some (61, true)⟩, ⟨some 65, .bin .eql false none (.t 64) (.k (.int .i64 (0))), some (61, true)⟩, ⟨some 66, .pick (.t 61) (.t 65) (.k (.bool false)), none⟩, ⟨some 67, .mv (.t 66), none⟩, ⟨some 68, .call (.k (.fn 12 [])) [], some (67, true)⟩, ⟨some 69, .pick (.t 67) (.t 68) (.k (.bool false)), none⟩, ⟨some 2, .mv (.t 69), none⟩]) .ret)))))⟩
theorem a10_ok : cfun Try.prog Try.f10 = some a10 := by kernel_rfl
def a11 : AFn :=
  ⟨130, [.tmp 6], .seq (.region 0 [⟨some 4, .box 2 (.t 1), none⟩, ⟨some 5, .box 2 (.t 2), none⟩, ⟨some 6, .mv (.k (.bool false)), none⟩]) 
    (.seq 
    (.seq (.region 1 [⟨some 19, .mv (.t 0), none⟩, ⟨some 20, .len (.t 19), none⟩, ⟨some 21, .bin .gtr false none (.t 20) (.k (.int .i64 (80))), none⟩]) (.cond (.t 21) 
    (.seq (.region 2 [⟨some 22, .call (.k (.fn 35 [])) [], none⟩, ⟨some 6, .mv (.t 22), none⟩]) .ret) .skip)) 
    (.seq (.region 3 [⟨some 7, .mv (.k (.sl 4 true [])), none⟩]) 
    (.seq (.region 4 [⟨some 8, .mv (.k (.sl 5 true [])), none⟩]) 
    (.seq 
    (.seq (.region 5 [⟨some 9, .mv (.k (.int .i64 (0))), none⟩]) (.block 0 (.loop 
    (.seq 
    (.seq (.region 6 [⟨some 23, .mv (.t 9), none⟩, ⟨some 24, .mv (.t 0), none⟩, ⟨some 25, .len (.t 24), none⟩, ⟨some 26, .bin .lss false none (.t 23) (.t 25), none⟩]) (.cond (.t 26) .skip (.exit 0))) 
    (.seq (.block 1 
    (.seq (.region 8 [⟨some 29, .mv (.t 0), none⟩, ⟨some 30, .mv (.t 9), none⟩, ⟨some 31, .iaddr 5 (.t 29) (.t 30), none⟩, ⟨some 32, .load 5 true (.t 31), none⟩, ⟨some 10, .alloc [.int .i64 (0), .int .i64 (0), .int .i64 (0), .int .i64 (0), .int .i64 (0)], none⟩, ⟨none, .store 5 (.t 10) (.t 32), none⟩]) 
    (.seq (.region 9 [⟨some 33, .mv (.t 7), none⟩, ⟨some 11, .mv (.t 33), none⟩]) 
    (.seq (.region 10 [⟨some 12, .mv (.k (.int .i64 (2))), none⟩]) 
    (.seq 
    (.seq (.region 11 [⟨some 34, .faddr 0 (.t 10), none⟩, ⟨some 35, .load 1 false (.t 34), none⟩]) (.block 2 
    (.seq (.region 12 [⟨some 37, .bin .eql false none (.t 35) (.k (.int .i64 (1))), none⟩, ⟨some 36, .mv (.t 37), none⟩]) (.cond (.t 36) (.region 13 [⟨some 39, .mv (.t 7), none⟩, ⟨some 40, .faddr 1 (.t 10), none⟩, ⟨some 41, .load 2 true (.t 40), none⟩, ⟨some 42, .call (.k (.fn 34 [])) [.t 39, .t 41], none⟩, ⟨some 38, .mv (.t 42), none⟩, ⟨some 43, .ext (.t 38) 0, none⟩, ⟨some 44, .ext (.t 38) 1, none⟩, ⟨some 11, .mv (.t 43), none⟩, ⟨some 12, .mv (.t 44), none⟩]) 
    (.seq (.region 14 [⟨some 46, .bin .eql false none (.t 35) (.k (.int .i64 (2))), none⟩, ⟨some 45, .mv (.t 46), none⟩]) (.cond (.t 45) (.region 15 [⟨some 48, .mv (.t 7), none⟩, ⟨some 49, .faddr 3 (.t 10), none⟩, ⟨some 50, .load 2 true (.t 49), none⟩, ⟨some 51, .faddr 1 (.t 10), none⟩, ⟨some 52, .load 2 true (.t 51), none⟩, ⟨some 53, .call (.k (.fn 30 [])) [.t 48, .t 50, .t 52], none⟩, ⟨some 47, .mv (.t 53), none⟩, ⟨some 54, .ext (.t 47) 0, none⟩, ⟨some 55, .ext (.t 47) 1, none⟩, ⟨some 11, .mv (.t 54), none⟩, ⟨some 12, .mv (.t 55), none⟩]) 
    (.seq (.region 16 [⟨some 57, .bin .eql false none (.t 35) (.k (.int .i64 (3))), none⟩, ⟨some 56, .mv (.t 57), none⟩]) (.cond (.t 56) (.region 17 [⟨some 59, .mv (.t 7), none⟩, ⟨some 60, .faddr 3 (.t 10), none⟩, ⟨some 61, .load 2 true (.t 60), none⟩, ⟨some 62, .faddr 1 (.t 10), none⟩, ⟨some 63, .load 2 true (.t 62), none⟩, ⟨some 64, .call (.k (.fn 32 [])) [.t 59, .t 61, .t 63], none⟩, ⟨some 58, .mv (.t 64), none⟩, ⟨some 65, .ext (.t 58) 0, none⟩, ⟨some 66, .ext (.t 58) 1, none⟩, ⟨some 11, .mv (.t 65), none⟩, ⟨some 12, .mv (.t 66), none⟩]) 
    (.seq (.region 18 [⟨some 68, .bin .eql false none (.t 35) (.k (.int .i64 (4))), none⟩, ⟨some 67, .mv (.t 68), none⟩]) (.cond (.t 67) (.region 19 [⟨some 70, .mv (.t 7), none⟩, ⟨some 71, .faddr 1 (.t 10), none⟩, ⟨some 72, .load 2 true (.t 71), none⟩, ⟨some 73, .call (.k (.fn 31 [])) [.t 70, .t 72], none⟩, ⟨some 69, .mv (.t 73), none⟩, ⟨some 74, .ext (.t 69) 0, none⟩, ⟨some 75, .ext (.t 69) 1, none⟩, ⟨some 11, .mv (.t 74), none⟩, ⟨some 12, .mv (.t 75), none⟩]) .skip)))))))))) 
    (.seq 
    (.seq (.region 20 [⟨some 76, .mv (.t 12), none⟩, ⟨some 77, .call (.k (.fn 36 [])) [.t 76], none⟩, ⟨some 78, .bin .eql false none (.t 77) (.k (.int .i64 (0))), none⟩]) (.cond (.t 78) (.region 21 [⟨some 79, .mv (.t 8), none⟩, ⟨some 80, .load 5 true (.t 10), none⟩, ⟨some 81, .bsl 5 1 [(0, .t 80)], none⟩, ⟨some 82, .app 5 40 (.t 79) (.t 81), none⟩, ⟨some 8, .mv (.t 82), none⟩]) .skip)) (.region 22 [⟨some 83, .mv (.t 11), none⟩, ⟨some 7, .mv (.t 83), none⟩]))))))) (.region 7 [⟨some 27, .mv (.t 9), none⟩, ⟨some 28, .bin .add false none (.t 27) (.k (.int .i64 (1))), none⟩, ⟨some 9, .mv (.t 28), none⟩])))))) 
    (.seq (.region 23 [⟨some 85, .mv (.t 8), none⟩, ⟨some 86, .call (.k (.fn 37 [])) [.t 85], none⟩, ⟨some 84, .mv (.t 86), none⟩, ⟨some 87, .ext (.t 84) 0, none⟩, ⟨some 88, .ext (.t 84) 1, none⟩, ⟨some 13, .alloc [.sl 2 true [], .sl 1 true [], .sl 1 true []], none⟩, ⟨none, .store 3 (.t 13) (.t 87), none⟩, ⟨some 14, .mv (.t 88), none⟩]) 
    (.seq (.region 24 [⟨some 90, .load 3 true (.t 13), none⟩, ⟨some 91, .load 2 true (.t 4), none⟩, ⟨some 92, .call (.k (.fn 38 [])) [.t 90, .t 91], none⟩, ⟨some 89, .mv (.t 92), none⟩, ⟨some 93, .ext (.t 89) 0, none⟩, ⟨some 94, .ext (.t 89) 1, none⟩, ⟨some 15, .mv (.t 93), none⟩, ⟨some 16, .mv (.t 94), none⟩]) 
    (.seq (.region 25 [⟨some 96, .mv (.t 7), none⟩, ⟨some 97, .load 2 true (.t 4), none⟩, ⟨some 98, .call (.k (.fn 20 [])) [.t 96, .t 97], none⟩, ⟨some 95, .mv (.t 98), none⟩, ⟨some 99, .ext (.t 95) 0, none⟩, ⟨some 100, .ext (.t 95) 1, none⟩, ⟨some 17, .mv (.t 99), none⟩, ⟨some 18, .mv (.t 100), none⟩]) 
    (.seq (.dregion 26 [⟨some 101, .mv (.t 14), none⟩, ⟨some 102, .bin .eql false none (.t 101) (.k (.int .i64 (0))), none⟩, ⟨some 103, .mv (.t 102), none⟩, ⟨some 104, .mv (.t 16), some (103, true)⟩, ⟨some 105, .mv (.t 18), some (103, true)⟩, ⟨some 106, .bin .eql true none (.t 104) (.t 105), some (103, true)⟩, ⟨some 107, .pick (.t 103) (.t 106) (.k (.bool false)), none⟩, ⟨some 108, .mv (.t 107), none⟩, ⟨some 109, .faddr 0 (.t 13), some (108, true)⟩, ⟨some 110, .load 1 false (.t 109), some (108, true)⟩, ⟨some 111, .len (.t 110), some (108, true)⟩, ⟨some 112, .mv (.t 7), some (108, true)⟩, ⟨some 113, .len (.t 112), some (108, true)⟩, ⟨some 114, .bin .eql false none (.t 111) (.t 113), some (108, true)⟩, ⟨some 115, .pick (.t 108) (.t 114) (.k (.bool false)), none⟩, ⟨some 116, .mv (.t 115), none⟩, ⟨some 117, .load 3 true (.t 13), some (116, true)⟩, ⟨some 118, .load 2 true (.t 4), some (116, true)⟩, ⟨some 119, .load 2 true (.t 5), some (116, true)⟩, ⟨some 120, .call (.k (.fn 39 [])) [.t 117, .t 118, .t 119], some (116, true)⟩, ⟨some 121, .mv (.t 7), some (116, true)⟩, ⟨some 122, .load 2 true (.t 4), some (116, true)⟩, ⟨some 123, .load 2 true (.t 5), some (116, true)⟩, ⟨some 124, .call (.k (.fn 27 [])) [.t 121, .t 122, .t 123], some (116, true)⟩, ⟨some 125, .bin .eql true none (.t 120) (.t 124), some (116, true)⟩, ⟨some 126, .pick (.t 116) (.t 125) (.k (.bool false)), none⟩, ⟨some 127, .mv (.t 126), none⟩, ⟨some 128, .call (.k (.fn 35 [])) [], some (127, true)⟩, ⟨some 129, .pick (.t 127) (.t 128) (.k (.bool false)), none⟩, ⟨some 6, .mv (.t 129), none⟩] [(3, 4), (8, 11), (9, 11), (10, 11), (8, 12), (9, 12), (10, 12), (16, 17), (16, 18), (17, 18), (16, 20), (17, 20), (18, 20), (19, 20), (16, 21), (17, 21), (18, 21), (19, 21), (20, 21), (16, 22), (17, 22), (18, 22), (19, 22), (20, 22), (21, 22)]) .ret))))))))⟩
theorem a11_ok : cfun Try.prog Try.f11 = some a11 := by kernel_rfl
def a12 : AFn :=
  ⟨151, [.tmp 0], .seq (.region 0 [⟨some 0, .mv (.k (.bool false)), none⟩]) 
    (.seq (.region 1 [⟨some 18, .call (.k (.fn 40 [])) [.k (.int .i64 (1))], none⟩, ⟨some 19, .call (.k (.fn 34 [])) [.k (.sl 4 true []), .t 18], none⟩, ⟨some 17, .mv (.t 19), none⟩, ⟨some 20, .ext (.t 17) 0, none⟩, ⟨some 21, .ext (.t 17) 1, none⟩, ⟨some 1, .mv (.t 20), none⟩, ⟨some 2, .mv (.t 21), none⟩]) 
    (.seq (.region 2 [⟨some 23, .mv (.t 1), none⟩, ⟨some 24, .call (.k (.fn 40 [])) [.k (.int .i64 (1))], none⟩, ⟨some 25, .call (.k (.fn 40 [])) [.k (.int .i64 (2))], none⟩, ⟨some 26, .call (.k (.fn 30 [])) [.t 23, .t 24, .t 25], none⟩, ⟨some 22, .mv (.t 26), none⟩, ⟨some 27, .ext (.t 22) 0, none⟩, ⟨some 28, .ext (.t 22) 1, none⟩, ⟨some 1, .mv (.t 27), none⟩, ⟨some 3, .mv (.t 28), none⟩]) 
    (.seq (.region 3 [⟨some 30, .mv (.t 1), none⟩, ⟨some 31, .call (.k (.fn 40 [])) [.k (.int .i64 (1))], none⟩, ⟨some 32, .call (.k (.fn 40 [])) [.k (.int .i64 (3))], none⟩, ⟨some 33, .call (.k (.fn 30 [])) [.t 30, .t 31, .t 32], none⟩, ⟨some 29, .mv (.t 33), none⟩, ⟨some 34, .ext (.t 29) 0, none⟩, ⟨some 35, .ext (.t 29) 1, none⟩, ⟨some 1, .mv (.t 34), none⟩, ⟨some 4, .mv (.t 35), none⟩]) 
    (.seq (.region 4 [⟨some 37, .mv (.t 1), none⟩, ⟨some 38, .call (.k (.fn 40 [])) [.k (.int .i64 (1))], none⟩, ⟨some 39, .call (.k (.fn 31 [])) [.t 37, .t 38], none⟩, ⟨some 36, .mv (.t 39), none⟩, ⟨some 40, .ext (.t 36) 0, none⟩, ⟨some 41, .ext (.t 36) 1, none⟩, ⟨some 5, .mv (.t 40), none⟩, ⟨some 6, .mv (.t 41), none⟩]) 
    (.seq (.region 5 [⟨some 43, .mv (.t 1), none⟩, ⟨some 44, .call (.k (.fn 40 [])) [.k (.int .i64 (2))], none⟩, ⟨some 45, .call (.k (.fn 22 [])) [.t 43, .t 44], none⟩, ⟨some 42, .mv (.t 45), none⟩, ⟨some 46, .ext (.t 42) 0, none⟩, ⟨some 47, .ext (.t 42) 1, none⟩, ⟨some 7, .alloc [.int .i64 (0), .int .i64 (0)], none⟩, ⟨none, .store 2 (.t 7) (.t 46), none⟩, ⟨some 8, .mv (.t 47), none⟩]) 
    (.seq (.region 6 [⟨some 49, .mv (.t 1), none⟩, ⟨some 50, .call (.k (.fn 40 [])) [.k (.int .i64 (1))], none⟩, ⟨some 51, .call (.k (.fn 40 [])) [.k (.int .i64 (4))], none⟩, ⟨some 52, .call (.k (.fn 32 [])) [.t 49, .t 50, .t 51], none⟩, ⟨some 48, .mv (.t 52), none⟩, ⟨some 53, .ext (.t 48) 0, none⟩, ⟨some 54, .ext (.t 48) 1, none⟩, ⟨some 9, .mv (.t 53), none⟩, ⟨some 10, .mv (.t 54), none⟩]) 
    (.seq (.region 7 [⟨some 56, .mv (.t 1), none⟩, ⟨some 57, .call (.k (.fn 40 [])) [.k (.int .i64 (3))], none⟩, ⟨some 58, .call (.k (.fn 33 [])) [.t 56, .t 57, .k (.bool true)], none⟩, ⟨some 55, .mv (.t 58), none⟩, ⟨some 59, .ext (.t 55) 0, none⟩, ⟨some 60, .ext (.t 55) 1, none⟩, ⟨some 11, .mv (.t 59), none⟩, ⟨some 12, .mv (.t 60), none⟩]) 
    (.seq (.region 8 [⟨some 62, .mv (.t 1), none⟩, ⟨some 63, .call (.k (.fn 40 [])) [.k (.int .i64 (3))], none⟩, ⟨some 64, .call (.k (.fn 20 [])) [.t 62, .t 63], none⟩, ⟨some 61, .mv (.t 64), none⟩, ⟨some 65, .ext (.t 61) 0, none⟩, ⟨some 66, .ext (.t 61) 1, none⟩, ⟨some 13, .mv (.t 65), none⟩, ⟨some 14, .mv (.t 66), none⟩]) 
    (.seq (.region 9 [⟨some 68, .mv (.t 1), none⟩, ⟨some 69, .call (.k (.fn 40 [])) [.k (.int .i64 ((-1)))], none⟩, ⟨some 70, .call (.k (.fn 34 [])) [.t 68, .t 69], none⟩, ⟨some 67, .mv (.t 70), none⟩, ⟨some 71, .ext (.t 67) 0, none⟩, ⟨some 72, .ext (.t 67) 1, none⟩, ⟨some 15, .mv (.t 71), none⟩, ⟨some 16, .mv (.t 72), none⟩]) 
    (.seq (.dregion 10 [⟨some 73, .mv (.t 2), none⟩, ⟨some 74, .call (.k (.fn 16 [])) [.t 73], none⟩, ⟨some 75, .mv (.t 3), none⟩, ⟨some 76, .call (.k (.fn 16 [])) [.t 75], none⟩, ⟨some 77, .bin .add false none (.t 74) (.t 76), none⟩, ⟨some 78, .mv (.t 4), none⟩, ⟨some 79, .call (.k (.fn 16 [])) [.t 78], none⟩, ⟨some 80, .bin .add false none (.t 77) (.t 79), none⟩, ⟨some 81, .mv (.t 10), none⟩, ⟨some 82, .call (.k (.fn 16 [])) [.t 81], none⟩, ⟨some 83, .bin .add false none (.t 80) (.t 82), none⟩, ⟨some 84, .mv (.t 12), none⟩, ⟨some 85, .call (.k (.fn 16 [])) [.t 84], none⟩, ⟨some 86, .bin .add false none (.t 83) (.t 85), none⟩, ⟨some 87, .bin .eql false none (.t 86) (.k (.int .i64 (0))), none⟩, ⟨some 88, .mv (.t 87), none⟩, ⟨some 89, .mv (.t 1), some (88, true)⟩, ⟨some 90, .call (.k (.fn 40 [])) [.k (.int .i64 (1))], some (88, true)⟩, ⟨some 91, .call (.k (.fn 25 [])) [.t 89, .t 90], some (88, true)⟩, ⟨some 92, .call (.k (.fn 40 [])) [.k (.int .i64 (3))], some (88, true)⟩, ⟨some 93, .call (.k (.fn 40 [])) [.k (.int .i64 (2))], some (88, true)⟩, ⟨some 94, .bsl 2 2 [(0, .t 92), (1, .t 93)], some (88, true)⟩, ⟨some 95, .call (.k (.fn 24 [])) [.t 91, .t 94], some (88, true)⟩, ⟨some 96, .pick (.t 88) (.t 95) (.k (.bool false)), none⟩, ⟨some 97, .mv (.t 96), none⟩, ⟨some 98, .mv (.t 6), some (97, true)⟩, ⟨some 99, .call (.k (.fn 16 [])) [.t 98], some (97, true)⟩, ⟨some 100, .bin .eql false none (.t 99) (.k (.int .i64 (130))), some (97, true)⟩, ⟨some 101, .pick (.t 97) (.t 100) (.k (.bool false)), none⟩, ⟨some 102, .mv (.t 101), none⟩, ⟨some 103, .mv (.t 8), some (102, true)⟩, ⟨some 104, .pick (.t 102) (.t 103) (.k (.bool false)), none⟩, ⟨some 105, .mv (.t 104), none⟩, ⟨some 106, .load 2 true (.t 7), some (105, true)⟩, ⟨some 107, .call (.k (.fn 40 [])) [.k (.int .i64 (1))], some (105, true)⟩, ⟨some 108, .bin .eql false (some [true, true]) (.t 106) (.t 107), some (105, true)⟩, ⟨some 109, .pick (.t 105) (.t 108) (.k (.bool false)), none⟩, ⟨some 110, .mv (.t 109), none⟩, ⟨some 111, .mv (.t 9), some (110, true)⟩, ⟨some 112, .call (.k (.fn 40 [])) [.k (.int .i64 (2))], some (110, true)⟩, ⟨some 113, .call (.k (.fn 40 [])) [.k (.int .i64 (4))], some (110, true)⟩, ⟨some 114, .call (.k (.fn 27 [])) [.t 111, .t 112, .t 113], some (110, true)⟩, ⟨some 115, .pick (.t 110) (.t 114) (.k (.bool false)), none⟩, ⟨some 116, .mv (.t 115), none⟩, ⟨some 117, .mv (.t 13), some (116, true)⟩, ⟨some 118, .bin .eql false none (.t 117) (.k (.int .i64 (1))), some (116, true)⟩, ⟨some 119, .pick (.t 116) (.t 118) (.k (.bool false)), none⟩, ⟨some 120, .mv (.t 119), none⟩, ⟨some 121, .mv (.t 14), some (120, true)⟩, ⟨some 122, .pick (.t 120) (.t 121) (.k (.bool false)), none⟩, ⟨some 123, .mv (.t 122), none⟩, ⟨some 124, .mv (.t 11), some (123, true)⟩, ⟨some 125, .len (.t 124), some (123, true)⟩, ⟨some 126, .bin .eql false none (.t 125) (.k (.int .i64 (3))), some (123, true)⟩, ⟨some 127, .pick (.t 123) (.t 126) (.k (.bool false)), none⟩, ⟨some 128, .mv (.t 127), none⟩, ⟨some 129, .mv (.t 11), some (128, true)⟩, ⟨some 130, .iaddr 4 (.t 129) (.k (.int .i64 (1))), some (128, true)⟩, ⟨some 131, .faddr 3 (.t 130), some (128, true)⟩, ⟨some 132, .load 1 false (.t 131), some (128, true)⟩, ⟨some 133, .pick (.t 128) (.t 132) (.k (.bool false)), none⟩, ⟨some 134, .mv (.t 133), none⟩, ⟨some 135, .mv (.t 16), some (134, true)⟩, ⟨some 136, .call (.k (.fn 16 [])) [.t 135], some (134, true)⟩, ⟨some 137, .bin .eql false none (.t 136) (.k (.int .i64 (2))), some (134, true)⟩, ⟨some 138, .pick (.t 134) (.t 137) (.k (.bool false)), none⟩, ⟨some 139, .mv (.t 138), none⟩, ⟨some 140, .mv (.t 1), some (139, true)⟩, ⟨some 141, .call (.k (.fn 17 [])) [.t 140], some (139, true)⟩, ⟨some 142, .call (.k (.fn 16 [])) [.t 141], some (139, true)⟩, ⟨some 143, .bin .eql false none (.t 142) (.k (.int .i64 (0))), some (139, true)⟩, ⟨some 144, .pick (.t 139) (.t 143) (.k (.bool false)), none⟩, ⟨some 145, .mv (.t 144), none⟩, ⟨some 146, .mv (.t 1), some (145, true)⟩, ⟨some 147, .mv (.t 11), some (145, true)⟩, ⟨some 148, .call (.k (.fn 19 [])) [.t 146, .t 147], some (145, true)⟩, ⟨some 149, .un .not (.t 148), some (145, true)⟩, ⟨some 150, .pick (.t 145) (.t 149) (.k (.bool false)), none⟩, ⟨some 0, .mv (.t 150), none⟩] [(0, 2), (1, 2), (0, 5), (1, 5), (2, 5), (3, 5), (4, 5), (4, 6), (0, 8), (1, 8), (2, 8), (3, 8), (4, 8), (5, 8), (6, 8), (7, 8), (4, 9), (7, 9), (0, 11), (1, 11), (2, 11), (3, 11), (4, 11), (5, 11), (6, 11), (7, 11), (8, 11), (9, 11), (10, 11), (4, 12), (7, 12), (10, 12), (16, 17), (33, 34), (38, 39), (38, 40), (73, 74)]) .ret))))))))))⟩
theorem a12_ok : cfun Try.prog Try.f12 = some a12 := by kernel_rfl
def a13 : AFn :=
  ⟨63, [.tmp 4, .tmp 5], .seq (.region 0 [⟨some 3, .box 6 (.t 1), none⟩, ⟨some 4, .mv (.k (.sl 4 true [])), none⟩, ⟨some 5, .mv (.k (.int .i64 (0))), none⟩]) 
    (.seq (.region 1 [⟨some 8, .mv (.t 0), none⟩, ⟨some 6, .mv (.t 8), none⟩]) 
    (.seq (.region 2 [⟨some 7, .mv (.k (.int .i64 (0))), none⟩]) 
    (.seq 
    (.seq (.region 3 [⟨some 9, .faddr 0 (.t 3), none⟩, ⟨some 10, .load 1 false (.t 9), none⟩]) (.block 0 
    (.seq (.region 5 [⟨some 21, .bin .eql false none (.t 10) (.k (.int .i64 (0))), none⟩, ⟨some 20, .mv (.t 21), none⟩]) (.cond (.t 20) (.region 6 [⟨some 23, .mv (.t 0), none⟩, ⟨some 24, .faddr 1 (.t 3), none⟩, ⟨some 25, .load 2 true (.t 24), none⟩, ⟨some 26, .call (.k (.fn 34 [])) [.t 23, .t 25], none⟩, ⟨some 22, .mv (.t 26), none⟩, ⟨some 27, .ext (.t 22) 0, none⟩, ⟨some 28, .ext (.t 22) 1, none⟩, ⟨some 6, .mv (.t 27), none⟩, ⟨some 7, .mv (.t 28), none⟩]) 
    (.seq (.region 7 [⟨some 30, .bin .eql false none (.t 10) (.k (.int .i64 (1))), none⟩, ⟨some 29, .mv (.t 30), none⟩]) (.cond (.t 29) (.region 8 [⟨some 32, .mv (.t 0), none⟩, ⟨some 33, .faddr 1 (.t 3), none⟩, ⟨some 34, .load 2 true (.t 33), none⟩, ⟨some 35, .faddr 3 (.t 3), none⟩, ⟨some 36, .load 2 true (.t 35), none⟩, ⟨some 37, .call (.k (.fn 30 [])) [.t 32, .t 34, .t 36], none⟩, ⟨some 31, .mv (.t 37), none⟩, ⟨some 38, .ext (.t 31) 0, none⟩, ⟨some 39, .ext (.t 31) 1, none⟩, ⟨some 6, .mv (.t 38), none⟩, ⟨some 7, .mv (.t 39), none⟩]) 
    (.seq (.region 9 [⟨some 41, .bin .eql false none (.t 10) (.k (.int .i64 (2))), none⟩, ⟨some 40, .mv (.t 41), none⟩]) (.cond (.t 40) (.region 10 [⟨some 43, .mv (.t 0), none⟩, ⟨some 44, .faddr 1 (.t 3), none⟩, ⟨some 45, .load 2 true (.t 44), none⟩, ⟨some 46, .call (.k (.fn 31 [])) [.t 43, .t 45], none⟩, ⟨some 42, .mv (.t 46), none⟩, ⟨some 47, .ext (.t 42) 0, none⟩, ⟨some 48, .ext (.t 42) 1, none⟩, ⟨some 6, .mv (.t 47), none⟩, ⟨some 7, .mv (.t 48), none⟩]) 
    (.seq (.region 11 [⟨some 50, .bin .eql false none (.t 10) (.k (.int .i64 (3))), none⟩, ⟨some 49, .mv (.t 50), none⟩]) (.cond (.t 49) (.region 12 [⟨some 52, .mv (.t 0), none⟩, ⟨some 53, .faddr 1 (.t 3), none⟩, ⟨some 54, .load 2 true (.t 53), none⟩, ⟨some 55, .faddr 3 (.t 3), none⟩, ⟨some 56, .load 2 true (.t 55), none⟩, ⟨some 57, .call (.k (.fn 32 [])) [.t 52, .t 54, .t 56], none⟩, ⟨some 51, .mv (.t 57), none⟩, ⟨some 58, .ext (.t 51) 0, none⟩, ⟨some 59, .ext (.t 51) 1, none⟩, ⟨some 6, .mv (.t 58), none⟩, ⟨some 7, .mv (.t 59), none⟩]) (.region 4 [⟨some 12, .mv (.t 0), none⟩, ⟨some 13, .faddr 1 (.t 3), none⟩, ⟨some 14, .load 2 true (.t 13), none⟩, ⟨some 15, .faddr 5 (.t 3), none⟩, ⟨some 16, .load 1 false (.t 15), none⟩, ⟨some 17, .call (.k (.fn 33 [])) [.t 12, .t 14, .t 16], none⟩, ⟨some 11, .mv (.t 17), none⟩, ⟨some 18, .ext (.t 11) 0, none⟩, ⟨some 19, .ext (.t 11) 1, none⟩, ⟨some 6, .mv (.t 18), none⟩, ⟨some 7, .mv (.t 19), none⟩]))))))))))) 
    (.seq (.region 13 [⟨some 60, .mv (.t 6), none⟩, ⟨some 61, .mv (.t 7), none⟩, ⟨some 62, .call (.k (.fn 16 [])) [.t 61], none⟩, ⟨some 4, .mv (.t 60), none⟩, ⟨some 5, .mv (.t 62), none⟩]) .ret))))⟩
theorem a13_ok : cfun Try.prog Try.f13 = some a13 := by kernel_rfl
def a14 : AFn :=
  ⟨52, [.tmp 4, .tmp 5], .seq (.region 0 [⟨some 3, .box 6 (.t 1), none⟩, ⟨some 4, .mv (.k (.sl 4 true [])), none⟩, ⟨some 5, .mv (.k (.int .i64 (0))), none⟩]) 
    (.seq 
    (.seq (.region 1 [⟨some 6, .faddr 0 (.t 3), none⟩, ⟨some 7, .load 1 false (.t 6), none⟩]) (.block 0 
    (.seq (.region 2 [⟨some 9, .bin .eql false none (.t 7) (.k (.int .i64 (0))), none⟩, ⟨some 8, .mv (.t 9), none⟩]) (.cond (.t 8) 
    (.seq (.region 3 [⟨some 10, .mv (.t 0), none⟩, ⟨some 11, .faddr 1 (.t 3), none⟩, ⟨some 12, .load 2 true (.t 11), none⟩, ⟨some 13, .call (.k (.fn 41 [])) [.t 10, .t 12], none⟩, ⟨some 14, .ext (.t 13) 0, none⟩, ⟨some 15, .ext (.t 13) 1, none⟩, ⟨some 4, .mv (.t 14), none⟩, ⟨some 5, .mv (.t 15), none⟩]) .ret) 
    (.seq (.region 4 [⟨some 17, .bin .eql false none (.t 7) (.k (.int .i64 (1))), none⟩, ⟨some 16, .mv (.t 17), none⟩]) (.cond (.t 16) 
    (.seq (.region 5 [⟨some 18, .mv (.t 0), none⟩, ⟨some 19, .faddr 1 (.t 3), none⟩, ⟨some 20, .load 2 true (.t 19), none⟩, ⟨some 21, .faddr 3 (.t 3), none⟩, ⟨some 22, .load 2 true (.t 21), none⟩, ⟨some 23, .call (.k (.fn 42 [])) [.t 18, .t 20, .t 22], none⟩, ⟨some 24, .ext (.t 23) 0, none⟩, ⟨some 25, .ext (.t 23) 1, none⟩, ⟨some 4, .mv (.t 24), none⟩, ⟨some 5, .mv (.t 25), none⟩]) .ret) 
    (.seq (.region 6 [⟨some 27, .bin .eql false none (.t 7) (.k (.int .i64 (2))), none⟩, ⟨some 26, .mv (.t 27), none⟩]) (.cond (.t 26) 
    (.seq (.region 7 [⟨some 28, .mv (.t 0), none⟩, ⟨some 29, .faddr 1 (.t 3), none⟩, ⟨some 30, .load 2 true (.t 29), none⟩, ⟨some 31, .call (.k (.fn 43 [])) [.t 28, .t 30], none⟩, ⟨some 32, .ext (.t 31) 0, none⟩, ⟨some 33, .ext (.t 31) 1, none⟩, ⟨some 4, .mv (.t 32), none⟩, ⟨some 5, .mv (.t 33), none⟩]) .ret) 
    (.seq (.region 8 [⟨some 35, .bin .eql false none (.t 7) (.k (.int .i64 (3))), none⟩, ⟨some 34, .mv (.t 35), none⟩]) (.cond (.t 34) 
    (.seq (.region 9 [⟨some 36, .mv (.t 0), none⟩, ⟨some 37, .faddr 1 (.t 3), none⟩, ⟨some 38, .load 2 true (.t 37), none⟩, ⟨some 39, .faddr 3 (.t 3), none⟩, ⟨some 40, .load 2 true (.t 39), none⟩, ⟨some 41, .call (.k (.fn 44 [])) [.t 36, .t 38, .t 40], none⟩, ⟨some 42, .ext (.t 41) 0, none⟩, ⟨some 43, .ext (.t 41) 1, none⟩, ⟨some 4, .mv (.t 42), none⟩, ⟨some 5, .mv (.t 43), none⟩]) .ret) .skip)))))))))) 
    (.seq (.region 10 [⟨some 44, .mv (.t 0), none⟩, ⟨some 45, .faddr 1 (.t 3), none⟩, ⟨some 46, .load 2 true (.t 45), none⟩, ⟨some 47, .faddr 5 (.t 3), none⟩, ⟨some 48, .load 1 false (.t 47), none⟩, ⟨some 49, .call (.k (.fn 45 [])) [.t 44, .t 46, .t 48], none⟩, ⟨some 50, .ext (.t 49) 0, none⟩, ⟨some 51, .ext (.t 49) 1, none⟩, ⟨some 4, .mv (.t 50), none⟩, ⟨some 5, .mv (.t 51), none⟩]) .ret))⟩
theorem a14_ok : cfun Try.prog Try.f14 = some a14 := by kernel_rfl
def a15 : AFn :=
  ⟨26, [.tmp 4], .seq (.region 0 [⟨some 4, .mv (.k (.bool false)), none⟩]) 
    (.seq 
    (.seq (.region 1 [⟨some 6, .mv (.t 0), none⟩, ⟨some 7, .len (.t 6), none⟩, ⟨some 8, .mv (.t 1), none⟩, ⟨some 9, .len (.t 8), none⟩, ⟨some 10, .bin .neq false none (.t 7) (.t 9), none⟩]) (.cond (.t 10) 
    (.seq (.region 2 [⟨some 4, .mv (.k (.bool false)), none⟩]) .ret) .skip)) 
    (.seq 
    (.seq (.region 3 [⟨some 5, .mv (.k (.int .i64 (0))), none⟩]) (.block 0 (.loop 
    (.seq 
    (.seq (.region 4 [⟨some 11, .mv (.t 5), none⟩, ⟨some 12, .mv (.t 0), none⟩, ⟨some 13, .len (.t 12), none⟩, ⟨some 14, .bin .lss false none (.t 11) (.t 13), none⟩]) (.cond (.t 14) .skip (.exit 0))) 
    (.seq (.block 1 
    (.seq (.dregion 6 [⟨some 17, .mv (.t 0), none⟩, ⟨some 18, .mv (.t 5), none⟩, ⟨some 19, .iaddr 4 (.t 17) (.t 18), none⟩, ⟨some 20, .load 4 true (.t 19), none⟩, ⟨some 21, .mv (.t 1), none⟩, ⟨some 22, .mv (.t 5), none⟩, ⟨some 23, .iaddr 4 (.t 21) (.t 22), none⟩, ⟨some 24, .load 4 true (.t 23), none⟩, ⟨some 25, .bin .neq false (some [true, true, true, false]) (.t 20) (.t 24), none⟩] [(0, 1), (0, 4), (1, 4), (2, 4), (3, 4), (0, 5), (1, 5), (2, 5), (3, 5), (4, 5), (0, 6), (1, 6), (2, 6), (3, 6), (0, 7), (1, 7), (2, 7), (3, 7)]) (.cond (.t 25) 
    (.seq (.region 7 [⟨some 4, .mv (.k (.bool false)), none⟩]) .ret) .skip))) (.region 5 [⟨some 15, .mv (.t 5), none⟩, ⟨some 16, .bin .add false none (.t 15) (.k (.int .i64 (1))), none⟩, ⟨some 5, .mv (.t 16), none⟩])))))) 
    (.seq (.region 8 [⟨some 4, .mv (.k (.bool true)), none⟩]) .ret)))⟩
theorem a15_ok : cfun Try.prog Try.f15 = some a15 := by kernel_rfl
def a16 : AFn :=
  ⟨4, [.tmp 2], .seq (.region 0 [⟨some 2, .mv (.k (.int .i64 (0))), none⟩]) 
    (.seq (.region 1 [⟨some 3, .mv (.t 0), none⟩, ⟨some 2, .mv (.t 3), none⟩]) .ret)⟩
theorem a16_ok : cfun Try.prog Try.f16 = some a16 := by kernel_rfl
def a17 : AFn :=
  ⟨47, [.tmp 2], .seq (.region 0 [⟨some 2, .mv (.k (.int .i64 (0))), none⟩]) 
    (.seq 
    (.seq (.region 1 [⟨some 7, .mv (.t 0), none⟩, ⟨some 8, .len (.t 7), none⟩, ⟨some 9, .bin .gtr false none (.t 8) (.k (.int .i64 (512))), none⟩]) (.cond (.t 9) 
    (.seq (.region 2 [⟨some 2, .mv (.k (.int .i64 (2))), none⟩]) .ret) .skip)) 
    (.seq (.region 3 [⟨some 10, .mv (.t 0), none⟩, ⟨some 11, .len (.t 10), none⟩, ⟨some 12, .mkmap (some (.t 11)), none⟩, ⟨some 3, .mv (.t 12), none⟩]) 
    (.seq (.region 4 [⟨some 4, .mv (.k (.int .i64 (0))), none⟩]) 
    (.seq 
    (.seq (.region 5 [⟨some 13, .mv (.t 0), none⟩, ⟨some 14, .len (.t 13), none⟩, ⟨some 15, .mv (.k (.int .i64 (0))), none⟩]) (.block 0 (.loop 
    (.seq (.region 6 [⟨some 16, .bin .lss false none (.t 15) (.t 14), none⟩]) 
    (.seq (.cond (.t 16) .skip (.exit 0)) 
    (.seq (.block 1 
    (.seq (.region 7 [⟨some 17, .iaddr 4 (.t 13) (.t 15), none⟩, ⟨some 18, .load 4 true (.t 17), none⟩, ⟨some 6, .alloc [.int .i64 (0), .int .i64 (0), .int .i64 (0), .bool false], none⟩, ⟨none, .store 4 (.t 6) (.t 18), none⟩]) 
    (.seq 
    (.seq (.region 8 [⟨some 19, .mv (.t 3), none⟩, ⟨some 20, .faddr 0 (.t 6), none⟩, ⟨some 21, .load 2 true (.t 20), none⟩, ⟨some 22, .look true [true, true] (.bool false) false (.t 19) (.t 21), none⟩, ⟨some 23, .mv (.t 22), none⟩, ⟨some 24, .faddr 0 (.t 6), some (23, false)⟩, ⟨some 25, .load 2 true (.t 24), some (23, false)⟩, ⟨some 26, .call (.k (.fn 46 [])) [.t 25], some (23, false)⟩, ⟨some 27, .bin .neq false none (.t 26) (.k (.int .i64 (0))), some (23, false)⟩, ⟨some 28, .pick (.t 23) (.k (.bool true)) (.t 27), none⟩, ⟨some 29, .mv (.t 28), none⟩, ⟨some 30, .faddr 2 (.t 6), some (29, false)⟩, ⟨some 31, .load 1 false (.t 30), some (29, false)⟩, ⟨some 32, .bin .lss false none (.t 31) (.k (.int .i64 (0))), some (29, false)⟩, ⟨some 33, .pick (.t 29) (.k (.bool true)) (.t 32), none⟩, ⟨some 34, .mv (.t 33), none⟩, ⟨some 35, .faddr 2 (.t 6), some (34, false)⟩, ⟨some 36, .load 1 false (.t 35), some (34, false)⟩, ⟨some 37, .mv (.t 4), some (34, false)⟩, ⟨some 38, .bin .gtr false none (.t 36) (.t 37), some (34, false)⟩, ⟨some 39, .pick (.t 34) (.k (.bool true)) (.t 38), none⟩]) (.cond (.t 39) 
    (.seq (.region 9 [⟨some 2, .mv (.k (.int .i64 (2))), none⟩]) .ret) .skip)) 
    (.seq (.region 10 [⟨some 40, .mv (.t 3), none⟩, ⟨some 41, .faddr 0 (.t 6), none⟩, ⟨some 42, .load 2 true (.t 41), none⟩, ⟨none, .mput true [true, true] (.t 40) (.t 42) (.k (.bool true)), none⟩]) (.region 11 [⟨some 43, .faddr 2 (.t 6), none⟩, ⟨some 44, .load 1 false (.t 43), none⟩, ⟨some 45, .bin .add false none (.t 44) (.k (.int .i64 (1))), none⟩, ⟨some 4, .mv (.t 45), none⟩]))))) (.region 12 [⟨some 46, .bin .add false none (.t 15) (.k (.int .i64 (1))), none⟩, ⟨some 15, .mv (.t 46), none⟩]))))))) 
    (.seq (.region 13 [⟨some 2, .mv (.k (.int .i64 (0))), none⟩]) .ret)))))⟩
theorem a17_ok : cfun Try.prog Try.f17 = some a17 := by kernel_rfl
def a18 : AFn :=
  ⟨76, [.tmp 2], .seq (.region 0 [⟨some 2, .mv (.k (.bool false)), none⟩]) 
    (.seq 
    (.seq (.region 1 [⟨some 6, .mv (.t 0), none⟩, ⟨some 7, .len (.t 6), none⟩, ⟨some 8, .bin .gtr false none (.t 7) (.k (.int .i64 (512))), none⟩]) (.cond (.t 8) 
    (.seq (.region 2 [⟨some 2, .mv (.k (.bool false)), none⟩]) .ret) .skip)) 
    (.seq 
    (.seq (.region 3 [⟨some 3, .mv (.k (.int .i64 (0))), none⟩]) (.block 0 (.loop 
    (.seq 
    (.seq (.region 4 [⟨some 9, .mv (.t 3), none⟩, ⟨some 10, .mv (.t 0), none⟩, ⟨some 11, .len (.t 10), none⟩, ⟨some 12, .bin .lss false none (.t 9) (.t 11), none⟩]) (.cond (.t 12) .skip (.exit 0))) 
    (.seq (.block 1 
    (.seq (.region 6 [⟨some 16, .mv (.t 0), none⟩, ⟨some 17, .mv (.t 0), none⟩, ⟨some 18, .mv (.t 3), none⟩, ⟨some 19, .iaddr 4 (.t 17) (.t 18), none⟩, ⟨some 20, .faddr 0 (.t 19), none⟩, ⟨some 21, .load 2 true (.t 20), none⟩, ⟨some 22, .call (.k (.fn 21 [])) [.t 16, .t 21], none⟩, ⟨some 15, .mv (.t 22), none⟩, ⟨some 23, .ext (.t 15) 0, none⟩, ⟨some 24, .ext (.t 15) 1, none⟩, ⟨some 4, .mv (.t 23), none⟩, ⟨some 5, .mv (.t 24), none⟩]) 
    (.seq (.dregion 7 [⟨some 25, .mv (.t 4), none⟩, ⟨some 26, .mv (.t 3), none⟩, ⟨some 27, .bin .neq false none (.t 25) (.t 26), none⟩, ⟨some 28, .mv (.t 27), none⟩, ⟨some 29, .mv (.t 0), some (28, false)⟩, ⟨some 30, .mv (.t 3), some (28, false)⟩, ⟨some 31, .iaddr 4 (.t 29) (.t 30), some (28, false)⟩, ⟨some 32, .faddr 0 (.t 31), some (28, false)⟩, ⟨some 33, .load 2 true (.t 32), some (28, false)⟩, ⟨some 34, .call (.k (.fn 47 [])) [.t 33], some (28, false)⟩, ⟨some 35, .un .not (.t 34), some (28, false)⟩, ⟨some 36, .pick (.t 28) (.k (.bool true)) (.t 35), none⟩, ⟨some 37, .mv (.t 36), none⟩, ⟨some 38, .mv (.t 0), some (37, false)⟩, ⟨some 39, .mv (.t 3), some (37, false)⟩, ⟨some 40, .iaddr 4 (.t 38) (.t 39), some (37, false)⟩, ⟨some 41, .faddr 2 (.t 40), some (37, false)⟩, ⟨some 42, .load 1 false (.t 41), some (37, false)⟩, ⟨some 43, .bin .lss false none (.t 42) (.k (.int .i64 (0))), some (37, false)⟩, ⟨some 44, .pick (.t 37) (.k (.bool true)) (.t 43), none⟩, ⟨some 45, .mv (.t 44), none⟩, ⟨some 46, .mv (.t 3), some (45, false)⟩, ⟨some 47, .bin .eql false none (.t 46) (.k (.int .i64 (0))), some (45, false)⟩, ⟨some 48, .mv (.t 47), some (45, false)⟩, ⟨some 49, .mv (.t 0), some (48, true)⟩, ⟨some 50, .mv (.t 3), some (48, true)⟩, ⟨some 51, .iaddr 4 (.t 49) (.t 50), some (48, true)⟩, ⟨some 52, .faddr 2 (.t 51), some (48, true)⟩, ⟨some 53, .load 1 false (.t 52), some (48, true)⟩, ⟨some 54, .bin .neq false none (.t 53) (.k (.int .i64 (0))), some (48, true)⟩, ⟨some 55, .pick (.t 48) (.t 54) (.k (.bool false)), some (45, false)⟩, ⟨some 56, .pick (.t 45) (.k (.bool true)) (.t 55), none⟩, ⟨some 57, .mv (.t 56), none⟩, ⟨some 58, .mv (.t 3), some (57, false)⟩, ⟨some 59, .bin .gtr false none (.t 58) (.k (.int .i64 (0))), some (57, false)⟩, ⟨some 60, .mv (.t 59), some (57, false)⟩, ⟨some 61, .mv (.t 0), some (60, true)⟩, ⟨some 62, .mv (.t 3), some (60, true)⟩, ⟨some 63, .iaddr 4 (.t 61) (.t 62), some (60, true)⟩, ⟨some 64, .faddr 2 (.t 63), some (60, true)⟩, ⟨some 65, .load 1 false (.t 64), some (60, true)⟩, ⟨some 66, .mv (.t 0), some (60, true)⟩, ⟨some 67, .mv (.t 3), some (60, true)⟩, ⟨some 68, .bin .sub false none (.t 67) (.k (.int .i64 (1))), some (60, true)⟩, ⟨some 69, .iaddr 4 (.t 66) (.t 68), some (60, true)⟩, ⟨some 70, .faddr 2 (.t 69), some (60, true)⟩, ⟨some 71, .load 1 false (.t 70), some (60, true)⟩, ⟨some 72, .bin .add false none (.t 71) (.k (.int .i64 (1))), some (60, true)⟩, ⟨some 73, .bin .gtr false none (.t 65) (.t 72), some (60, true)⟩, ⟨some 74, .pick (.t 60) (.t 73) (.k (.bool false)), some (57, false)⟩, ⟨some 75, .pick (.t 57) (.k (.bool true)) (.t 74), none⟩] [(0, 1), (4, 5), (13, 14), (24, 25), (36, 37), (36, 41), (37, 41), (38, 41), (39, 41), (40, 41), (36, 42), (37, 42), (38, 42), (39, 42), (40, 42), (41, 42), (36, 43), (37, 43), (38, 43), (39, 43), (40, 43), (41, 43), (36, 44), (37, 44), (38, 44), (39, 44), (40, 44), (36, 45), (37, 45), (38, 45), (39, 45), (40, 45), (36, 46), (37, 46), (38, 46), (39, 46), (40, 46), (36, 47), (37, 47), (38, 47), (39, 47), (40, 47)]) (.cond (.t 75) 
    (.seq (.region 8 [⟨some 2, .mv (.k (.bool false)), none⟩]) .ret) .skip)))) (.region 5 [⟨some 13, .mv (.t 3), none⟩, ⟨some 14, .bin .add false none (.t 13) (.k (.int .i64 (1))), none⟩, ⟨some 3, .mv (.t 14), none⟩])))))) 
    (.seq (.region 9 [⟨some 2, .mv (.k (.bool true)), none⟩]) .ret)))⟩
theorem a18_ok : cfun Try.prog Try.f18 = some a18 := by kernel_rfl
def a19 : AFn :=
  ⟨8, [.tmp 4], .seq (.region 0 [⟨some 4, .mv (.k (.bool false)), none⟩]) 
    (.seq (.region 1 [⟨some 5, .mv (.t 0), none⟩, ⟨some 6, .mv (.t 1), none⟩, ⟨some 7, .call (.k (.fn 48 [])) [.t 5, .t 6], none⟩, ⟨some 4, .mv (.t 7), none⟩]) .ret)⟩
theorem a19_ok : cfun Try.prog Try.f19 = some a19 := by kernel_rfl
def a20 : AFn :=
  ⟨14, [.tmp 4, .tmp 5], .seq (.region 0 [⟨some 3, .box 2 (.t 1), none⟩, ⟨some 4, .mv (.k (.int .i64 (0))), none⟩, ⟨some 5, .mv (.k (.bool false)), none⟩]) 
    (.seq (.region 1 [⟨some 7, .mv (.t 0), none⟩, ⟨some 8, .mkfn 50 [.t 3], none⟩, ⟨some 9, .call (.k (.fn 49 [])) [.t 7, .t 8], none⟩, ⟨some 6, .mv (.t 9), none⟩]) 
    (.seq (.region 2 [⟨some 10, .mv (.t 6), none⟩, ⟨some 11, .mx [.t 10, .k (.int .i64 (0))], none⟩, ⟨some 12, .mv (.t 6), none⟩, ⟨some 13, .bin .geq false none (.t 12) (.k (.int .i64 (0))), none⟩, ⟨some 4, .mv (.t 11), none⟩, ⟨some 5, .mv (.t 13), none⟩]) .ret))⟩
theorem a20_ok : cfun Try.prog Try.f20 = some a20 := by kernel_rfl
def a21 : AFn :=
  ⟨21, [.tmp 4, .tmp 5], .seq (.region 0 [⟨some 3, .box 2 (.t 1), none⟩, ⟨some 4, .mv (.k (.int .i64 (0))), none⟩, ⟨some 5, .mv (.k (.bool false)), none⟩]) 
    (.seq 
    (.seq (.region 1 [⟨some 6, .mv (.k (.int .i64 (0))), none⟩]) (.block 0 (.loop 
    (.seq 
    (.seq (.region 2 [⟨some 7, .mv (.t 6), none⟩, ⟨some 8, .mv (.t 0), none⟩, ⟨some 9, .len (.t 8), none⟩, ⟨some 10, .bin .lss false none (.t 7) (.t 9), none⟩]) (.cond (.t 10) .skip (.exit 0))) 
    (.seq (.block 1 
    (.seq (.dregion 4 [⟨some 13, .mv (.t 0), none⟩, ⟨some 14, .mv (.t 6), none⟩, ⟨some 15, .iaddr 4 (.t 13) (.t 14), none⟩, ⟨some 16, .faddr 0 (.t 15), none⟩, ⟨some 17, .load 2 true (.t 16), none⟩, ⟨some 18, .load 2 true (.t 3), none⟩, ⟨some 19, .bin .eql false (some [true, true]) (.t 17) (.t 18), none⟩] [(0, 1), (0, 5), (1, 5), (2, 5), (3, 5), (4, 5)]) (.cond (.t 19) 
    (.seq (.region 5 [⟨some 20, .mv (.t 6), none⟩, ⟨some 4, .mv (.t 20), none⟩, ⟨some 5, .mv (.k (.bool true)), none⟩]) .ret) .skip))) (.region 3 [⟨some 11, .mv (.t 6), none⟩, ⟨some 12, .bin .add false none (.t 11) (.k (.int .i64 (1))), none⟩, ⟨some 6, .mv (.t 12), none⟩])))))) 
    (.seq (.region 6 [⟨some 4, .mv (.k (.int .i64 (0))), none⟩, ⟨some 5, .mv (.k (.bool false)), none⟩]) .ret))⟩
theorem a21_ok : cfun Try.prog Try.f21 = some a21 := by kernel_rfl
def a22 : AFn :=
  ⟨41, [.cell 4 2 true, .tmp 5], .seq (.region 0 [⟨some 3, .box 2 (.t 1), none⟩, ⟨some 4, .alloc [.int .i64 (0), .int .i64 (0)], none⟩, ⟨some 5, .mv (.k (.bool false)), none⟩]) 
    (.seq (.region 1 [⟨some 10, .mv (.t 0), none⟩, ⟨some 11, .load 2 true (.t 3), none⟩, ⟨some 12, .call (.k (.fn 20 [])) [.t 10, .t 11], none⟩, ⟨some 9, .mv (.t 12), none⟩, ⟨some 13, .ext (.t 9) 0, none⟩, ⟨some 14, .ext (.t 9) 1, none⟩, ⟨some 6, .mv (.t 13), none⟩, ⟨some 7, .mv (.t 14), none⟩]) 
    (.seq 
    (.seq (.region 2 [⟨some 15, .mv (.t 6), none⟩, ⟨some 16, .bin .sub false none (.t 15) (.k (.int .i64 (1))), none⟩, ⟨some 8, .mv (.t 16), none⟩]) (.block 0 (.loop 
    (.seq 
    (.seq (.region 3 [⟨some 17, .mv (.t 7), none⟩, ⟨some 18, .mv (.t 17), none⟩, ⟨some 19, .mv (.t 8), some (18, true)⟩, ⟨some 20, .bin .geq false none (.t 19) (.k (.int .i64 (0))), some (18, true)⟩, ⟨some 21, .pick (.t 18) (.t 20) (.k (.bool false)), none⟩]) (.cond (.t 21) .skip (.exit 0))) 
    (.seq (.block 1 
    (.seq (.dregion 5 [⟨some 24, .mv (.t 0), none⟩, ⟨some 25, .mv (.t 8), none⟩, ⟨some 26, .iaddr 4 (.t 24) (.t 25), none⟩, ⟨some 27, .faddr 2 (.t 26), none⟩, ⟨some 28, .load 1 false (.t 27), none⟩, ⟨some 29, .mv (.t 0), none⟩, ⟨some 30, .mv (.t 6), none⟩, ⟨some 31, .iaddr 4 (.t 29) (.t 30), none⟩, ⟨some 32, .faddr 2 (.t 31), none⟩, ⟨some 33, .load 1 false (.t 32), none⟩, ⟨some 34, .bin .lss false none (.t 28) (.t 33), none⟩] [(0, 1), (0, 5), (1, 5), (2, 5), (3, 5), (4, 5), (0, 6), (1, 6), (2, 6), (3, 6), (4, 6), (5, 6), (0, 7), (1, 7), (2, 7), (3, 7), (4, 7), (0, 8), (1, 8), (2, 8), (3, 8), (4, 8), (0, 9), (1, 9), (2, 9), (3, 9), (4, 9)]) (.cond (.t 34) 
    (.seq (.region 6 [⟨some 35, .mv (.t 0), none⟩, ⟨some 36, .mv (.t 8), none⟩, ⟨some 37, .iaddr 4 (.t 35) (.t 36), none⟩, ⟨some 38, .faddr 0 (.t 37), none⟩, ⟨some 39, .load 2 true (.t 38), none⟩, ⟨none, .store 2 (.t 4) (.t 39), none⟩, ⟨some 5, .mv (.k (.bool true)), none⟩]) .ret) .skip))) (.region 4 [⟨some 22, .mv (.t 8), none⟩, ⟨some 23, .bin .sub false none (.t 22) (.k (.int .i64 (1))), none⟩, ⟨some 8, .mv (.t 23), none⟩])))))) 
    (.seq (.region 7 [⟨some 40, .build [.int .i64 (0), .int .i64 (0)] [(0, 1), (1, 1)] [], none⟩, ⟨none, .store 2 (.t 4) (.t 40), none⟩, ⟨some 5, .mv (.k (.bool false)), none⟩]) .ret)))⟩
theorem a22_ok : cfun Try.prog Try.f22 = some a22 := by kernel_rfl
def a23 : AFn :=
  ⟨41, [.cell 4 2 true, .tmp 5], .seq (.region 0 [⟨some 3, .box 2 (.t 1), none⟩, ⟨some 4, .alloc [.int .i64 (0), .int .i64 (0)], none⟩, ⟨some 5, .mv (.k (.bool false)), none⟩]) 
    (.seq (.region 1 [⟨some 10, .mv (.t 0), none⟩, ⟨some 11, .load 2 true (.t 3), none⟩, ⟨some 12, .call (.k (.fn 21 [])) [.t 10, .t 11], none⟩, ⟨some 9, .mv (.t 12), none⟩, ⟨some 13, .ext (.t 9) 0, none⟩, ⟨some 14, .ext (.t 9) 1, none⟩, ⟨some 6, .mv (.t 13), none⟩, ⟨some 7, .mv (.t 14), none⟩]) 
    (.seq 
    (.seq (.region 2 [⟨some 15, .mv (.t 7), none⟩, ⟨some 16, .un .not (.t 15), none⟩]) (.cond (.t 16) 
    (.seq (.region 3 [⟨some 17, .build [.int .i64 (0), .int .i64 (0)] [(0, 1), (1, 1)] [], none⟩, ⟨none, .store 2 (.t 4) (.t 17), none⟩, ⟨some 5, .mv (.k (.bool false)), none⟩]) .ret) .skip)) 
    (.seq 
    (.seq (.region 4 [⟨some 18, .mv (.t 6), none⟩, ⟨some 19, .bin .sub false none (.t 18) (.k (.int .i64 (1))), none⟩, ⟨some 8, .mv (.t 19), none⟩]) (.block 0 (.loop 
    (.seq 
    (.seq (.region 5 [⟨some 20, .mv (.t 8), none⟩, ⟨some 21, .bin .geq false none (.t 20) (.k (.int .i64 (0))), none⟩]) (.cond (.t 21) .skip (.exit 0))) 
    (.seq (.block 1 
    (.seq (.dregion 7 [⟨some 24, .mv (.t 0), none⟩, ⟨some 25, .mv (.t 8), none⟩, ⟨some 26, .iaddr 4 (.t 24) (.t 25), none⟩, ⟨some 27, .faddr 2 (.t 26), none⟩, ⟨some 28, .load 1 false (.t 27), none⟩, ⟨some 29, .mv (.t 0), none⟩, ⟨some 30, .mv (.t 6), none⟩, ⟨some 31, .iaddr 4 (.t 29) (.t 30), none⟩, ⟨some 32, .faddr 2 (.t 31), none⟩, ⟨some 33, .load 1 false (.t 32), none⟩, ⟨some 34, .bin .lss false none (.t 28) (.t 33), none⟩] [(0, 1), (0, 5), (1, 5), (2, 5), (3, 5), (4, 5), (0, 6), (1, 6), (2, 6), (3, 6), (4, 6), (5, 6), (0, 7), (1, 7), (2, 7), (3, 7), (4, 7), (0, 8), (1, 8), (2, 8), (3, 8), (4, 8), (0, 9), (1, 9), (2, 9), (3, 9), (4, 9)]) (.cond (.t 34) 
    (.seq (.region 8 [⟨some 35, .mv (.t 0), none⟩, ⟨some 36, .mv (.t 8), none⟩, ⟨some 37, .iaddr 4 (.t 35) (.t 36), none⟩, ⟨some 38, .faddr 0 (.t 37), none⟩, ⟨some 39, .load 2 true (.t 38), none⟩, ⟨none, .store 2 (.t 4) (.t 39), none⟩, ⟨some 5, .mv (.k (.bool true)), none⟩]) .ret) .skip))) (.region 6 [⟨some 22, .mv (.t 8), none⟩, ⟨some 23, .bin .sub false none (.t 22) (.k (.int .i64 (1))), none⟩, ⟨some 8, .mv (.t 23), none⟩])))))) 
    (.seq (.region 9 [⟨some 40, .build [.int .i64 (0), .int .i64 (0)] [(0, 1), (1, 1)] [], none⟩, ⟨none, .store 2 (.t 4) (.t 40), none⟩, ⟨some 5, .mv (.k (.bool false)), none⟩]) .ret))))⟩
theorem a23_ok : cfun Try.prog Try.f23 = some a23 := by kernel_rfl
def a24 : AFn :=
  ⟨26, [.tmp 4], .seq (.region 0 [⟨some 4, .mv (.k (.bool false)), none⟩]) 
    (.seq 
    (.seq (.region 1 [⟨some 6, .mv (.t 0), none⟩, ⟨some 7, .len (.t 6), none⟩, ⟨some 8, .mv (.t 1), none⟩, ⟨some 9, .len (.t 8), none⟩, ⟨some 10, .bin .neq false none (.t 7) (.t 9), none⟩]) (.cond (.t 10) 
    (.seq (.region 2 [⟨some 4, .mv (.k (.bool false)), none⟩]) .ret) .skip)) 
    (.seq 
    (.seq (.region 3 [⟨some 5, .mv (.k (.int .i64 (0))), none⟩]) (.block 0 (.loop 
    (.seq 
    (.seq (.region 4 [⟨some 11, .mv (.t 5), none⟩, ⟨some 12, .mv (.t 0), none⟩, ⟨some 13, .len (.t 12), none⟩, ⟨some 14, .bin .lss false none (.t 11) (.t 13), none⟩]) (.cond (.t 14) .skip (.exit 0))) 
    (.seq (.block 1 
    (.seq (.dregion 6 [⟨some 17, .mv (.t 0), none⟩, ⟨some 18, .mv (.t 5), none⟩, ⟨some 19, .iaddr 2 (.t 17) (.t 18), none⟩, ⟨some 20, .load 2 true (.t 19), none⟩, ⟨some 21, .mv (.t 1), none⟩, ⟨some 22, .mv (.t 5), none⟩, ⟨some 23, .iaddr 2 (.t 21) (.t 22), none⟩, ⟨some 24, .load 2 true (.t 23), none⟩, ⟨some 25, .bin .neq false (some [true, true]) (.t 20) (.t 24), none⟩] [(0, 1), (0, 4), (1, 4), (2, 4), (3, 4), (0, 5), (1, 5), (2, 5), (3, 5), (4, 5), (0, 6), (1, 6), (2, 6), (3, 6), (0, 7), (1, 7), (2, 7), (3, 7)]) (.cond (.t 25) 
    (.seq (.region 7 [⟨some 4, .mv (.k (.bool false)), none⟩]) .ret) .skip))) (.region 5 [⟨some 15, .mv (.t 5), none⟩, ⟨some 16, .bin .add false none (.t 15) (.k (.int .i64 (1))), none⟩, ⟨some 5, .mv (.t 16), none⟩])))))) 
    (.seq (.region 8 [⟨some 4, .mv (.k (.bool true)), none⟩]) .ret)))⟩
theorem a24_ok : cfun Try.prog Try.f24 = some a24 := by kernel_rfl
def a25 : AFn :=
  ⟨19, [.tmp 4], .seq (.region 0 [⟨some 3, .box 2 (.t 1), none⟩, ⟨some 4, .mv (.k (.sl 2 true [])), none⟩]) 
    (.seq (.region 1 [⟨some 8, .mv (.t 0), none⟩, ⟨some 9, .load 2 true (.t 3), none⟩, ⟨some 10, .call (.k (.fn 20 [])) [.t 8, .t 9], none⟩, ⟨some 7, .mv (.t 10), none⟩, ⟨some 11, .ext (.t 7) 0, none⟩, ⟨some 12, .ext (.t 7) 1, none⟩, ⟨some 5, .mv (.t 11), none⟩, ⟨some 6, .mv (.t 12), none⟩]) 
    (.seq 
    (.seq (.region 2 [⟨some 13, .mv (.t 6), none⟩, ⟨some 14, .un .not (.t 13), none⟩]) (.cond (.t 14) 
    (.seq (.region 3 [⟨some 4, .mv (.k (.sl 2 true [])), none⟩]) .ret) .skip)) 
    (.seq (.region 4 [⟨some 15, .mv (.t 0), none⟩, ⟨some 16, .mv (.t 5), none⟩, ⟨some 17, .call (.k (.fn 52 [])) [.t 15, .t 16], none⟩, ⟨some 18, .call (.k (.fn 51 [])) [.t 17], none⟩, ⟨some 4, .mv (.t 18), none⟩]) .ret)))⟩
theorem a25_ok : cfun Try.prog Try.f25 = some a25 := by kernel_rfl
def a26 : AFn :=
  ⟨35, [.tmp 4], .seq (.region 0 [⟨some 3, .box 2 (.t 1), none⟩, ⟨some 4, .mv (.k (.sl 2 true [])), none⟩]) 
    (.seq (.region 1 [⟨some 10, .mv (.t 0), none⟩, ⟨some 11, .load 2 true (.t 3), none⟩, ⟨some 12, .call (.k (.fn 21 [])) [.t 10, .t 11], none⟩, ⟨some 9, .mv (.t 12), none⟩, ⟨some 13, .ext (.t 9) 0, none⟩, ⟨some 14, .ext (.t 9) 1, none⟩, ⟨some 5, .mv (.t 13), none⟩, ⟨some 6, .mv (.t 14), none⟩]) 
    (.seq (.region 2 [⟨some 7, .mv (.k (.sl 2 true [])), none⟩]) 
    (.seq 
    (.seq (.region 3 [⟨some 15, .mv (.t 6), none⟩]) (.cond (.t 15) 
    (.seq (.region 4 [⟨some 8, .mv (.k (.int .i64 (0))), none⟩]) (.block 0 (.loop 
    (.seq 
    (.seq (.region 5 [⟨some 16, .mv (.t 8), none⟩, ⟨some 17, .mv (.t 0), none⟩, ⟨some 18, .mv (.t 5), none⟩, ⟨some 19, .call (.k (.fn 53 [])) [.t 17, .t 18], none⟩, ⟨some 20, .bin .lss false none (.t 16) (.t 19), none⟩]) (.cond (.t 20) .skip (.exit 0))) 
    (.seq (.block 1 (.region 7 [⟨some 23, .mv (.t 7), none⟩, ⟨some 24, .mv (.t 0), none⟩, ⟨some 25, .mv (.t 5), none⟩, ⟨some 26, .bin .add false none (.t 25) (.k (.int .i64 (1))), none⟩, ⟨some 27, .mv (.t 8), none⟩, ⟨some 28, .bin .add false none (.t 26) (.t 27), none⟩, ⟨some 29, .iaddr 4 (.t 24) (.t 28), none⟩, ⟨some 30, .faddr 0 (.t 29), none⟩, ⟨some 31, .load 2 true (.t 30), none⟩, ⟨some 32, .bsl 2 1 [(0, .t 31)], none⟩, ⟨some 33, .app 2 16 (.t 23) (.t 32), none⟩, ⟨some 7, .mv (.t 33), none⟩])) (.region 6 [⟨some 21, .mv (.t 8), none⟩, ⟨some 22, .bin .add false none (.t 21) (.k (.int .i64 (1))), none⟩, ⟨some 8, .mv (.t 22), none⟩])))))) .skip)) 
    (.seq (.region 8 [⟨some 34, .mv (.t 7), none⟩, ⟨some 4, .mv (.t 34), none⟩]) .ret))))⟩
theorem a26_ok : cfun Try.prog Try.f26 = some a26 := by kernel_rfl
def a27 : AFn :=
  ⟨12, [.tmp 6], .seq (.region 0 [⟨some 4, .box 2 (.t 1), none⟩, ⟨some 5, .box 2 (.t 2), none⟩, ⟨some 6, .mv (.k (.bool false)), none⟩]) 
    (.seq (.dregion 1 [⟨some 7, .mv (.t 0), none⟩, ⟨some 8, .load 2 true (.t 5), none⟩, ⟨some 9, .call (.k (.fn 25 [])) [.t 7, .t 8], none⟩, ⟨some 10, .load 2 true (.t 4), none⟩, ⟨some 11, .call (.k (.fn 54 [])) [.t 9, .t 10], none⟩, ⟨some 6, .mv (.t 11), none⟩] [(0, 1), (0, 3), (1, 3), (2, 3)]) .ret)⟩
theorem a27_ok : cfun Try.prog Try.f27 = some a27 := by kernel_rfl
def a28 : AFn :=
  ⟨12, [.tmp 6], .seq (.region 0 [⟨some 4, .box 2 (.t 1), none⟩, ⟨some 5, .box 2 (.t 2), none⟩, ⟨some 6, .mv (.k (.bool false)), none⟩]) 
    (.seq (.dregion 1 [⟨some 7, .mv (.t 0), none⟩, ⟨some 8, .load 2 true (.t 5), none⟩, ⟨some 9, .call (.k (.fn 26 [])) [.t 7, .t 8], none⟩, ⟨some 10, .load 2 true (.t 4), none⟩, ⟨some 11, .call (.k (.fn 55 [])) [.t 9, .t 10], none⟩, ⟨some 6, .mv (.t 11), none⟩] [(0, 1), (0, 3), (1, 3), (2, 3)]) .ret)⟩
theorem a28_ok : cfun Try.prog Try.f28 = some a28 := by kernel_rfl
def a29 : AFn :=
  ⟨21, [.tmp 2], .seq (.region 0 [⟨some 2, .mv (.k (.sl 4 true [])), none⟩]) 
    (.seq (.region 1 [⟨some 3, .mv (.k (.sl 4 true [])), none⟩]) 
    (.seq 
    (.seq (.region 2 [⟨some 4, .mv (.k (.int .i64 (0))), none⟩]) (.block 0 (.loop 
    (.seq 
    (.seq (.region 3 [⟨some 5, .mv (.t 4), none⟩, ⟨some 6, .mv (.t 0), none⟩, ⟨some 7, .len (.t 6), none⟩, ⟨some 8, .bin .lss false none (.t 5) (.t 7), none⟩]) (.cond (.t 8) .skip (.exit 0))) 
    (.seq (.block 1 (.region 5 [⟨some 12, .mv (.t 3), none⟩, ⟨some 13, .mv (.t 0), none⟩, ⟨some 14, .mv (.t 4), none⟩, ⟨some 15, .iaddr 6 (.t 13) (.t 14), none⟩, ⟨some 16, .load 6 true (.t 15), none⟩, ⟨some 17, .call (.k (.fn 13 [])) [.t 12, .t 16], none⟩, ⟨some 11, .mv (.t 17), none⟩, ⟨some 18, .ext (.t 11) 0, none⟩, ⟨some 19, .ext (.t 11) 1, none⟩, ⟨some 3, .mv (.t 18), none⟩])) (.region 4 [⟨some 9, .mv (.t 4), none⟩, ⟨some 10, .bin .add false none (.t 9) (.k (.int .i64 (1))), none⟩, ⟨some 4, .mv (.t 10), none⟩])))))) 
    (.seq (.region 6 [⟨some 20, .mv (.t 3), none⟩, ⟨some 2, .mv (.t 20), none⟩]) .ret)))⟩
theorem a29_ok : cfun Try.prog Try.f29 = some a29 := by kernel_rfl
def a30 : AFn :=
  ⟨40, [.tmp 6, .tmp 7], .seq (.region 0 [⟨some 4, .box 2 (.t 1), none⟩, ⟨some 5, .box 2 (.t 2), none⟩, ⟨some 6, .mv (.k (.sl 4 true [])), none⟩, ⟨some 7, .mv (.k (.int .i64 (0))), none⟩]) 
    (.seq 
    (.seq (.region 1 [⟨some 10, .mv (.t 0), none⟩, ⟨some 11, .load 2 true (.t 4), none⟩, ⟨some 12, .load 2 true (.t 5), none⟩, ⟨some 13, .bsl 2 2 [(0, .t 11), (1, .t 12)], none⟩, ⟨some 14, .call (.k (.fn 56 [])) [.t 10, .t 13], none⟩, ⟨some 15, .un .not (.t 14), none⟩]) (.cond (.t 15) 
    (.seq (.region 2 [⟨some 16, .mv (.t 0), none⟩, ⟨some 6, .mv (.t 16), none⟩, ⟨some 7, .mv (.k (.int .i64 (2))), none⟩]) .ret) .skip)) 
    (.seq (.region 3 [⟨some 18, .mv (.t 0), none⟩, ⟨some 19, .load 2 true (.t 4), none⟩, ⟨some 20, .call (.k (.fn 20 [])) [.t 18, .t 19], none⟩, ⟨some 17, .mv (.t 20), none⟩, ⟨some 21, .ext (.t 17) 0, none⟩, ⟨some 22, .ext (.t 17) 1, none⟩, ⟨some 8, .mv (.t 21), none⟩, ⟨some 9, .mv (.t 22), none⟩]) 
    (.seq 
    (.seq (.region 4 [⟨some 23, .mv (.t 9), none⟩, ⟨some 24, .un .not (.t 23), none⟩]) (.cond (.t 24) 
    (.seq (.region 5 [⟨some 25, .mv (.t 0), none⟩, ⟨some 6, .mv (.t 25), none⟩, ⟨some 7, .mv (.k (.int .i64 (7))), none⟩]) .ret) .skip)) 
    (.seq (.dregion 6 [⟨some 26, .mv (.t 0), none⟩, ⟨some 27, .mv (.t 8), none⟩, ⟨some 28, .bin .add false none (.t 27) (.k (.int .i64 (1))), none⟩, ⟨some 29, .load 2 true (.t 5), none⟩, ⟨some 30, .mv (.t 0), none⟩, ⟨some 31, .mv (.t 8), none⟩, ⟨some 32, .iaddr 4 (.t 30) (.t 31), none⟩, ⟨some 33, .faddr 2 (.t 32), none⟩, ⟨some 34, .load 1 false (.t 33), none⟩, ⟨some 35, .bin .add false none (.t 34) (.k (.int .i64 (1))), none⟩, ⟨some 36, .build [.int .i64 (0), .int .i64 (0), .int .i64 (0), .bool false] [(0, 2), (2, 1), (3, 1)] [(0, .t 29), (1, .t 35)], none⟩, ⟨some 37, .call (.k (.fn 57 [])) [.t 26, .t 28, .t 36], none⟩, ⟨some 38, .ext (.t 37) 0, none⟩, ⟨some 39, .ext (.t 37) 1, none⟩, ⟨some 6, .mv (.t 38), none⟩, ⟨some 7, .mv (.t 39), none⟩] [(0, 1), (0, 2), (0, 3), (1, 3), (2, 3), (0, 4), (1, 4), (2, 4), (3, 4), (0, 5), (1, 5), (2, 5), (3, 5), (4, 5), (0, 6), (1, 6), (2, 6), (3, 6), (0, 7), (1, 7), (2, 7), (3, 7), (0, 8), (1, 8), (2, 8), (3, 8), (0, 9), (1, 9), (2, 9), (3, 9), (0, 10), (1, 10), (2, 10), (12, 13)]) .ret))))⟩
theorem a30_ok : cfun Try.prog Try.f30 = some a30 := by kernel_rfl
def a31 : AFn :=
  ⟨37, [.cell 4 1 false, .cell 5 1 false], .seq (.region 0 [⟨some 2, .box 1 (.t 0), none⟩, ⟨some 3, .box 2 (.t 1), none⟩, ⟨some 4, .alloc [.sl 4 true []], none⟩, ⟨some 5, .alloc [.int .i64 (0)], none⟩]) 
    (.seq 
    (.seq (.region 1 [⟨some 8, .load 1 false (.t 2), none⟩, ⟨some 9, .load 2 true (.t 3), none⟩, ⟨some 10, .bsl 2 1 [(0, .t 9)], none⟩, ⟨some 11, .call (.k (.fn 56 [])) [.t 8, .t 10], none⟩, ⟨some 12, .un .not (.t 11), none⟩]) (.cond (.t 12) 
    (.seq (.region 2 [⟨some 13, .load 1 false (.t 2), none⟩, ⟨none, .store 1 (.t 4) (.t 13), none⟩, ⟨none, .store 1 (.t 5) (.k (.int .i64 (2))), none⟩]) .ret) .skip)) 
    (.seq (.region 3 [⟨some 15, .load 1 false (.t 2), none⟩, ⟨some 16, .load 2 true (.t 3), none⟩, ⟨some 17, .call (.k (.fn 20 [])) [.t 15, .t 16], none⟩, ⟨some 14, .mv (.t 17), none⟩, ⟨some 18, .ext (.t 14) 0, none⟩, ⟨some 19, .ext (.t 14) 1, none⟩, ⟨some 6, .mv (.t 18), none⟩, ⟨some 7, .mv (.t 19), none⟩]) 
    (.seq 
    (.seq (.region 4 [⟨some 20, .mv (.t 7), none⟩, ⟨some 21, .un .not (.t 20), none⟩]) (.cond (.t 21) 
    (.seq (.region 5 [⟨some 22, .load 1 false (.t 2), none⟩, ⟨none, .store 1 (.t 4) (.t 22), none⟩, ⟨none, .store 1 (.t 5) (.k (.int .i64 (7))), none⟩]) .ret) .skip)) 
    (.seq 
    (.seq (.region 6 [⟨some 23, .load 1 false (.t 2), none⟩, ⟨some 24, .mv (.t 6), none⟩, ⟨some 25, .call (.k (.fn 52 [])) [.t 23, .t 24], none⟩]) (.block 0 (.rangeF (.t 25) [26] .skip (.block 1 
    (.seq (.region 7 [⟨some 27, .load 1 false (.t 2), none⟩, ⟨none, .store 1 (.t 4) (.t 27), none⟩, ⟨none, .store 1 (.t 5) (.k (.int .i64 (130))), none⟩]) .ret))))) 
    (.seq (.dregion 8 [⟨some 28, .load 1 false (.t 2), none⟩, ⟨some 29, .mv (.t 6), none⟩, ⟨some 30, .mv (.t 6), none⟩, ⟨some 31, .slice 4 (.t 28) none (some (.t 29)) (some (.t 30)), none⟩, ⟨some 32, .load 1 false (.t 2), none⟩, ⟨some 33, .mv (.t 6), none⟩, ⟨some 34, .bin .add false none (.t 33) (.k (.int .i64 (1))), none⟩, ⟨some 35, .slice 4 (.t 32) (some (.t 34)) none none, none⟩, ⟨some 36, .app 4 32 (.t 31) (.t 35), none⟩, ⟨none, .store 1 (.t 4) (.t 36), none⟩, ⟨none, .store 1 (.t 5) (.k (.int .i64 (0))), none⟩] [(0, 1), (0, 2), (1, 2), (0, 4), (1, 4), (2, 4), (3, 4), (0, 5), (1, 5), (2, 5), (3, 5), (4, 5), (0, 6), (1, 6), (2, 6), (3, 6), (4, 6), (0, 7), (1, 7), (2, 7), (3, 7)]) .ret)))))⟩
theorem a31_ok : cfun Try.prog Try.f31 = some a31 := by kernel_rfl
def a32 : AFn :=
  ⟨47, [.tmp 6, .tmp 7], .seq (.region 0 [⟨some 4, .box 2 (.t 1), none⟩, ⟨some 5, .box 2 (.t 2), none⟩, ⟨some 6, .mv (.k (.sl 4 true [])), none⟩, ⟨some 7, .mv (.k (.int .i64 (0))), none⟩]) 
    (.seq 
    (.seq (.region 1 [⟨some 13, .mv (.t 0), none⟩, ⟨some 14, .load 2 true (.t 4), none⟩, ⟨some 15, .load 2 true (.t 5), none⟩, ⟨some 16, .bsl 2 2 [(0, .t 14), (1, .t 15)], none⟩, ⟨some 17, .call (.k (.fn 56 [])) [.t 13, .t 16], none⟩, ⟨some 18, .un .not (.t 17), none⟩]) (.cond (.t 18) 
    (.seq (.region 2 [⟨some 19, .mv (.t 0), none⟩, ⟨some 6, .mv (.t 19), none⟩, ⟨some 7, .mv (.k (.int .i64 (2))), none⟩]) .ret) .skip)) 
    (.seq (.region 3 [⟨some 21, .mv (.t 0), none⟩, ⟨some 22, .load 2 true (.t 4), none⟩, ⟨some 23, .call (.k (.fn 20 [])) [.t 21, .t 22], none⟩, ⟨some 20, .mv (.t 23), none⟩, ⟨some 24, .ext (.t 20) 0, none⟩, ⟨some 25, .ext (.t 20) 1, none⟩, ⟨some 8, .mv (.t 24), none⟩, ⟨some 9, .mv (.t 25), none⟩]) 
    (.seq 
    (.seq (.region 4 [⟨some 26, .mv (.t 9), none⟩, ⟨some 27, .un .not (.t 26), none⟩]) (.cond (.t 27) 
    (.seq (.region 5 [⟨some 28, .mv (.t 0), none⟩, ⟨some 6, .mv (.t 28), none⟩, ⟨some 7, .mv (.k (.int .i64 (7))), none⟩]) .ret) .skip)) 
    (.seq 
    (.seq (.region 6 [⟨some 30, .mv (.t 0), none⟩, ⟨some 31, .load 2 true (.t 5), none⟩, ⟨some 32, .call (.k (.fn 20 [])) [.t 30, .t 31], none⟩, ⟨some 29, .mv (.t 32), none⟩, ⟨some 33, .ext (.t 29) 0, none⟩, ⟨some 34, .ext (.t 29) 1, none⟩, ⟨some 10, .mv (.t 33), none⟩, ⟨some 11, .mv (.t 34), none⟩]) 
    (.seq (.region 7 [⟨some 35, .mv (.t 11), none⟩]) (.cond (.t 35) 
    (.seq (.region 8 [⟨some 36, .mv (.t 0), none⟩, ⟨some 6, .mv (.t 36), none⟩, ⟨some 7, .mv (.k (.int .i64 (8))), none⟩]) .ret) .skip))) 
    (.seq (.region 9 [⟨some 37, .mv (.t 0), none⟩, ⟨some 38, .mv (.t 8), none⟩, ⟨some 39, .iaddr 4 (.t 37) (.t 38), none⟩, ⟨some 40, .load 4 true (.t 39), none⟩, ⟨some 12, .alloc [.int .i64 (0), .int .i64 (0), .int .i64 (0), .bool false], none⟩, ⟨none, .store 4 (.t 12) (.t 40), none⟩]) 
    (.seq (.region 10 [⟨some 41, .load 2 true (.t 5), none⟩, ⟨some 42, .faddr 0 (.t 12), none⟩, ⟨none, .store 2 (.t 42) (.t 41), none⟩]) 
    (.seq (.region 11 [⟨some 43, .mv (.t 0), none⟩, ⟨some 44, .mv (.t 8), none⟩, ⟨some 45, .load 4 true (.t 12), none⟩, ⟨some 46, .call (.k (.fn 58 [])) [.t 43, .t 44, .t 45], none⟩, ⟨some 6, .mv (.t 46), none⟩, ⟨some 7, .mv (.k (.int .i64 (0))), none⟩]) .ret)))))))⟩
theorem a32_ok : cfun Try.prog Try.f32 = some a32 := by kernel_rfl
def a33 : AFn :=
  ⟨36, [.tmp 6, .tmp 7], .seq (.region 0 [⟨some 4, .box 2 (.t 1), none⟩, ⟨some 6, .mv (.k (.sl 4 true [])), none⟩, ⟨some 7, .mv (.k (.int .i64 (0))), none⟩]) 
    (.seq 
    (.seq (.region 1 [⟨some 11, .mv (.t 0), none⟩, ⟨some 12, .load 2 true (.t 4), none⟩, ⟨some 13, .bsl 2 1 [(0, .t 12)], none⟩, ⟨some 14, .call (.k (.fn 56 [])) [.t 11, .t 13], none⟩, ⟨some 15, .un .not (.t 14), none⟩]) (.cond (.t 15) 
    (.seq (.region 2 [⟨some 16, .mv (.t 0), none⟩, ⟨some 6, .mv (.t 16), none⟩, ⟨some 7, .mv (.k (.int .i64 (2))), none⟩]) .ret) .skip)) 
    (.seq (.region 3 [⟨some 18, .mv (.t 0), none⟩, ⟨some 19, .load 2 true (.t 4), none⟩, ⟨some 20, .call (.k (.fn 20 [])) [.t 18, .t 19], none⟩, ⟨some 17, .mv (.t 20), none⟩, ⟨some 21, .ext (.t 17) 0, none⟩, ⟨some 22, .ext (.t 17) 1, none⟩, ⟨some 8, .mv (.t 21), none⟩, ⟨some 9, .mv (.t 22), none⟩]) 
    (.seq 
    (.seq (.region 4 [⟨some 23, .mv (.t 9), none⟩, ⟨some 24, .un .not (.t 23), none⟩]) (.cond (.t 24) 
    (.seq (.region 5 [⟨some 25, .mv (.t 0), none⟩, ⟨some 6, .mv (.t 25), none⟩, ⟨some 7, .mv (.k (.int .i64 (7))), none⟩]) .ret) .skip)) 
    (.seq (.region 6 [⟨some 26, .mv (.t 0), none⟩, ⟨some 27, .mv (.t 8), none⟩, ⟨some 28, .iaddr 4 (.t 26) (.t 27), none⟩, ⟨some 29, .load 4 true (.t 28), none⟩, ⟨some 10, .alloc [.int .i64 (0), .int .i64 (0), .int .i64 (0), .bool false], none⟩, ⟨none, .store 4 (.t 10) (.t 29), none⟩]) 
    (.seq (.region 7 [⟨some 30, .mv (.t 2), none⟩, ⟨some 31, .faddr 3 (.t 10), none⟩, ⟨none, .store 1 (.t 31) (.t 30), none⟩]) 
    (.seq (.region 8 [⟨some 32, .mv (.t 0), none⟩, ⟨some 33, .mv (.t 8), none⟩, ⟨some 34, .load 4 true (.t 10), none⟩, ⟨some 35, .call (.k (.fn 58 [])) [.t 32, .t 33, .t 34], none⟩, ⟨some 6, .mv (.t 35), none⟩, ⟨some 7, .mv (.k (.int .i64 (0))), none⟩]) .ret))))))⟩
theorem a33_ok : cfun Try.prog Try.f33 = some a33 := by kernel_rfl
def a34 : AFn :=
  ⟨20, [.tmp 4, .tmp 5], .seq (.region 0 [⟨some 3, .box 2 (.t 1), none⟩, ⟨some 4, .mv (.k (.sl 4 true [])), none⟩, ⟨some 5, .mv (.k (.int .i64 (0))), none⟩]) 
    (.seq 
    (.seq (.region 1 [⟨some 6, .mv (.t 0), none⟩, ⟨some 7, .load 2 true (.t 3), none⟩, ⟨some 8, .bsl 2 1 [(0, .t 7)], none⟩, ⟨some 9, .call (.k (.fn 56 [])) [.t 6, .t 8], none⟩, ⟨some 10, .un .not (.t 9), none⟩]) (.cond (.t 10) 
    (.seq (.region 2 [⟨some 11, .mv (.t 0), none⟩, ⟨some 4, .mv (.t 11), none⟩, ⟨some 5, .mv (.k (.int .i64 (2))), none⟩]) .ret) .skip)) 
    (.seq (.region 3 [⟨some 12, .mv (.t 0), none⟩, ⟨some 13, .mv (.t 0), none⟩, ⟨some 14, .len (.t 13), none⟩, ⟨some 15, .load 2 true (.t 3), none⟩, ⟨some 16, .build [.int .i64 (0), .int .i64 (0), .int .i64 (0), .bool false] [(0, 2), (2, 1), (3, 1)] [(0, .t 15)], none⟩, ⟨some 17, .call (.k (.fn 57 [])) [.t 12, .t 14, .t 16], none⟩, ⟨some 18, .ext (.t 17) 0, none⟩, ⟨some 19, .ext (.t 17) 1, none⟩, ⟨some 4, .mv (.t 18), none⟩, ⟨some 5, .mv (.t 19), none⟩]) .ret))⟩
theorem a34_ok : cfun Try.prog Try.f34 = some a34 := by kernel_rfl
def a35 : AFn :=
  ⟨93, [.tmp 0], .seq (.region 0 [⟨some 0, .mv (.k (.bool false)), none⟩]) 
    (.seq (.region 1 [⟨some 10, .call (.k (.fn 59 [])) [.k (.int .i64 (1))], none⟩, ⟨some 11, .build [.int .i64 (0), .int .i64 (0), .int .i64 (0), .int .i64 (0), .int .i64 (0)] [(0, 1), (1, 2), (3, 2)] [(0, .k (.int .i64 (1))), (1, .t 10)], none⟩, ⟨some 12, .call (.k (.fn 59 [])) [.k (.int .i64 (2))], none⟩, ⟨some 13, .call (.k (.fn 59 [])) [.k (.int .i64 (1))], none⟩, ⟨some 14, .build [.int .i64 (0), .int .i64 (0), .int .i64 (0), .int .i64 (0), .int .i64 (0)] [(0, 1), (1, 2), (3, 2)] [(0, .k (.int .i64 (2))), (1, .t 12), (2, .t 13)], none⟩, ⟨some 15, .call (.k (.fn 59 [])) [.k (.int .i64 (3))], none⟩, ⟨some 16, .call (.k (.fn 59 [])) [.k (.int .i64 (2))], none⟩, ⟨some 17, .build [.int .i64 (0), .int .i64 (0), .int .i64 (0), .int .i64 (0), .int .i64 (0)] [(0, 1), (1, 2), (3, 2)] [(0, .k (.int .i64 (3))), (1, .t 15), (2, .t 16)], none⟩, ⟨some 18, .build [.int .i64 (0), .int .i64 (0), .int .i64 (0), .int .i64 (0), .int .i64 (0)] [(0, 1), (1, 2), (3, 2)] [(0, .k (.int .i64 (9)))], none⟩, ⟨some 19, .bsl 5 4 [(0, .t 11), (1, .t 14), (2, .t 17), (3, .t 18)], none⟩, ⟨some 20, .call (.k (.fn 37 [])) [.t 19], none⟩, ⟨some 9, .mv (.t 20), none⟩, ⟨some 21, .ext (.t 9) 0, none⟩, ⟨some 22, .ext (.t 9) 1, none⟩, ⟨some 1, .alloc [.sl 2 true [], .sl 1 true [], .sl 1 true []], none⟩, ⟨none, .store 3 (.t 1) (.t 21), none⟩, ⟨some 2, .mv (.t 22), none⟩]) 
    (.seq (.dregion 2 [⟨some 24, .load 3 true (.t 1), none⟩, ⟨some 25, .call (.k (.fn 59 [])) [.k (.int .i64 (1))], none⟩, ⟨some 26, .build [.int .i64 (0), .int .i64 (0), .int .i64 (0), .int .i64 (0), .int .i64 (0)] [(0, 1), (1, 2), (3, 2)] [(0, .k (.int .i64 (4))), (1, .t 25)], none⟩, ⟨some 27, .call (.k (.fn 60 [])) [.t 24, .t 26], none⟩, ⟨some 23, .mv (.t 27), none⟩, ⟨some 28, .ext (.t 23) 0, none⟩, ⟨some 29, .ext (.t 23) 1, none⟩, ⟨some 3, .alloc [.sl 2 true [], .sl 1 true [], .sl 1 true []], none⟩, ⟨none, .store 3 (.t 3) (.t 28), none⟩, ⟨some 4, .mv (.t 29), none⟩] [(0, 1), (0, 2), (5, 6), (0, 7), (1, 7), (2, 7), (3, 7), (4, 7), (5, 7), (6, 7), (6, 8)]) 
    (.seq (.dregion 3 [⟨some 31, .load 3 true (.t 3), none⟩, ⟨some 32, .call (.k (.fn 59 [])) [.k (.int .i64 (3))], none⟩, ⟨some 33, .call (.k (.fn 38 [])) [.t 31, .t 32], none⟩, ⟨some 30, .mv (.t 33), none⟩, ⟨some 34, .ext (.t 30) 0, none⟩, ⟨some 35, .ext (.t 30) 1, none⟩, ⟨some 5, .mv (.t 34), none⟩, ⟨some 6, .mv (.t 35), none⟩] [(0, 1), (4, 5), (5, 6)]) 
    (.seq (.dregion 4 [⟨some 37, .load 3 true (.t 1), none⟩, ⟨some 38, .call (.k (.fn 59 [])) [.k (.int .i64 (1))], none⟩, ⟨some 39, .build [.int .i64 (0), .int .i64 (0), .int .i64 (0), .int .i64 (0), .int .i64 (0)] [(0, 1), (1, 2), (3, 2)] [(0, .k (.int .i64 (1))), (1, .t 38)], none⟩, ⟨some 40, .call (.k (.fn 60 [])) [.t 37, .t 39], none⟩, ⟨some 36, .mv (.t 40), none⟩, ⟨some 41, .ext (.t 36) 0, none⟩, ⟨some 42, .ext (.t 36) 1, none⟩, ⟨some 7, .alloc [.sl 2 true [], .sl 1 true [], .sl 1 true []], none⟩, ⟨none, .store 3 (.t 7) (.t 41), none⟩, ⟨some 8, .mv (.t 42), none⟩] [(0, 1), (0, 2), (5, 6), (0, 7), (1, 7), (2, 7), (3, 7), (4, 7), (5, 7), (6, 7), (6, 8)]) 
    (.seq (.dregion 5 [⟨some 43, .mv (.t 2), none⟩, ⟨some 44, .bin .eql false none (.t 43) (.k (.int .i64 (1))), none⟩, ⟨some 45, .mv (.t 44), none⟩, ⟨some 46, .mv (.t 4), some (45, true)⟩, ⟨some 47, .call (.k (.fn 36 [])) [.t 46], some (45, true)⟩, ⟨some 48, .bin .eql false none (.t 47) (.k (.int .i64 (0))), some (45, true)⟩, ⟨some 49, .pick (.t 45) (.t 48) (.k (.bool false)), none⟩, ⟨some 50, .mv (.t 49), none⟩, ⟨some 51, .load 3 true (.t 1), some (50, true)⟩, ⟨some 52, .call (.k (.fn 59 [])) [.k (.int .i64 (3))], some (50, true)⟩, ⟨some 53, .call (.k (.fn 59 [])) [.k (.int .i64 (1))], some (50, true)⟩, ⟨some 54, .call (.k (.fn 39 [])) [.t 51, .t 52, .t 53], some (50, true)⟩, ⟨some 55, .pick (.t 50) (.t 54) (.k (.bool false)), none⟩, ⟨some 56, .mv (.t 55), none⟩, ⟨some 57, .load 3 true (.t 3), some (56, true)⟩, ⟨some 58, .call (.k (.fn 59 [])) [.k (.int .i64 (3))], some (56, true)⟩, ⟨some 59, .call (.k (.fn 59 [])) [.k (.int .i64 (1))], some (56, true)⟩, ⟨some 60, .call (.k (.fn 39 [])) [.t 57, .t 58, .t 59], some (56, true)⟩, ⟨some 61, .un .not (.t 60), some (56, true)⟩, ⟨some 62, .pick (.t 56) (.t 61) (.k (.bool false)), none⟩, ⟨some 63, .mv (.t 62), none⟩, ⟨some 64, .mv (.t 5), some (63, true)⟩, ⟨some 65, .bin .eql false none (.t 64) (.k (.int .i64 (1))), some (63, true)⟩, ⟨some 66, .pick (.t 63) (.t 65) (.k (.bool false)), none⟩, ⟨some 67, .mv (.t 66), none⟩, ⟨some 68, .mv (.t 6), some (67, true)⟩, ⟨some 69, .pick (.t 67) (.t 68) (.k (.bool false)), none⟩, ⟨some 70, .mv (.t 69), none⟩, ⟨some 71, .load 3 true (.t 3), some (70, true)⟩, ⟨some 72, .call (.k (.fn 62 [])) [.t 71, .k (.int .i64 (1))], some (70, true)⟩, ⟨some 73, .bsl 1 1 [(0, .k (.int .i64 (0)))], some (70, true)⟩, ⟨some 74, .call (.k (.fn 61 [])) [.t 72, .t 73], some (70, true)⟩, ⟨some 75, .pick (.t 70) (.t 74) (.k (.bool false)), none⟩, ⟨some 76, .mv (.t 75), none⟩, ⟨some 77, .mv (.t 8), some (76, true)⟩, ⟨some 78, .call (.k (.fn 36 [])) [.t 77], some (76, true)⟩, ⟨some 79, .bin .eql false none (.t 78) (.k (.int .i64 (8))), some (76, true)⟩, ⟨some 80, .pick (.t 76) (.t 79) (.k (.bool false)), none⟩, ⟨some 81, .mv (.t 80), none⟩, ⟨some 82, .load 3 true (.t 3), some (81, true)⟩, ⟨some 83, .call (.k (.fn 63 [])) [.t 82], some (81, true)⟩, ⟨some 84, .call (.k (.fn 36 [])) [.t 83], some (81, true)⟩, ⟨some 85, .bin .eql false none (.t 84) (.k (.int .i64 (0))), some (81, true)⟩, ⟨some 86, .pick (.t 81) (.t 85) (.k (.bool false)), none⟩, ⟨some 87, .mv (.t 86), none⟩, ⟨some 88, .load 3 true (.t 1), some (87, true)⟩, ⟨some 89, .load 3 true (.t 3), some (87, true)⟩, ⟨some 90, .call (.k (.fn 64 [])) [.t 88, .t 89], some (87, true)⟩, ⟨some 91, .un .not (.t 90), some (87, true)⟩, ⟨some 92, .pick (.t 87) (.t 91) (.k (.bool false)), none⟩, ⟨some 0, .mv (.t 92), none⟩] [(8, 9), (8, 10), (14, 15), (14, 16), (28, 30), (29, 30), (45, 46)]) .ret)))))⟩
theorem a35_ok : cfun Try.prog Try.f35 = some a35 := by kernel_rfl
def a36 : AFn :=
  ⟨4, [.tmp 2], .seq (.region 0 [⟨some 2, .mv (.k (.int .i64 (0))), none⟩]) 
    (.seq (.region 1 [⟨some 3, .mv (.t 0), none⟩, ⟨some 2, .mv (.t 3), none⟩]) .ret)⟩
theorem a36_ok : cfun Try.prog Try.f36 = some a36 := by kernel_rfl
def a37 : AFn :=
  ⟨28, [.cell 2 3 true, .tmp 3], .seq (.region 0 [⟨some 2, .alloc [.sl 2 true [], .sl 1 true [], .sl 1 true []], none⟩, ⟨some 3, .mv (.k (.int .i64 (0))), none⟩]) 
    (.seq .skip 
    (.seq 
    (.seq (.region 1 [⟨some 8, .mv (.t 0), none⟩, ⟨some 9, .len (.t 8), none⟩, ⟨some 10, .mv (.k (.int .i64 (0))), none⟩]) (.block 0 (.loop 
    (.seq (.region 2 [⟨some 11, .bin .lss false none (.t 10) (.t 9), none⟩]) 
    (.seq (.cond (.t 11) .skip (.exit 0)) 
    (.seq (.block 1 
    (.seq (.region 3 [⟨some 12, .iaddr 5 (.t 8) (.t 10), none⟩, ⟨some 13, .load 5 true (.t 12), none⟩, ⟨some 5, .alloc [.int .i64 (0), .int .i64 (0), .int .i64 (0), .int .i64 (0), .int .i64 (0)], none⟩, ⟨none, .store 5 (.t 5) (.t 13), none⟩]) 
    (.seq (.region 4 [⟨some 15, .load 3 true (.t 2), none⟩, ⟨some 16, .load 5 true (.t 5), none⟩, ⟨some 17, .call (.k (.fn 60 [])) [.t 15, .t 16], none⟩, ⟨some 14, .mv (.t 17), none⟩, ⟨some 18, .ext (.t 14) 0, none⟩, ⟨some 19, .ext (.t 14) 1, none⟩, ⟨some 6, .alloc [.sl 2 true [], .sl 1 true [], .sl 1 true []], none⟩, ⟨none, .store 3 (.t 6) (.t 18), none⟩, ⟨some 7, .mv (.t 19), none⟩]) 
    (.seq 
    (.seq (.region 5 [⟨some 20, .mv (.t 7), none⟩, ⟨some 21, .bin .neq false none (.t 20) (.k (.int .i64 (0))), none⟩]) (.cond (.t 21) 
    (.seq (.region 6 [⟨some 22, .mv (.t 3), none⟩, ⟨some 23, .bin .add false none (.t 22) (.k (.int .i64 (1))), none⟩, ⟨some 3, .mv (.t 23), none⟩]) (.exit 1)) .skip)) (.region 7 [⟨some 24, .load 3 true (.t 6), none⟩, ⟨none, .store 3 (.t 2) (.t 24), none⟩]))))) (.region 8 [⟨some 25, .bin .add false none (.t 10) (.k (.int .i64 (1))), none⟩, ⟨some 10, .mv (.t 25), none⟩]))))))) 
    (.seq (.region 9 [⟨some 26, .load 3 true (.t 2), none⟩, ⟨some 27, .mv (.t 3), none⟩, ⟨none, .store 3 (.t 2) (.t 26), none⟩, ⟨some 3, .mv (.t 27), none⟩]) .ret)))⟩
theorem a37_ok : cfun Try.prog Try.f37 = some a37 := by kernel_rfl
def a38 : AFn :=
  ⟨25, [.tmp 4, .tmp 5], .seq (.region 0 [⟨some 2, .box 3 (.t 0), none⟩, ⟨some 3, .box 2 (.t 1), none⟩, ⟨some 4, .mv (.k (.int .i64 (0))), none⟩, ⟨some 5, .mv (.k (.bool false)), none⟩]) 
    (.seq (.region 1 [⟨some 7, .faddr 0 (.t 2), none⟩, ⟨some 8, .load 1 false (.t 7), none⟩, ⟨some 9, .load 2 true (.t 3), none⟩, ⟨some 10, .call (.k (.fn 65 [])) [.t 8, .t 9], none⟩, ⟨some 6, .mv (.t 10), none⟩]) 
    (.seq 
    (.seq (.region 2 [⟨some 11, .mv (.t 6), none⟩, ⟨some 12, .bin .lss false none (.t 11) (.k (.int .i64 (0))), none⟩, ⟨some 13, .mv (.t 12), none⟩, ⟨some 14, .mv (.t 6), some (13, false)⟩, ⟨some 15, .faddr 1 (.t 2), some (13, false)⟩, ⟨some 16, .load 1 false (.t 15), some (13, false)⟩, ⟨some 17, .len (.t 16), some (13, false)⟩, ⟨some 18, .bin .geq false none (.t 14) (.t 17), some (13, false)⟩, ⟨some 19, .pick (.t 13) (.k (.bool true)) (.t 18), none⟩]) (.cond (.t 19) 
    (.seq (.region 3 [⟨some 4, .mv (.k (.int .i64 (0))), none⟩, ⟨some 5, .mv (.k (.bool false)), none⟩]) .ret) .skip)) 
    (.seq (.region 4 [⟨some 20, .faddr 1 (.t 2), none⟩, ⟨some 21, .load 1 false (.t 20), none⟩, ⟨some 22, .mv (.t 6), none⟩, ⟨some 23, .iaddr 1 (.t 21) (.t 22), none⟩, ⟨some 24, .load 1 false (.t 23), none⟩, ⟨some 4, .mv (.t 24), none⟩, ⟨some 5, .mv (.k (.bool true)), none⟩]) .ret)))⟩
theorem a38_ok : cfun Try.prog Try.f38 = some a38 := by kernel_rfl
def a39 : AFn :=
  ⟨34, [.tmp 6], .seq (.region 0 [⟨some 3, .box 3 (.t 0), none⟩, ⟨some 4, .box 2 (.t 1), none⟩, ⟨some 5, .box 2 (.t 2), none⟩, ⟨some 6, .mv (.k (.bool false)), none⟩]) 
    (.seq (.region 1 [⟨some 12, .load 3 true (.t 3), none⟩, ⟨some 13, .load 2 true (.t 4), none⟩, ⟨some 14, .call (.k (.fn 38 [])) [.t 12, .t 13], none⟩, ⟨some 11, .mv (.t 14), none⟩, ⟨some 15, .ext (.t 11) 0, none⟩, ⟨some 16, .ext (.t 11) 1, none⟩, ⟨some 7, .mv (.t 15), none⟩, ⟨some 8, .mv (.t 16), none⟩]) 
    (.seq (.region 2 [⟨some 18, .load 3 true (.t 3), none⟩, ⟨some 19, .load 2 true (.t 5), none⟩, ⟨some 20, .call (.k (.fn 38 [])) [.t 18, .t 19], none⟩, ⟨some 17, .mv (.t 20), none⟩, ⟨some 21, .ext (.t 17) 0, none⟩, ⟨some 22, .ext (.t 17) 1, none⟩, ⟨some 9, .mv (.t 21), none⟩, ⟨some 10, .mv (.t 22), none⟩]) 
    (.seq (.region 3 [⟨some 23, .mv (.t 8), none⟩, ⟨some 24, .mv (.t 23), none⟩, ⟨some 25, .mv (.t 10), some (24, true)⟩, ⟨some 26, .pick (.t 24) (.t 25) (.k (.bool false)), none⟩, ⟨some 27, .mv (.t 26), none⟩, ⟨some 28, .load 3 true (.t 3), some (27, true)⟩, ⟨some 29, .mv (.t 7), some (27, true)⟩, ⟨some 30, .call (.k (.fn 62 [])) [.t 28, .t 29], some (27, true)⟩, ⟨some 31, .mv (.t 9), some (27, true)⟩, ⟨some 32, .call (.k (.fn 66 [])) [.t 30, .t 31], some (27, true)⟩, ⟨some 33, .pick (.t 27) (.t 32) (.k (.bool false)), none⟩, ⟨some 6, .mv (.t 33), none⟩]) .ret)))⟩
theorem a39_ok : cfun Try.prog Try.f39 = some a39 := by kernel_rfl
def a40 : AFn :=
  ⟨5, [.cell 2 2 true], .seq (.region 0 [⟨some 2, .alloc [.int .i64 (0), .int .i64 (0)], none⟩]) 
    (.seq (.region 1 [⟨some 3, .mv (.t 0), none⟩, ⟨some 4, .build [.int .i64 (0), .int .i64 (0)] [(0, 1), (1, 1)] [(0, .t 3)], none⟩, ⟨none, .store 2 (.t 2) (.t 4), none⟩]) .ret)⟩
theorem a40_ok : cfun Try.prog Try.f40 = some a40 := by kernel_rfl
def a41 : AFn :=
  ⟨35, [.tmp 4, .tmp 5], .seq (.region 0 [⟨some 3, .box 2 (.t 1), none⟩, ⟨some 4, .mv (.k (.sl 4 true [])), none⟩, ⟨some 5, .mv (.k (.int .i64 (0))), none⟩]) 
    (.seq (.region 1 [⟨some 9, .mv (.t 0), none⟩, ⟨some 10, .load 2 true (.t 3), none⟩, ⟨some 11, .call (.k (.fn 21 [])) [.t 9, .t 10], none⟩, ⟨some 8, .mv (.t 11), none⟩, ⟨some 12, .ext (.t 8) 0, none⟩, ⟨some 13, .ext (.t 8) 1, none⟩, ⟨some 6, .mv (.t 12), none⟩, ⟨some 7, .mv (.t 13), none⟩]) 
    (.seq 
    (.seq (.region 2 [⟨some 14, .mv (.t 0), none⟩, ⟨some 15, .call (.k (.fn 18 [])) [.t 14], none⟩, ⟨some 16, .un .not (.t 15), none⟩, ⟨some 17, .mv (.t 16), none⟩, ⟨some 18, .load 2 true (.t 3), some (17, false)⟩, ⟨some 19, .call (.k (.fn 47 [])) [.t 18], some (17, false)⟩, ⟨some 20, .un .not (.t 19), some (17, false)⟩, ⟨some 21, .pick (.t 17) (.k (.bool true)) (.t 20), none⟩]) (.cond (.t 21) 
    (.seq (.region 3 [⟨some 22, .mv (.t 0), none⟩, ⟨some 4, .mv (.t 22), none⟩, ⟨some 5, .mv (.k (.int .i64 (2))), none⟩]) .ret) .skip)) 
    (.seq 
    (.seq (.region 4 [⟨some 23, .mv (.t 7), none⟩]) (.cond (.t 23) 
    (.seq (.region 5 [⟨some 24, .mv (.t 0), none⟩, ⟨some 4, .mv (.t 24), none⟩, ⟨some 5, .mv (.k (.int .i64 (8))), none⟩]) .ret) .skip)) 
    (.seq 
    (.seq (.region 6 [⟨some 25, .mv (.t 0), none⟩, ⟨some 26, .len (.t 25), none⟩, ⟨some 27, .bin .geq false none (.t 26) (.k (.int .i64 (512))), none⟩]) (.cond (.t 27) 
    (.seq (.region 7 [⟨some 28, .mv (.t 0), none⟩, ⟨some 4, .mv (.t 28), none⟩, ⟨some 5, .mv (.k (.int .i64 (6))), none⟩]) .ret) .skip)) 
    (.seq (.region 8 [⟨some 29, .mv (.t 0), none⟩, ⟨some 30, .mv (.t 0), none⟩, ⟨some 31, .len (.t 30), none⟩, ⟨some 32, .load 2 true (.t 3), none⟩, ⟨some 33, .build [.int .i64 (0), .int .i64 (0), .int .i64 (0), .bool false] [(0, 2), (2, 1), (3, 1)] [(0, .t 32)], none⟩, ⟨some 34, .call (.k (.fn 67 [])) [.t 29, .t 31, .t 33], none⟩, ⟨some 4, .mv (.t 34), none⟩, ⟨some 5, .mv (.k (.int .i64 (0))), none⟩]) .ret)))))⟩
theorem a41_ok : cfun Try.prog Try.f41 = some a41 := by kernel_rfl
def a42 : AFn :=
  ⟨59, [.tmp 6, .tmp 7], .seq (.region 0 [⟨some 4, .box 2 (.t 1), none⟩, ⟨some 5, .box 2 (.t 2), none⟩, ⟨some 6, .mv (.k (.sl 4 true [])), none⟩, ⟨some 7, .mv (.k (.int .i64 (0))), none⟩]) 
    (.seq (.region 1 [⟨some 13, .mv (.t 0), none⟩, ⟨some 14, .load 2 true (.t 4), none⟩, ⟨some 15, .call (.k (.fn 21 [])) [.t 13, .t 14], none⟩, ⟨some 12, .mv (.t 15), none⟩, ⟨some 16, .ext (.t 12) 0, none⟩, ⟨some 17, .ext (.t 12) 1, none⟩, ⟨some 8, .mv (.t 16), none⟩, ⟨some 9, .mv (.t 17), none⟩]) 
    (.seq (.region 2 [⟨some 19, .mv (.t 0), none⟩, ⟨some 20, .load 2 true (.t 5), none⟩, ⟨some 21, .call (.k (.fn 21 [])) [.t 19, .t 20], none⟩, ⟨some 18, .mv (.t 21), none⟩, ⟨some 22, .ext (.t 18) 0, none⟩, ⟨some 23, .ext (.t 18) 1, none⟩, ⟨some 10, .mv (.t 22), none⟩, ⟨some 11, .mv (.t 23), none⟩]) 
    (.seq 
    (.seq (.region 3 [⟨some 24, .mv (.t 0), none⟩, ⟨some 25, .call (.k (.fn 18 [])) [.t 24], none⟩, ⟨some 26, .un .not (.t 25), none⟩, ⟨some 27, .mv (.t 26), none⟩, ⟨some 28, .load 2 true (.t 4), some (27, false)⟩, ⟨some 29, .call (.k (.fn 47 [])) [.t 28], some (27, false)⟩, ⟨some 30, .un .not (.t 29), some (27, false)⟩, ⟨some 31, .pick (.t 27) (.k (.bool true)) (.t 30), none⟩, ⟨some 32, .mv (.t 31), none⟩, ⟨some 33, .load 2 true (.t 5), some (32, false)⟩, ⟨some 34, .call (.k (.fn 47 [])) [.t 33], some (32, false)⟩, ⟨some 35, .un .not (.t 34), some (32, false)⟩, ⟨some 36, .pick (.t 32) (.k (.bool true)) (.t 35), none⟩]) (.cond (.t 36) 
    (.seq (.region 4 [⟨some 37, .mv (.t 0), none⟩, ⟨some 6, .mv (.t 37), none⟩, ⟨some 7, .mv (.k (.int .i64 (2))), none⟩]) .ret) .skip)) 
    (.seq 
    (.seq (.region 5 [⟨some 38, .mv (.t 9), none⟩, ⟨some 39, .un .not (.t 38), none⟩]) (.cond (.t 39) 
    (.seq (.region 6 [⟨some 40, .mv (.t 0), none⟩, ⟨some 6, .mv (.t 40), none⟩, ⟨some 7, .mv (.k (.int .i64 (7))), none⟩]) .ret) .skip)) 
    (.seq 
    (.seq (.region 7 [⟨some 41, .mv (.t 11), none⟩]) (.cond (.t 41) 
    (.seq (.region 8 [⟨some 42, .mv (.t 0), none⟩, ⟨some 6, .mv (.t 42), none⟩, ⟨some 7, .mv (.k (.int .i64 (8))), none⟩]) .ret) .skip)) 
    (.seq 
    (.seq (.region 9 [⟨some 43, .mv (.t 0), none⟩, ⟨some 44, .len (.t 43), none⟩, ⟨some 45, .bin .geq false none (.t 44) (.k (.int .i64 (512))), none⟩]) (.cond (.t 45) 
    (.seq (.region 10 [⟨some 46, .mv (.t 0), none⟩, ⟨some 6, .mv (.t 46), none⟩, ⟨some 7, .mv (.k (.int .i64 (6))), none⟩]) .ret) .skip)) 
    (.seq (.dregion 11 [⟨some 47, .mv (.t 0), none⟩, ⟨some 48, .mv (.t 8), none⟩, ⟨some 49, .bin .add false none (.t 48) (.k (.int .i64 (1))), none⟩, ⟨some 50, .load 2 true (.t 5), none⟩, ⟨some 51, .mv (.t 0), none⟩, ⟨some 52, .mv (.t 8), none⟩, ⟨some 53, .iaddr 4 (.t 51) (.t 52), none⟩, ⟨some 54, .faddr 2 (.t 53), none⟩, ⟨some 55, .load 1 false (.t 54), none⟩, ⟨some 56, .bin .add false none (.t 55) (.k (.int .i64 (1))), none⟩, ⟨some 57, .build [.int .i64 (0), .int .i64 (0), .int .i64 (0), .bool false] [(0, 2), (2, 1), (3, 1)] [(0, .t 50), (1, .t 56)], none⟩, ⟨some 58, .call (.k (.fn 67 [])) [.t 47, .t 49, .t 57], none⟩, ⟨some 6, .mv (.t 58), none⟩, ⟨some 7, .mv (.k (.int .i64 (0))), none⟩] [(0, 1), (0, 2), (0, 3), (1, 3), (2, 3), (0, 4), (1, 4), (2, 4), (3, 4), (0, 5), (1, 5), (2, 5), (3, 5), (4, 5), (0, 6), (1, 6), (2, 6), (3, 6), (0, 7), (1, 7), (2, 7), (3, 7), (0, 8), (1, 8), (2, 8), (3, 8), (0, 9), (1, 9), (2, 9), (3, 9), (0, 10), (1, 10), (2, 10)]) .ret)))))))⟩
theorem a42_ok : cfun Try.prog Try.f42 = some a42 := by kernel_rfl
def a43 : AFn :=
  ⟨34, [.tmp 4, .tmp 5], .seq (.region 0 [⟨some 3, .box 2 (.t 1), none⟩, ⟨some 4, .mv (.k (.sl 4 true [])), none⟩, ⟨some 5, .mv (.k (.int .i64 (0))), none⟩]) 
    (.seq (.region 1 [⟨some 9, .mv (.t 0), none⟩, ⟨some 10, .load 2 true (.t 3), none⟩, ⟨some 11, .call (.k (.fn 21 [])) [.t 9, .t 10], none⟩, ⟨some 8, .mv (.t 11), none⟩, ⟨some 12, .ext (.t 8) 0, none⟩, ⟨some 13, .ext (.t 8) 1, none⟩, ⟨some 6, .mv (.t 12), none⟩, ⟨some 7, .mv (.t 13), none⟩]) 
    (.seq 
    (.seq (.region 2 [⟨some 14, .mv (.t 0), none⟩, ⟨some 15, .call (.k (.fn 18 [])) [.t 14], none⟩, ⟨some 16, .un .not (.t 15), none⟩, ⟨some 17, .mv (.t 16), none⟩, ⟨some 18, .load 2 true (.t 3), some (17, false)⟩, ⟨some 19, .call (.k (.fn 47 [])) [.t 18], some (17, false)⟩, ⟨some 20, .un .not (.t 19), some (17, false)⟩, ⟨some 21, .pick (.t 17) (.k (.bool true)) (.t 20), none⟩]) (.cond (.t 21) 
    (.seq (.region 3 [⟨some 22, .mv (.t 0), none⟩, ⟨some 4, .mv (.t 22), none⟩, ⟨some 5, .mv (.k (.int .i64 (2))), none⟩]) .ret) .skip)) 
    (.seq 
    (.seq (.region 4 [⟨some 23, .mv (.t 7), none⟩, ⟨some 24, .un .not (.t 23), none⟩]) (.cond (.t 24) 
    (.seq (.region 5 [⟨some 25, .mv (.t 0), none⟩, ⟨some 4, .mv (.t 25), none⟩, ⟨some 5, .mv (.k (.int .i64 (7))), none⟩]) .ret) .skip)) 
    (.seq 
    (.seq (.region 6 [⟨some 26, .mv (.t 0), none⟩, ⟨some 27, .mv (.t 6), none⟩, ⟨some 28, .call (.k (.fn 53 [])) [.t 26, .t 27], none⟩, ⟨some 29, .bin .gtr false none (.t 28) (.k (.int .i64 (0))), none⟩]) (.cond (.t 29) 
    (.seq (.region 7 [⟨some 30, .mv (.t 0), none⟩, ⟨some 4, .mv (.t 30), none⟩, ⟨some 5, .mv (.k (.int .i64 (130))), none⟩]) .ret) .skip)) 
    (.seq (.region 8 [⟨some 31, .mv (.t 0), none⟩, ⟨some 32, .mv (.t 6), none⟩, ⟨some 33, .call (.k (.fn 68 [])) [.t 31, .t 32], none⟩, ⟨some 4, .mv (.t 33), none⟩, ⟨some 5, .mv (.k (.int .i64 (0))), none⟩]) .ret)))))⟩
theorem a43_ok : cfun Try.prog Try.f43 = some a43 := by kernel_rfl
def a44 : AFn :=
  ⟨56, [.tmp 6, .tmp 7], .seq (.region 0 [⟨some 4, .box 2 (.t 1), none⟩, ⟨some 5, .box 2 (.t 2), none⟩, ⟨some 6, .mv (.k (.sl 4 true [])), none⟩, ⟨some 7, .mv (.k (.int .i64 (0))), none⟩]) 
    (.seq (.region 1 [⟨some 14, .mv (.t 0), none⟩, ⟨some 15, .load 2 true (.t 4), none⟩, ⟨some 16, .call (.k (.fn 21 [])) [.t 14, .t 15], none⟩, ⟨some 13, .mv (.t 16), none⟩, ⟨some 17, .ext (.t 13) 0, none⟩, ⟨some 18, .ext (.t 13) 1, none⟩, ⟨some 8, .mv (.t 17), none⟩, ⟨some 9, .mv (.t 18), none⟩]) 
    (.seq (.region 2 [⟨some 20, .mv (.t 0), none⟩, ⟨some 21, .load 2 true (.t 5), none⟩, ⟨some 22, .call (.k (.fn 21 [])) [.t 20, .t 21], none⟩, ⟨some 19, .mv (.t 22), none⟩, ⟨some 23, .ext (.t 19) 0, none⟩, ⟨some 24, .ext (.t 19) 1, none⟩, ⟨some 10, .mv (.t 23), none⟩, ⟨some 11, .mv (.t 24), none⟩]) 
    (.seq 
    (.seq (.region 3 [⟨some 25, .mv (.t 0), none⟩, ⟨some 26, .call (.k (.fn 18 [])) [.t 25], none⟩, ⟨some 27, .un .not (.t 26), none⟩, ⟨some 28, .mv (.t 27), none⟩, ⟨some 29, .load 2 true (.t 4), some (28, false)⟩, ⟨some 30, .call (.k (.fn 47 [])) [.t 29], some (28, false)⟩, ⟨some 31, .un .not (.t 30), some (28, false)⟩, ⟨some 32, .pick (.t 28) (.k (.bool true)) (.t 31), none⟩, ⟨some 33, .mv (.t 32), none⟩, ⟨some 34, .load 2 true (.t 5), some (33, false)⟩, ⟨some 35, .call (.k (.fn 47 [])) [.t 34], some (33, false)⟩, ⟨some 36, .un .not (.t 35), some (33, false)⟩, ⟨some 37, .pick (.t 33) (.k (.bool true)) (.t 36), none⟩]) (.cond (.t 37) 
    (.seq (.region 4 [⟨some 38, .mv (.t 0), none⟩, ⟨some 6, .mv (.t 38), none⟩, ⟨some 7, .mv (.k (.int .i64 (2))), none⟩]) .ret) .skip)) 
    (.seq 
    (.seq (.region 5 [⟨some 39, .mv (.t 9), none⟩, ⟨some 40, .un .not (.t 39), none⟩]) (.cond (.t 40) 
    (.seq (.region 6 [⟨some 41, .mv (.t 0), none⟩, ⟨some 6, .mv (.t 41), none⟩, ⟨some 7, .mv (.k (.int .i64 (7))), none⟩]) .ret) .skip)) 
    (.seq 
    (.seq (.region 7 [⟨some 42, .mv (.t 11), none⟩]) (.cond (.t 42) 
    (.seq (.region 8 [⟨some 43, .mv (.t 0), none⟩, ⟨some 6, .mv (.t 43), none⟩, ⟨some 7, .mv (.k (.int .i64 (8))), none⟩]) .ret) .skip)) 
    (.seq (.region 9 [⟨some 44, .mv (.t 0), none⟩, ⟨some 45, .mv (.t 8), none⟩, ⟨some 46, .iaddr 4 (.t 44) (.t 45), none⟩, ⟨some 47, .load 4 true (.t 46), none⟩, ⟨some 12, .alloc [.int .i64 (0), .int .i64 (0), .int .i64 (0), .bool false], none⟩, ⟨none, .store 4 (.t 12) (.t 47), none⟩]) 
    (.seq (.region 10 [⟨some 48, .load 2 true (.t 5), none⟩, ⟨some 49, .faddr 0 (.t 12), none⟩, ⟨none, .store 2 (.t 49) (.t 48), none⟩]) 
    (.seq (.dregion 11 [⟨some 50, .mv (.t 0), none⟩, ⟨some 51, .mv (.t 8), none⟩, ⟨some 52, .call (.k (.fn 68 [])) [.t 50, .t 51], none⟩, ⟨some 53, .mv (.t 8), none⟩, ⟨some 54, .load 4 true (.t 12), none⟩, ⟨some 55, .call (.k (.fn 67 [])) [.t 52, .t 53, .t 54], none⟩, ⟨some 6, .mv (.t 55), none⟩, ⟨some 7, .mv (.k (.int .i64 (0))), none⟩] [(0, 1), (0, 3), (1, 3), (2, 3), (0, 4), (1, 4), (2, 4), (3, 4)]) .ret))))))))⟩
theorem a44_ok : cfun Try.prog Try.f44 = some a44 := by kernel_rfl
def a45 : AFn :=
  ⟨41, [.tmp 6, .tmp 7], .seq (.region 0 [⟨some 4, .box 2 (.t 1), none⟩, ⟨some 6, .mv (.k (.sl 4 true [])), none⟩, ⟨some 7, .mv (.k (.int .i64 (0))), none⟩]) 
    (.seq (.region 1 [⟨some 12, .mv (.t 0), none⟩, ⟨some 13, .load 2 true (.t 4), none⟩, ⟨some 14, .call (.k (.fn 21 [])) [.t 12, .t 13], none⟩, ⟨some 11, .mv (.t 14), none⟩, ⟨some 15, .ext (.t 11) 0, none⟩, ⟨some 16, .ext (.t 11) 1, none⟩, ⟨some 8, .mv (.t 15), none⟩, ⟨some 9, .mv (.t 16), none⟩]) 
    (.seq 
    (.seq (.region 2 [⟨some 17, .mv (.t 0), none⟩, ⟨some 18, .call (.k (.fn 18 [])) [.t 17], none⟩, ⟨some 19, .un .not (.t 18), none⟩, ⟨some 20, .mv (.t 19), none⟩, ⟨some 21, .load 2 true (.t 4), some (20, false)⟩, ⟨some 22, .call (.k (.fn 47 [])) [.t 21], some (20, false)⟩, ⟨some 23, .un .not (.t 22), some (20, false)⟩, ⟨some 24, .pick (.t 20) (.k (.bool true)) (.t 23), none⟩]) (.cond (.t 24) 
    (.seq (.region 3 [⟨some 25, .mv (.t 0), none⟩, ⟨some 6, .mv (.t 25), none⟩, ⟨some 7, .mv (.k (.int .i64 (2))), none⟩]) .ret) .skip)) 
    (.seq 
    (.seq (.region 4 [⟨some 26, .mv (.t 9), none⟩, ⟨some 27, .un .not (.t 26), none⟩]) (.cond (.t 27) 
    (.seq (.region 5 [⟨some 28, .mv (.t 0), none⟩, ⟨some 6, .mv (.t 28), none⟩, ⟨some 7, .mv (.k (.int .i64 (7))), none⟩]) .ret) .skip)) 
    (.seq (.region 6 [⟨some 29, .mv (.t 0), none⟩, ⟨some 30, .mv (.t 8), none⟩, ⟨some 31, .iaddr 4 (.t 29) (.t 30), none⟩, ⟨some 32, .load 4 true (.t 31), none⟩, ⟨some 10, .alloc [.int .i64 (0), .int .i64 (0), .int .i64 (0), .bool false], none⟩, ⟨none, .store 4 (.t 10) (.t 32), none⟩]) 
    (.seq (.region 7 [⟨some 33, .mv (.t 2), none⟩, ⟨some 34, .faddr 3 (.t 10), none⟩, ⟨none, .store 1 (.t 34) (.t 33), none⟩]) 
    (.seq (.dregion 8 [⟨some 35, .mv (.t 0), none⟩, ⟨some 36, .mv (.t 8), none⟩, ⟨some 37, .call (.k (.fn 68 [])) [.t 35, .t 36], none⟩, ⟨some 38, .mv (.t 8), none⟩, ⟨some 39, .load 4 true (.t 10), none⟩, ⟨some 40, .call (.k (.fn 67 [])) [.t 37, .t 38, .t 39], none⟩, ⟨some 6, .mv (.t 40), none⟩, ⟨some 7, .mv (.k (.int .i64 (0))), none⟩] [(0, 1), (0, 3), (1, 3), (2, 3), (0, 4), (1, 4), (2, 4), (3, 4)]) .ret))))))⟩
theorem a45_ok : cfun Try.prog Try.f45 = some a45 := by kernel_rfl
def a46 : AFn :=
  ⟨21, [.tmp 2], .seq (.region 0 [⟨some 1, .box 2 (.t 0), none⟩, ⟨some 2, .mv (.k (.int .i64 (0))), none⟩]) 
    (.seq 
    (.seq (.region 1 [⟨some 3, .faddr 0 (.t 1), none⟩, ⟨some 4, .load 1 false (.t 3), none⟩, ⟨some 5, .bin .lss false none (.t 4) (.k (.int .i64 (0))), none⟩, ⟨some 6, .mv (.t 5), none⟩, ⟨some 7, .faddr 0 (.t 1), some (6, false)⟩, ⟨some 8, .load 1 false (.t 7), some (6, false)⟩, ⟨some 9, .bin .gtr false none (.t 8) (.k (.int .i64 (1023))), some (6, false)⟩, ⟨some 10, .pick (.t 6) (.k (.bool true)) (.t 9), none⟩, ⟨some 11, .mv (.t 10), none⟩, ⟨some 12, .faddr 1 (.t 1), some (11, false)⟩, ⟨some 13, .load 1 false (.t 12), some (11, false)⟩, ⟨some 14, .bin .lss false none (.t 13) (.k (.int .i64 ((-1)))), some (11, false)⟩, ⟨some 15, .pick (.t 11) (.k (.bool true)) (.t 14), none⟩, ⟨some 16, .mv (.t 15), none⟩, ⟨some 17, .faddr 1 (.t 1), some (16, false)⟩, ⟨some 18, .load 1 false (.t 17), some (16, false)⟩, ⟨some 19, .bin .geq false none (.t 18) (.k (.int .i64 (8))), some (16, false)⟩, ⟨some 20, .pick (.t 16) (.k (.bool true)) (.t 19), none⟩]) (.cond (.t 20) 
    (.seq (.region 2 [⟨some 2, .mv (.k (.int .i64 (2))), none⟩]) .ret) .skip)) 
    (.seq (.region 3 [⟨some 2, .mv (.k (.int .i64 (0))), none⟩]) .ret))⟩
theorem a46_ok : cfun Try.prog Try.f46 = some a46 := by kernel_rfl
def a47 : AFn :=
  ⟨21, [.tmp 2], .seq (.region 0 [⟨some 1, .box 2 (.t 0), none⟩, ⟨some 2, .mv (.k (.bool false)), none⟩]) 
    (.seq (.region 1 [⟨some 3, .faddr 0 (.t 1), none⟩, ⟨some 4, .load 1 false (.t 3), none⟩, ⟨some 5, .bin .geq false none (.t 4) (.k (.int .i64 (0))), none⟩, ⟨some 6, .mv (.t 5), none⟩, ⟨some 7, .faddr 0 (.t 1), some (6, true)⟩, ⟨some 8, .load 1 false (.t 7), some (6, true)⟩, ⟨some 9, .bin .leq false none (.t 8) (.k (.int .i64 (1023))), some (6, true)⟩, ⟨some 10, .pick (.t 6) (.t 9) (.k (.bool false)), none⟩, ⟨some 11, .mv (.t 10), none⟩, ⟨some 12, .faddr 1 (.t 1), some (11, true)⟩, ⟨some 13, .load 1 false (.t 12), some (11, true)⟩, ⟨some 14, .bin .geq false none (.t 13) (.k (.int .i64 ((-1)))), some (11, true)⟩, ⟨some 15, .pick (.t 11) (.t 14) (.k (.bool false)), none⟩, ⟨some 16, .mv (.t 15), none⟩, ⟨some 17, .faddr 1 (.t 1), some (16, true)⟩, ⟨some 18, .load 1 false (.t 17), some (16, true)⟩, ⟨some 19, .bin .leq false none (.t 18) (.k (.int .i64 (7))), some (16, true)⟩, ⟨some 20, .pick (.t 16) (.t 19) (.k (.bool false)), none⟩, ⟨some 2, .mv (.t 20), none⟩]) .ret)⟩
theorem a47_ok : cfun Try.prog Try.f47 = some a47 := by kernel_rfl
def a48 : AFn :=
  ⟨26, [.tmp 4], .seq (.region 0 [⟨some 4, .mv (.k (.bool false)), none⟩]) 
    (.seq 
    (.seq (.region 1 [⟨some 6, .mv (.t 0), none⟩, ⟨some 7, .len (.t 6), none⟩, ⟨some 8, .mv (.t 1), none⟩, ⟨some 9, .len (.t 8), none⟩, ⟨some 10, .bin .neq false none (.t 7) (.t 9), none⟩]) (.cond (.t 10) 
    (.seq (.region 2 [⟨some 4, .mv (.k (.bool false)), none⟩]) .ret) .skip)) 
    (.seq 
    (.seq (.region 3 [⟨some 11, .mv (.t 0), none⟩, ⟨some 12, .len (.t 11), none⟩, ⟨some 13, .mv (.k (.int .i64 (0))), none⟩]) (.block 0 (.loop 
    (.seq (.region 4 [⟨some 14, .bin .lss false none (.t 13) (.t 12), none⟩]) 
    (.seq (.cond (.t 14) .skip (.exit 0)) 
    (.seq (.block 1 
    (.seq (.region 5 [⟨some 15, .mv (.t 13), none⟩, ⟨some 5, .mv (.t 15), none⟩]) 
    (.seq (.dregion 6 [⟨some 16, .mv (.t 0), none⟩, ⟨some 17, .mv (.t 5), none⟩, ⟨some 18, .iaddr 4 (.t 16) (.t 17), none⟩, ⟨some 19, .load 4 true (.t 18), none⟩, ⟨some 20, .mv (.t 1), none⟩, ⟨some 21, .mv (.t 5), none⟩, ⟨some 22, .iaddr 4 (.t 20) (.t 21), none⟩, ⟨some 23, .load 4 true (.t 22), none⟩, ⟨some 24, .bin .neq false (some [true, true, true, false]) (.t 19) (.t 23), none⟩] [(0, 1), (0, 4), (1, 4), (2, 4), (3, 4), (0, 5), (1, 5), (2, 5), (3, 5), (4, 5), (0, 6), (1, 6), (2, 6), (3, 6), (0, 7), (1, 7), (2, 7), (3, 7)]) (.cond (.t 24) 
    (.seq (.region 7 [⟨some 4, .mv (.k (.bool false)), none⟩]) .ret) .skip)))) (.region 8 [⟨some 25, .bin .add false none (.t 13) (.k (.int .i64 (1))), none⟩, ⟨some 13, .mv (.t 25), none⟩]))))))) 
    (.seq (.region 9 [⟨some 4, .mv (.k (.bool true)), none⟩]) .ret)))⟩
theorem a48_ok : cfun Try.prog Try.f48 = some a48 := by kernel_rfl
def a49 : AFn :=
  ⟨19, [.tmp 4], .seq (.region 0 [⟨some 4, .mv (.k (.int .i64 (0))), none⟩]) 
    (.seq 
    (.seq (.region 1 [⟨some 6, .mv (.t 0), none⟩, ⟨some 7, .len (.t 6), none⟩, ⟨some 8, .mv (.k (.int .i64 (0))), none⟩]) (.block 0 (.loop 
    (.seq (.region 2 [⟨some 9, .bin .lss false none (.t 8) (.t 7), none⟩]) 
    (.seq (.cond (.t 9) .skip (.exit 0)) 
    (.seq (.block 1 
    (.seq (.region 3 [⟨some 10, .mv (.t 8), none⟩, ⟨some 5, .mv (.t 10), none⟩]) 
    (.seq (.region 4 [⟨some 11, .mv (.t 1), none⟩, ⟨some 12, .mv (.t 0), none⟩, ⟨some 13, .mv (.t 5), none⟩, ⟨some 14, .iaddr 4 (.t 12) (.t 13), none⟩, ⟨some 15, .load 4 true (.t 14), none⟩, ⟨some 16, .call (.t 11) [.t 15], none⟩]) (.cond (.t 16) 
    (.seq (.region 5 [⟨some 17, .mv (.t 5), none⟩, ⟨some 4, .mv (.t 17), none⟩]) .ret) .skip)))) (.region 6 [⟨some 18, .bin .add false none (.t 8) (.k (.int .i64 (1))), none⟩, ⟨some 8, .mv (.t 18), none⟩]))))))) 
    (.seq (.region 7 [⟨some 4, .mv (.k (.int .i64 ((-1)))), none⟩]) .ret))⟩
theorem a49_ok : cfun Try.prog Try.f49 = some a49 := by kernel_rfl
def a50 : AFn :=
  ⟨8, [.tmp 3], .seq (.region 0 [⟨some 2, .box 4 (.t 0), none⟩, ⟨some 3, .mv (.k (.bool false)), none⟩]) 
    (.seq (.region 1 [⟨some 4, .faddr 0 (.t 2), none⟩, ⟨some 5, .load 2 true (.t 4), none⟩, ⟨some 6, .load 2 true (.t 1), none⟩, ⟨some 7, .bin .eql false (some [true, true]) (.t 5) (.t 6), none⟩, ⟨some 3, .mv (.t 7), none⟩]) .ret)⟩
theorem a50_ok : cfun Try.prog Try.f50 = some a50 := by kernel_rfl
def a51 : AFn :=
  ⟨5, [.tmp 2], .seq (.region 0 [⟨some 2, .mv (.k (.sl 2 true [])), none⟩]) 
    (.seq (.region 1 [⟨some 3, .mv (.t 0), none⟩, ⟨some 4, .call (.k (.fn 69 [])) [.k (.sl 2 true []), .t 3], none⟩, ⟨some 2, .mv (.t 4), none⟩]) .ret)⟩
theorem a51_ok : cfun Try.prog Try.f51 = some a51 := by kernel_rfl
def a52 : AFn :=
  ⟨6, [.tmp 4], .seq (.region 0 [⟨some 2, .box 1 (.t 0), none⟩, ⟨some 3, .box 1 (.t 1), none⟩, ⟨some 4, .mv (.k .undef), none⟩]) 
    (.seq (.region 1 [⟨some 5, .mkfn 70 [.t 2, .t 3], none⟩, ⟨some 4, .mv (.t 5), none⟩]) .ret)⟩
theorem a52_ok : cfun Try.prog Try.f52 = some a52 := by kernel_rfl
def a53 : AFn :=
  ⟨32, [.tmp 4], .seq (.region 0 [⟨some 4, .mv (.k (.int .i64 (0))), none⟩]) 
    (.seq (.region 1 [⟨some 5, .mv (.k (.int .i64 (0))), none⟩]) 
    (.seq (.block 0 (.loop 
    (.seq 
    (.seq (.dregion 2 [⟨some 6, .mv (.t 1), none⟩, ⟨some 7, .bin .add false none (.t 6) (.k (.int .i64 (1))), none⟩, ⟨some 8, .mv (.t 5), none⟩, ⟨some 9, .bin .add false none (.t 7) (.t 8), none⟩, ⟨some 10, .mv (.t 0), none⟩, ⟨some 11, .len (.t 10), none⟩, ⟨some 12, .bin .lss false none (.t 9) (.t 11), none⟩, ⟨some 13, .mv (.t 12), none⟩, ⟨some 14, .mv (.t 0), some (13, true)⟩, ⟨some 15, .mv (.t 1), some (13, true)⟩, ⟨some 16, .bin .add false none (.t 15) (.k (.int .i64 (1))), some (13, true)⟩, ⟨some 17, .mv (.t 5), some (13, true)⟩, ⟨some 18, .bin .add false none (.t 16) (.t 17), some (13, true)⟩, ⟨some 19, .iaddr 4 (.t 14) (.t 18), some (13, true)⟩, ⟨some 20, .faddr 2 (.t 19), some (13, true)⟩, ⟨some 21, .load 1 false (.t 20), some (13, true)⟩, ⟨some 22, .mv (.t 0), some (13, true)⟩, ⟨some 23, .mv (.t 1), some (13, true)⟩, ⟨some 24, .iaddr 4 (.t 22) (.t 23), some (13, true)⟩, ⟨some 25, .faddr 2 (.t 24), some (13, true)⟩, ⟨some 26, .load 1 false (.t 25), some (13, true)⟩, ⟨some 27, .bin .gtr false none (.t 21) (.t 26), some (13, true)⟩, ⟨some 28, .pick (.t 13) (.t 27) (.k (.bool false)), none⟩] [(0, 2), (1, 2), (0, 4), (1, 4), (2, 4), (3, 4), (0, 5), (1, 5), (2, 5), (3, 5), (8, 9), (8, 10), (8, 11), (9, 11), (10, 11), (8, 12), (8, 16), (9, 16), (10, 16), (11, 16), (12, 16), (13, 16), (14, 16), (15, 16), (8, 17), (9, 17), (10, 17), (11, 17), (12, 17), (13, 17), (14, 17), (15, 17), (16, 17), (8, 18), (9, 18), (10, 18), (11, 18), (12, 18), (13, 18), (14, 18), (15, 18), (8, 19), (9, 19), (10, 19), (11, 19), (12, 19), (13, 19), (14, 19), (15, 19), (8, 20), (9, 20), (10, 20), (11, 20), (12, 20), (13, 20), (14, 20), (15, 20)]) (.cond (.t 28) .skip (.exit 0))) (.block 1 (.region 3 [⟨some 29, .mv (.t 5), none⟩, ⟨some 30, .bin .add false none (.t 29) (.k (.int .i64 (1))), none⟩, ⟨some 5, .mv (.t 30), none⟩]))))) 
    (.seq (.region 4 [⟨some 31, .mv (.t 5), none⟩, ⟨some 4, .mv (.t 31), none⟩]) .ret)))⟩
theorem a53_ok : cfun Try.prog Try.f53 = some a53 := by kernel_rfl
def a54 : AFn :=
  ⟨9, [.tmp 4], .seq (.region 0 [⟨some 3, .box 2 (.t 1), none⟩, ⟨some 4, .mv (.k (.bool false)), none⟩]) 
    (.seq (.region 1 [⟨some 5, .mv (.t 0), none⟩, ⟨some 6, .load 2 true (.t 3), none⟩, ⟨some 7, .call (.k (.fn 65 [])) [.t 5, .t 6], none⟩, ⟨some 8, .bin .geq false none (.t 7) (.k (.int .i64 (0))), none⟩, ⟨some 4, .mv (.t 8), none⟩]) .ret)⟩
theorem a54_ok : cfun Try.prog Try.f54 = some a54 := by kernel_rfl
def a55 : AFn :=
  ⟨18, [.tmp 4], .seq (.region 0 [⟨some 3, .box 2 (.t 1), none⟩, ⟨some 4, .mv (.k (.bool false)), none⟩]) 
    (.seq 
    (.seq (.region 1 [⟨some 5, .mv (.k (.int .i64 (0))), none⟩]) (.block 0 (.loop 
    (.seq 
    (.seq (.region 2 [⟨some 6, .mv (.t 5), none⟩, ⟨some 7, .mv (.t 0), none⟩, ⟨some 8, .len (.t 7), none⟩, ⟨some 9, .bin .lss false none (.t 6) (.t 8), none⟩]) (.cond (.t 9) .skip (.exit 0))) 
    (.seq (.block 1 
    (.seq (.dregion 4 [⟨some 12, .mv (.t 0), none⟩, ⟨some 13, .mv (.t 5), none⟩, ⟨some 14, .iaddr 2 (.t 12) (.t 13), none⟩, ⟨some 15, .load 2 true (.t 14), none⟩, ⟨some 16, .load 2 true (.t 3), none⟩, ⟨some 17, .bin .eql false (some [true, true]) (.t 15) (.t 16), none⟩] [(0, 1), (0, 4), (1, 4), (2, 4), (3, 4)]) (.cond (.t 17) 
    (.seq (.region 5 [⟨some 4, .mv (.k (.bool true)), none⟩]) .ret) .skip))) (.region 3 [⟨some 10, .mv (.t 5), none⟩, ⟨some 11, .bin .add false none (.t 10) (.k (.int .i64 (1))), none⟩, ⟨some 5, .mv (.t 11), none⟩])))))) 
    (.seq (.region 6 [⟨some 4, .mv (.k (.bool false)), none⟩]) .ret))⟩
theorem a55_ok : cfun Try.prog Try.f55 = some a55 := by kernel_rfl
def a56 : AFn :=
  ⟨15, [.tmp 4], .seq (.region 0 [⟨some 4, .mv (.k (.bool false)), none⟩]) 
    (.seq (.region 1 [⟨some 5, .mv (.k (.fn 71 [])), none⟩]) 
    (.seq (.region 2 [⟨some 6, .mv (.t 0), none⟩, ⟨some 7, .call (.k (.fn 17 [])) [.t 6], none⟩, ⟨some 8, .bin .eql false none (.t 7) (.k (.int .i64 (0))), none⟩, ⟨some 9, .mv (.t 8), none⟩, ⟨some 10, .mv (.t 1), some (9, true)⟩, ⟨some 11, .mv (.t 5), some (9, true)⟩, ⟨some 12, .call (.k (.fn 72 [])) [.t 10, .t 11], some (9, true)⟩, ⟨some 13, .un .not (.t 12), some (9, true)⟩, ⟨some 14, .pick (.t 9) (.t 13) (.k (.bool false)), none⟩, ⟨some 4, .mv (.t 14), none⟩]) .ret))⟩
theorem a56_ok : cfun Try.prog Try.f56 = some a56 := by kernel_rfl
def a57 : AFn :=
  ⟨27, [.tmp 6, .tmp 7], .seq (.region 0 [⟨some 5, .box 4 (.t 2), none⟩, ⟨some 6, .mv (.k (.sl 4 true [])), none⟩, ⟨some 7, .mv (.k (.int .i64 (0))), none⟩]) 
    (.seq 
    (.seq (.region 1 [⟨some 11, .mv (.t 0), none⟩, ⟨some 12, .faddr 0 (.t 5), none⟩, ⟨some 13, .load 2 true (.t 12), none⟩, ⟨some 14, .call (.k (.fn 20 [])) [.t 11, .t 13], none⟩, ⟨some 10, .mv (.t 14), none⟩, ⟨some 15, .ext (.t 10) 0, none⟩, ⟨some 16, .ext (.t 10) 1, none⟩, ⟨some 8, .mv (.t 15), none⟩, ⟨some 9, .mv (.t 16), none⟩]) 
    (.seq (.region 2 [⟨some 17, .mv (.t 9), none⟩]) (.cond (.t 17) 
    (.seq (.region 3 [⟨some 18, .mv (.t 0), none⟩, ⟨some 6, .mv (.t 18), none⟩, ⟨some 7, .mv (.k (.int .i64 (8))), none⟩]) .ret) .skip))) 
    (.seq 
    (.seq (.region 4 [⟨some 19, .mv (.t 0), none⟩, ⟨some 20, .len (.t 19), none⟩, ⟨some 21, .bin .geq false none (.t 20) (.k (.int .i64 (512))), none⟩]) (.cond (.t 21) 
    (.seq (.region 5 [⟨some 22, .mv (.t 0), none⟩, ⟨some 6, .mv (.t 22), none⟩, ⟨some 7, .mv (.k (.int .i64 (6))), none⟩]) .ret) .skip)) 
    (.seq (.region 6 [⟨some 23, .mv (.t 0), none⟩, ⟨some 24, .mv (.t 1), none⟩, ⟨some 25, .load 4 true (.t 5), none⟩, ⟨some 26, .call (.k (.fn 73 [])) [.t 23, .t 24, .t 25], none⟩, ⟨some 6, .mv (.t 26), none⟩, ⟨some 7, .mv (.k (.int .i64 (0))), none⟩]) .ret)))⟩
theorem a57_ok : cfun Try.prog Try.f57 = some a57 := by kernel_rfl
def a58 : AFn :=
  ⟨15, [.tmp 6], .seq (.region 0 [⟨some 5, .box 4 (.t 2), none⟩, ⟨some 6, .mv (.k (.sl 4 true [])), none⟩]) 
    (.seq (.region 1 [⟨some 8, .mv (.t 0), none⟩, ⟨some 9, .call (.k (.fn 74 [])) [.t 8], none⟩, ⟨some 7, .mv (.t 9), none⟩]) 
    (.seq (.region 2 [⟨some 10, .mv (.t 7), none⟩, ⟨some 11, .mv (.t 1), none⟩, ⟨some 12, .load 4 true (.t 5), none⟩, ⟨some 13, .iaddr 4 (.t 10) (.t 11), none⟩, ⟨none, .store 4 (.t 13) (.t 12), none⟩]) 
    (.seq (.region 3 [⟨some 14, .mv (.t 7), none⟩, ⟨some 6, .mv (.t 14), none⟩]) .ret)))⟩
theorem a58_ok : cfun Try.prog Try.f58 = some a58 := by kernel_rfl
def a59 : AFn :=
  ⟨5, [.cell 2 2 true], .seq (.region 0 [⟨some 2, .alloc [.int .i64 (0), .int .i64 (0)], none⟩]) 
    (.seq (.region 1 [⟨some 3, .mv (.t 0), none⟩, ⟨some 4, .build [.int .i64 (0), .int .i64 (0)] [(0, 1), (1, 1)] [(0, .t 3)], none⟩, ⟨none, .store 2 (.t 2) (.t 4), none⟩]) .ret)⟩
theorem a59_ok : cfun Try.prog Try.f59 = some a59 := by kernel_rfl
def a60 : AFn :=
  ⟨94, [.cell 4 3 true, .tmp 5], .seq (.region 0 [⟨some 2, .box 3 (.t 0), none⟩, ⟨some 3, .box 5 (.t 1), none⟩, ⟨some 4, .alloc [.sl 2 true [], .sl 1 true [], .sl 1 true []], none⟩, ⟨some 5, .mv (.k (.int .i64 (0))), none⟩]) 
    (.seq 
    (.seq (.region 1 [⟨some 8, .load 5 true (.t 3), none⟩, ⟨some 9, .call (.k (.fn 75 [])) [.t 8], none⟩, ⟨some 10, .un .not (.t 9), none⟩, ⟨some 11, .mv (.t 10), none⟩, ⟨some 12, .load 3 true (.t 2), some (11, false)⟩, ⟨some 13, .call (.k (.fn 63 [])) [.t 12], some (11, false)⟩, ⟨some 14, .bin .neq false none (.t 13) (.k (.int .i64 (0))), some (11, false)⟩, ⟨some 15, .pick (.t 11) (.k (.bool true)) (.t 14), none⟩]) (.cond (.t 15) 
    (.seq (.region 2 [⟨some 16, .load 3 true (.t 2), none⟩, ⟨none, .store 3 (.t 4) (.t 16), none⟩, ⟨some 5, .mv (.k (.int .i64 (2))), none⟩]) .ret) .skip)) 
    (.seq (.dregion 3 [⟨some 17, .faddr 0 (.t 2), none⟩, ⟨some 18, .load 1 false (.t 17), none⟩, ⟨some 19, .faddr 1 (.t 3), none⟩, ⟨some 20, .load 2 true (.t 19), none⟩, ⟨some 21, .call (.k (.fn 65 [])) [.t 18, .t 20], none⟩, ⟨some 22, .faddr 0 (.t 2), none⟩, ⟨some 23, .load 1 false (.t 22), none⟩, ⟨some 24, .faddr 3 (.t 3), none⟩, ⟨some 25, .load 2 true (.t 24), none⟩, ⟨some 26, .call (.k (.fn 65 [])) [.t 23, .t 25], none⟩, ⟨some 6, .mv (.t 21), none⟩, ⟨some 7, .mv (.t 26), none⟩] [(0, 2), (1, 2), (0, 3), (1, 3), (0, 5), (1, 5), (2, 5), (3, 5), (4, 5), (0, 6), (1, 6), (2, 6), (3, 6), (4, 6), (0, 7), (1, 7), (2, 7), (3, 7), (4, 7), (5, 7), (6, 7), (0, 8), (1, 8), (2, 8), (3, 8), (4, 8), (5, 8), (6, 8)]) 
    (.seq 
    (.seq (.region 4 [⟨some 27, .faddr 0 (.t 3), none⟩, ⟨some 28, .load 1 false (.t 27), none⟩]) (.block 0 
    (.seq (.region 5 [⟨some 30, .bin .eql false none (.t 28) (.k (.int .i64 (4))), none⟩, ⟨some 29, .mv (.t 30), none⟩]) (.cond (.t 29) 
    (.seq 
    (.seq (.region 6 [⟨some 31, .mv (.t 6), none⟩, ⟨some 32, .bin .lss false none (.t 31) (.k (.int .i64 (0))), none⟩]) (.cond (.t 32) 
    (.seq (.region 7 [⟨some 33, .load 3 true (.t 2), none⟩, ⟨none, .store 3 (.t 4) (.t 33), none⟩, ⟨some 5, .mv (.k (.int .i64 (7))), none⟩]) .ret) .skip)) 
    (.seq (.region 8 [⟨some 34, .faddr 0 (.t 2), none⟩, ⟨some 35, .load 1 false (.t 34), none⟩, ⟨some 36, .call (.k (.fn 77 [])) [.t 35], none⟩, ⟨some 37, .mv (.t 6), none⟩, ⟨some 38, .mv (.t 6), none⟩, ⟨some 39, .bin .add false none (.t 38) (.k (.int .i64 (1))), none⟩, ⟨some 40, .call (.k (.fn 76 [])) [.t 36, .t 37, .t 39], none⟩, ⟨some 41, .faddr 0 (.t 2), none⟩, ⟨none, .store 1 (.t 41) (.t 40), none⟩]) 
    (.seq (.region 9 [⟨some 42, .faddr 1 (.t 2), none⟩, ⟨some 43, .load 1 false (.t 42), none⟩, ⟨some 44, .call (.k (.fn 79 [])) [.t 43], none⟩, ⟨some 45, .mv (.t 6), none⟩, ⟨some 46, .mv (.t 6), none⟩, ⟨some 47, .bin .add false none (.t 46) (.k (.int .i64 (1))), none⟩, ⟨some 48, .call (.k (.fn 78 [])) [.t 44, .t 45, .t 47], none⟩, ⟨some 49, .faddr 1 (.t 2), none⟩, ⟨none, .store 1 (.t 49) (.t 48), none⟩]) 
    (.seq (.region 10 [⟨some 50, .load 3 true (.t 2), none⟩, ⟨none, .store 3 (.t 4) (.t 50), none⟩, ⟨some 5, .mv (.k (.int .i64 (0))), none⟩]) .ret)))) 
    (.seq 
    (.seq (.region 11 [⟨some 52, .bin .eql false none (.t 28) (.k (.int .i64 (2))), none⟩, ⟨some 51, .mv (.t 52), none⟩]) (.cond (.t 51) .skip (.region 12 [⟨some 53, .bin .eql false none (.t 28) (.k (.int .i64 (3))), none⟩, ⟨some 51, .mv (.t 53), none⟩]))) (.cond (.t 51) 
    (.seq (.region 13 [⟨some 54, .mv (.t 7), none⟩, ⟨some 55, .bin .lss false none (.t 54) (.k (.int .i64 (0))), none⟩]) (.cond (.t 55) 
    (.seq (.region 14 [⟨some 56, .load 3 true (.t 2), none⟩, ⟨none, .store 3 (.t 4) (.t 56), none⟩, ⟨some 5, .mv (.k (.int .i64 (7))), none⟩]) .ret) .skip)) .skip)))))) 
    (.seq 
    (.seq (.region 15 [⟨some 57, .mv (.t 6), none⟩, ⟨some 58, .bin .geq false none (.t 57) (.k (.int .i64 (0))), none⟩]) (.cond (.t 58) 
    (.seq (.region 16 [⟨some 59, .load 3 true (.t 2), none⟩, ⟨none, .store 3 (.t 4) (.t 59), none⟩, ⟨some 5, .mv (.k (.int .i64 (8))), none⟩]) .ret) .skip)) 
    (.seq 
    (.seq (.region 17 [⟨some 60, .faddr 0 (.t 3), none⟩, ⟨some 61, .load 1 false (.t 60), none⟩]) (.block 1 
    (.seq (.region 18 [⟨some 63, .bin .eql false none (.t 61) (.k (.int .i64 (1))), none⟩, ⟨some 62, .mv (.t 63), none⟩]) (.cond (.t 62) 
    (.seq (.region 19 [⟨some 64, .load 3 true (.t 2), none⟩, ⟨some 65, .faddr 1 (.t 3), none⟩, ⟨some 66, .load 2 true (.t 65), none⟩, ⟨some 67, .call (.k (.fn 80 [])) [.t 64, .t 66, .k (.int .i64 ((-1)))], none⟩, ⟨some 68, .ext (.t 67) 0, none⟩, ⟨some 69, .ext (.t 67) 1, none⟩, ⟨none, .store 3 (.t 4) (.t 68), none⟩, ⟨some 5, .mv (.t 69), none⟩]) .ret) 
    (.seq (.region 20 [⟨some 71, .bin .eql false none (.t 61) (.k (.int .i64 (2))), none⟩, ⟨some 70, .mv (.t 71), none⟩]) (.cond (.t 70) 
    (.seq (.dregion 21 [⟨some 72, .load 3 true (.t 2), none⟩, ⟨some 73, .faddr 1 (.t 3), none⟩, ⟨some 74, .load 2 true (.t 73), none⟩, ⟨some 75, .faddr 1 (.t 2), none⟩, ⟨some 76, .load 1 false (.t 75), none⟩, ⟨some 77, .mv (.t 7), none⟩, ⟨some 78, .iaddr 1 (.t 76) (.t 77), none⟩, ⟨some 79, .load 1 false (.t 78), none⟩, ⟨some 80, .call (.k (.fn 80 [])) [.t 72, .t 74, .t 79], none⟩, ⟨some 81, .ext (.t 80) 0, none⟩, ⟨some 82, .ext (.t 80) 1, none⟩, ⟨none, .store 3 (.t 4) (.t 81), none⟩, ⟨some 5, .mv (.t 82), none⟩] [(0, 1), (0, 2), (0, 3), (1, 3), (2, 3), (0, 4), (1, 4), (2, 4), (0, 5), (1, 5), (2, 5), (3, 5), (4, 5), (0, 6), (1, 6), (2, 6), (0, 7), (1, 7), (2, 7), (9, 10)]) .ret) .skip)))))) 
    (.seq (.region 22 [⟨some 83, .faddr 0 (.t 2), none⟩, ⟨some 84, .load 1 false (.t 83), none⟩, ⟨some 85, .call (.k (.fn 77 [])) [.t 84], none⟩, ⟨some 86, .faddr 0 (.t 2), none⟩, ⟨none, .store 1 (.t 86) (.t 85), none⟩]) 
    (.seq (.region 23 [⟨some 87, .faddr 0 (.t 2), none⟩, ⟨some 88, .load 1 false (.t 87), none⟩, ⟨some 89, .mv (.t 7), none⟩, ⟨some 90, .faddr 1 (.t 3), none⟩, ⟨some 91, .load 2 true (.t 90), none⟩, ⟨some 92, .iaddr 2 (.t 88) (.t 89), none⟩, ⟨none, .store 2 (.t 92) (.t 91), none⟩]) 
    (.seq (.region 24 [⟨some 93, .load 3 true (.t 2), none⟩, ⟨none, .store 3 (.t 4) (.t 93), none⟩, ⟨some 5, .mv (.k (.int .i64 (0))), none⟩]) .ret))))))))⟩
theorem a60_ok : cfun Try.prog Try.f60 = some a60 := by kernel_rfl
def a61 : AFn :=
  ⟨26, [.tmp 4], .seq (.region 0 [⟨some 4, .mv (.k (.bool false)), none⟩]) 
    (.seq 
    (.seq (.region 1 [⟨some 6, .mv (.t 0), none⟩, ⟨some 7, .len (.t 6), none⟩, ⟨some 8, .mv (.t 1), none⟩, ⟨some 9, .len (.t 8), none⟩, ⟨some 10, .bin .neq false none (.t 7) (.t 9), none⟩]) (.cond (.t 10) 
    (.seq (.region 2 [⟨some 4, .mv (.k (.bool false)), none⟩]) .ret) .skip)) 
    (.seq 
    (.seq (.region 3 [⟨some 5, .mv (.k (.int .i64 (0))), none⟩]) (.block 0 (.loop 
    (.seq 
    (.seq (.region 4 [⟨some 11, .mv (.t 5), none⟩, ⟨some 12, .mv (.t 0), none⟩, ⟨some 13, .len (.t 12), none⟩, ⟨some 14, .bin .lss false none (.t 11) (.t 13), none⟩]) (.cond (.t 14) .skip (.exit 0))) 
    (.seq (.block 1 
    (.seq (.dregion 6 [⟨some 17, .mv (.t 0), none⟩, ⟨some 18, .mv (.t 5), none⟩, ⟨some 19, .iaddr 1 (.t 17) (.t 18), none⟩, ⟨some 20, .load 1 false (.t 19), none⟩, ⟨some 21, .mv (.t 1), none⟩, ⟨some 22, .mv (.t 5), none⟩, ⟨some 23, .iaddr 1 (.t 21) (.t 22), none⟩, ⟨some 24, .load 1 false (.t 23), none⟩, ⟨some 25, .bin .neq false none (.t 20) (.t 24), none⟩] [(0, 1), (0, 4), (1, 4), (2, 4), (3, 4), (0, 5), (1, 5), (2, 5), (3, 5), (4, 5), (0, 6), (1, 6), (2, 6), (3, 6), (0, 7), (1, 7), (2, 7), (3, 7)]) (.cond (.t 25) 
    (.seq (.region 7 [⟨some 4, .mv (.k (.bool false)), none⟩]) .ret) .skip))) (.region 5 [⟨some 15, .mv (.t 5), none⟩, ⟨some 16, .bin .add false none (.t 15) (.k (.int .i64 (1))), none⟩, ⟨some 5, .mv (.t 16), none⟩])))))) 
    (.seq (.region 8 [⟨some 4, .mv (.k (.bool true)), none⟩]) .ret)))⟩
theorem a61_ok : cfun Try.prog Try.f61 = some a61 := by kernel_rfl
def a62 : AFn :=
  ⟨33, [.tmp 4], .seq (.region 0 [⟨some 2, .box 3 (.t 0), none⟩, ⟨some 4, .mv (.k (.sl 1 true [])), none⟩]) 
    (.seq (.block 0 (.loop 
    (.seq 
    (.seq (.region 1 [⟨some 6, .mv (.t 1), none⟩, ⟨some 7, .bin .geq false none (.t 6) (.k (.int .i64 (0))), none⟩, ⟨some 8, .mv (.t 7), none⟩, ⟨some 9, .mv (.t 1), some (8, true)⟩, ⟨some 10, .faddr 2 (.t 2), some (8, true)⟩, ⟨some 11, .load 1 false (.t 10), some (8, true)⟩, ⟨some 12, .len (.t 11), some (8, true)⟩, ⟨some 13, .bin .lss false none (.t 9) (.t 12), some (8, true)⟩, ⟨some 14, .pick (.t 8) (.t 13) (.k (.bool false)), none⟩]) (.cond (.t 14) .skip (.exit 0))) (.block 1 
    (.seq (.region 2 [⟨some 15, .faddr 2 (.t 2), none⟩, ⟨some 16, .load 1 false (.t 15), none⟩, ⟨some 17, .mv (.t 1), none⟩, ⟨some 18, .iaddr 1 (.t 16) (.t 17), none⟩, ⟨some 19, .load 1 false (.t 18), none⟩, ⟨some 5, .mv (.t 19), none⟩]) 
    (.seq 
    (.seq (.region 3 [⟨some 20, .mv (.t 5), none⟩, ⟨some 21, .bin .lss false none (.t 20) (.k (.int .i64 (0))), none⟩, ⟨some 22, .mv (.t 21), none⟩, ⟨some 23, .mv (.t 5), some (22, false)⟩, ⟨some 24, .mv (.t 1), some (22, false)⟩, ⟨some 25, .bin .geq false none (.t 23) (.t 24), some (22, false)⟩, ⟨some 26, .pick (.t 22) (.k (.bool true)) (.t 25), none⟩]) (.cond (.t 26) (.exit 0) .skip)) 
    (.seq (.region 4 [⟨some 27, .mv (.t 4), none⟩, ⟨some 28, .mv (.t 5), none⟩, ⟨some 29, .bsl 1 1 [(0, .t 28)], none⟩, ⟨some 30, .app 1 8 (.t 27) (.t 29), none⟩, ⟨some 4, .mv (.t 30), none⟩]) (.region 5 [⟨some 31, .mv (.t 5), none⟩, ⟨some 1, .mv (.t 31), none⟩])))))))) 
    (.seq (.region 6 [⟨some 32, .mv (.t 4), none⟩, ⟨some 4, .mv (.t 32), none⟩]) .ret))⟩
theorem a62_ok : cfun Try.prog Try.f62 = some a62 := by kernel_rfl
def a63 : AFn :=
  ⟨83, [.tmp 2], .seq (.region 0 [⟨some 1, .box 3 (.t 0), none⟩, ⟨some 2, .mv (.k (.int .i64 (0))), none⟩]) 
    (.seq 
    (.seq (.region 1 [⟨some 10, .faddr 0 (.t 1), none⟩, ⟨some 11, .load 1 false (.t 10), none⟩, ⟨some 12, .len (.t 11), none⟩, ⟨some 13, .faddr 1 (.t 1), none⟩, ⟨some 14, .load 1 false (.t 13), none⟩, ⟨some 15, .len (.t 14), none⟩, ⟨some 16, .bin .neq false none (.t 12) (.t 15), none⟩, ⟨some 17, .mv (.t 16), none⟩, ⟨some 18, .faddr 2 (.t 1), some (17, false)⟩, ⟨some 19, .load 1 false (.t 18), some (17, false)⟩, ⟨some 20, .len (.t 19), some (17, false)⟩, ⟨some 21, .bin .gtr false none (.t 20) (.k (.int .i64 (4096))), some (17, false)⟩, ⟨some 22, .pick (.t 17) (.k (.bool true)) (.t 21), none⟩]) (.cond (.t 22) 
    (.seq (.region 2 [⟨some 2, .mv (.k (.int .i64 (2))), none⟩]) .ret) .skip)) 
    (.seq 
    (.seq (.region 3 [⟨some 23, .faddr 2 (.t 1), none⟩, ⟨some 24, .load 1 false (.t 23), none⟩, ⟨some 25, .len (.t 24), none⟩, ⟨some 26, .mv (.k (.int .i64 (0))), none⟩]) (.block 0 (.loop 
    (.seq (.region 4 [⟨some 27, .bin .lss false none (.t 26) (.t 25), none⟩]) 
    (.seq (.cond (.t 27) .skip (.exit 0)) 
    (.seq (.block 1 
    (.seq (.region 5 [⟨some 28, .mv (.t 26), none⟩, ⟨some 29, .iaddr 1 (.t 24) (.t 26), none⟩, ⟨some 30, .load 1 false (.t 29), none⟩, ⟨some 3, .mv (.t 28), none⟩, ⟨some 4, .mv (.t 30), none⟩]) 
    (.seq (.region 6 [⟨some 31, .mv (.t 4), none⟩, ⟨some 32, .bin .lss false none (.t 31) (.k (.int .i64 ((-1)))), none⟩, ⟨some 33, .mv (.t 32), none⟩, ⟨some 34, .mv (.t 4), some (33, false)⟩, ⟨some 35, .mv (.t 3), some (33, false)⟩, ⟨some 36, .bin .geq false none (.t 34) (.t 35), some (33, false)⟩, ⟨some 37, .pick (.t 33) (.k (.bool true)) (.t 36), none⟩]) (.cond (.t 37) 
    (.seq (.region 7 [⟨some 2, .mv (.k (.int .i64 (2))), none⟩]) .ret) .skip)))) (.region 8 [⟨some 38, .bin .add false none (.t 26) (.k (.int .i64 (1))), none⟩, ⟨some 26, .mv (.t 38), none⟩]))))))) 
    (.seq (.region 9 [⟨some 39, .mkmap none, none⟩, ⟨some 40, .mkmap none, none⟩, ⟨some 5, .mv (.t 39), none⟩, ⟨some 6, .mv (.t 40), none⟩]) 
    (.seq 
    (.seq (.region 10 [⟨some 41, .faddr 0 (.t 1), none⟩, ⟨some 42, .load 1 false (.t 41), none⟩, ⟨some 43, .len (.t 42), none⟩, ⟨some 44, .mv (.k (.int .i64 (0))), none⟩]) (.block 2 (.loop 
    (.seq (.region 11 [⟨some 45, .bin .lss false none (.t 44) (.t 43), none⟩]) 
    (.seq (.cond (.t 45) .skip (.exit 2)) 
    (.seq (.block 3 
    (.seq (.region 12 [⟨some 46, .mv (.t 44), none⟩, ⟨some 47, .iaddr 2 (.t 42) (.t 44), none⟩, ⟨some 48, .load 2 true (.t 47), none⟩, ⟨some 8, .alloc [.int .i64 (0), .int .i64 (0)], none⟩, ⟨some 7, .mv (.t 46), none⟩, ⟨none, .store 2 (.t 8) (.t 48), none⟩]) 
    (.seq (.region 13 [⟨some 49, .faddr 1 (.t 1), none⟩, ⟨some 50, .load 1 false (.t 49), none⟩, ⟨some 51, .mv (.t 7), none⟩, ⟨some 52, .iaddr 1 (.t 50) (.t 51), none⟩, ⟨some 53, .load 1 false (.t 52), none⟩, ⟨some 9, .mv (.t 53), none⟩]) 
    (.seq 
    (.seq (.region 14 [⟨some 54, .mv (.t 5), none⟩, ⟨some 55, .load 2 true (.t 8), none⟩, ⟨some 56, .look true [true, true] (.bool false) false (.t 54) (.t 55), none⟩, ⟨some 57, .mv (.t 56), none⟩, ⟨some 58, .mv (.t 6), some (57, false)⟩, ⟨some 59, .mv (.t 9), some (57, false)⟩, ⟨some 60, .look false [true] (.bool false) false (.t 58) (.t 59), some (57, false)⟩, ⟨some 61, .pick (.t 57) (.k (.bool true)) (.t 60), none⟩, ⟨some 62, .mv (.t 61), none⟩, ⟨some 63, .mv (.t 9), some (62, false)⟩, ⟨some 64, .bin .lss false none (.t 63) (.k (.int .i64 (0))), some (62, false)⟩, ⟨some 65, .pick (.t 62) (.k (.bool true)) (.t 64), none⟩, ⟨some 66, .mv (.t 65), none⟩, ⟨some 67, .mv (.t 9), some (66, false)⟩, ⟨some 68, .faddr 2 (.t 1), some (66, false)⟩, ⟨some 69, .load 1 false (.t 68), some (66, false)⟩, ⟨some 70, .len (.t 69), some (66, false)⟩, ⟨some 71, .bin .geq false none (.t 67) (.t 70), some (66, false)⟩, ⟨some 72, .pick (.t 66) (.k (.bool true)) (.t 71), none⟩, ⟨some 73, .mv (.t 72), none⟩, ⟨some 74, .load 2 true (.t 8), some (73, false)⟩, ⟨some 75, .call (.k (.fn 46 [])) [.t 74], some (73, false)⟩, ⟨some 76, .bin .neq false none (.t 75) (.k (.int .i64 (0))), some (73, false)⟩, ⟨some 77, .pick (.t 73) (.k (.bool true)) (.t 76), none⟩]) (.cond (.t 77) 
    (.seq (.region 15 [⟨some 2, .mv (.k (.int .i64 (2))), none⟩]) .ret) .skip)) (.region 16 [⟨some 78, .mv (.t 5), none⟩, ⟨some 79, .load 2 true (.t 8), none⟩, ⟨some 80, .mv (.t 6), none⟩, ⟨some 81, .mv (.t 9), none⟩, ⟨none, .mput true [true, true] (.t 78) (.t 79) (.k (.bool true)), none⟩, ⟨none, .mput false [true] (.t 80) (.t 81) (.k (.bool true)), none⟩]))))) (.region 17 [⟨some 82, .bin .add false none (.t 44) (.k (.int .i64 (1))), none⟩, ⟨some 44, .mv (.t 82), none⟩]))))))) 
    (.seq (.region 18 [⟨some 2, .mv (.k (.int .i64 (0))), none⟩]) .ret)))))⟩
theorem a63_ok : cfun Try.prog Try.f63 = some a63 := by kernel_rfl
def a64 : AFn :=
  ⟨24, [.tmp 4], .seq (.region 0 [⟨some 2, .box 3 (.t 0), none⟩, ⟨some 3, .box 3 (.t 1), none⟩, ⟨some 4, .mv (.k (.bool false)), none⟩]) 
    (.seq (.region 1 [⟨some 5, .faddr 0 (.t 2), none⟩, ⟨some 6, .load 1 false (.t 5), none⟩, ⟨some 7, .faddr 0 (.t 3), none⟩, ⟨some 8, .load 1 false (.t 7), none⟩, ⟨some 9, .call (.k (.fn 81 [])) [.t 6, .t 8], none⟩, ⟨some 10, .mv (.t 9), none⟩, ⟨some 11, .faddr 1 (.t 2), some (10, true)⟩, ⟨some 12, .load 1 false (.t 11), some (10, true)⟩, ⟨some 13, .faddr 1 (.t 3), some (10, true)⟩, ⟨some 14, .load 1 false (.t 13), some (10, true)⟩, ⟨some 15, .call (.k (.fn 82 [])) [.t 12, .t 14], some (10, true)⟩, ⟨some 16, .pick (.t 10) (.t 15) (.k (.bool false)), none⟩, ⟨some 17, .mv (.t 16), none⟩, ⟨some 18, .faddr 2 (.t 2), some (17, true)⟩, ⟨some 19, .load 1 false (.t 18), some (17, true)⟩, ⟨some 20, .faddr 2 (.t 3), some (17, true)⟩, ⟨some 21, .load 1 false (.t 20), some (17, true)⟩, ⟨some 22, .call (.k (.fn 82 [])) [.t 19, .t 21], some (17, true)⟩, ⟨some 23, .pick (.t 17) (.t 22) (.k (.bool false)), none⟩, ⟨some 4, .mv (.t 23), none⟩]) .ret)⟩
theorem a64_ok : cfun Try.prog Try.f64 = some a64 := by kernel_rfl
def a65 : AFn :=
  ⟨19, [.tmp 4], .seq (.region 0 [⟨some 3, .box 2 (.t 1), none⟩, ⟨some 4, .mv (.k (.int .i64 (0))), none⟩]) 
    (.seq 
    (.seq (.region 1 [⟨some 6, .mv (.t 0), none⟩, ⟨some 7, .len (.t 6), none⟩, ⟨some 8, .mv (.k (.int .i64 (0))), none⟩]) (.block 0 (.loop 
    (.seq (.region 2 [⟨some 9, .bin .lss false none (.t 8) (.t 7), none⟩]) 
    (.seq (.cond (.t 9) .skip (.exit 0)) 
    (.seq (.block 1 
    (.seq (.region 3 [⟨some 10, .mv (.t 8), none⟩, ⟨some 5, .mv (.t 10), none⟩]) 
    (.seq (.dregion 4 [⟨some 11, .load 2 true (.t 3), none⟩, ⟨some 12, .mv (.t 0), none⟩, ⟨some 13, .mv (.t 5), none⟩, ⟨some 14, .iaddr 2 (.t 12) (.t 13), none⟩, ⟨some 15, .load 2 true (.t 14), none⟩, ⟨some 16, .bin .eql false (some [true, true]) (.t 11) (.t 15), none⟩] [(0, 1), (0, 2), (1, 2), (0, 3), (0, 4)]) (.cond (.t 16) 
    (.seq (.region 5 [⟨some 17, .mv (.t 5), none⟩, ⟨some 4, .mv (.t 17), none⟩]) .ret) .skip)))) (.region 6 [⟨some 18, .bin .add false none (.t 8) (.k (.int .i64 (1))), none⟩, ⟨some 8, .mv (.t 18), none⟩]))))))) 
    (.seq (.region 7 [⟨some 4, .mv (.k (.int .i64 ((-1)))), none⟩]) .ret))⟩
theorem a65_ok : cfun Try.prog Try.f65 = some a65 := by kernel_rfl
def a66 : AFn :=
  ⟨9, [.tmp 4], .seq (.region 0 [⟨some 4, .mv (.k (.bool false)), none⟩]) 
    (.seq (.region 1 [⟨some 5, .mv (.t 0), none⟩, ⟨some 6, .mv (.t 1), none⟩, ⟨some 7, .call (.k (.fn 83 [])) [.t 5, .t 6], none⟩, ⟨some 8, .bin .geq false none (.t 7) (.k (.int .i64 (0))), none⟩, ⟨some 4, .mv (.t 8), none⟩]) .ret)⟩
theorem a66_ok : cfun Try.prog Try.f66 = some a66 := by kernel_rfl
def a67 : AFn :=
  ⟨19, [.tmp 6], .seq (.region 0 [⟨some 5, .box 4 (.t 2), none⟩, ⟨some 6, .mv (.k (.sl 4 true [])), none⟩]) 
    (.seq (.dregion 1 [⟨some 7, .bsl 4 0 [], none⟩, ⟨some 8, .mv (.t 0), none⟩, ⟨some 9, .mv (.t 1), none⟩, ⟨some 10, .slice 4 (.t 8) none (some (.t 9)) none, none⟩, ⟨some 11, .app 4 32 (.t 7) (.t 10), none⟩, ⟨some 12, .load 4 true (.t 5), none⟩, ⟨some 13, .bsl 4 1 [(0, .t 12)], none⟩, ⟨some 14, .app 4 32 (.t 11) (.t 13), none⟩, ⟨some 15, .mv (.t 0), none⟩, ⟨some 16, .mv (.t 1), none⟩, ⟨some 17, .slice 4 (.t 15) (some (.t 16)) none none, none⟩, ⟨some 18, .app 4 32 (.t 14) (.t 17), none⟩, ⟨some 6, .mv (.t 18), none⟩] [(0, 1), (0, 2), (1, 2), (0, 3), (0, 5), (1, 5), (2, 5), (3, 5), (4, 5), (0, 6), (1, 6), (2, 6), (3, 6), (4, 6), (0, 8), (1, 8), (2, 8), (3, 8), (4, 8), (5, 8), (6, 8), (7, 8), (0, 9), (1, 9), (2, 9), (3, 9), (4, 9), (5, 9), (6, 9), (7, 9), (8, 9), (0, 10), (1, 10), (2, 10), (3, 10), (4, 10), (5, 10), (6, 10), (7, 10)]) .ret)⟩
theorem a67_ok : cfun Try.prog Try.f67 = some a67 := by kernel_rfl
def a68 : AFn :=
  ⟨15, [.tmp 4], .seq (.region 0 [⟨some 4, .mv (.k (.sl 4 true [])), none⟩]) 
    (.seq (.dregion 1 [⟨some 5, .bsl 4 0 [], none⟩, ⟨some 6, .mv (.t 0), none⟩, ⟨some 7, .mv (.t 1), none⟩, ⟨some 8, .slice 4 (.t 6) none (some (.t 7)) none, none⟩, ⟨some 9, .app 4 32 (.t 5) (.t 8), none⟩, ⟨some 10, .mv (.t 0), none⟩, ⟨some 11, .mv (.t 1), none⟩, ⟨some 12, .bin .add false none (.t 11) (.k (.int .i64 (1))), none⟩, ⟨some 13, .slice 4 (.t 10) (some (.t 12)) none none, none⟩, ⟨some 14, .app 4 32 (.t 9) (.t 13), none⟩, ⟨some 4, .mv (.t 14), none⟩] [(0, 1), (0, 2), (1, 2), (0, 3), (0, 5), (1, 5), (2, 5), (3, 5), (4, 5), (0, 6), (1, 6), (2, 6), (3, 6), (4, 6), (5, 6), (0, 7), (1, 7), (2, 7), (3, 7), (4, 7), (5, 7), (0, 8), (1, 8), (2, 8), (3, 8), (4, 8)]) .ret)⟩
theorem a68_ok : cfun Try.prog Try.f68 = some a68 := by kernel_rfl
def a69 : AFn :=
  ⟨13, [.tmp 4], .seq (.region 0 [⟨some 2, .box 1 (.t 0), none⟩, ⟨some 4, .mv (.k (.sl 2 true [])), none⟩]) 
    (.seq 
    (.seq (.region 1 [⟨some 6, .mv (.t 1), none⟩]) (.block 0 (.rangeF (.t 6) [7] (.region 2 [⟨some 5, .alloc [.int .i64 (0), .int .i64 (0)], none⟩, ⟨none, .store 2 (.t 5) (.t 7), none⟩]) (.block 1 (.region 3 [⟨some 8, .load 1 false (.t 2), none⟩, ⟨some 9, .load 2 true (.t 5), none⟩, ⟨some 10, .bsl 2 1 [(0, .t 9)], none⟩, ⟨some 11, .app 2 16 (.t 8) (.t 10), none⟩, ⟨none, .store 1 (.t 2) (.t 11), none⟩]))))) 
    (.seq (.region 4 [⟨some 12, .load 1 false (.t 2), none⟩, ⟨some 4, .mv (.t 12), none⟩]) .ret))⟩
theorem a69_ok : cfun Try.prog Try.f69 = some a69 := by kernel_rfl
def a70 : AFn :=
  ⟨31, [], .seq (.yregion 0 [⟨some 6, .load 1 false (.t 1), none⟩, ⟨some 7, .load 1 false (.t 2), none⟩, ⟨some 8, .bin .add false none (.t 7) (.k (.int .i64 (1))), none⟩, ⟨some 9, .slice 4 (.t 6) (some (.t 8)) none none, none⟩, ⟨some 10, .len (.t 9), none⟩, ⟨some 11, .mv (.k (.int .i64 (0))), none⟩] none) (.block 0 (.loop 
    (.seq (.yregion 1 [⟨some 12, .bin .lss false none (.t 11) (.t 10), none⟩] none) 
    (.seq (.cond (.t 12) .skip (.exit 0)) 
    (.seq (.block 1 
    (.seq (.yregion 2 [⟨some 13, .iaddr 4 (.t 9) (.t 11), none⟩, ⟨some 14, .load 4 true (.t 13), none⟩, ⟨some 5, .alloc [.int .i64 (0), .int .i64 (0), .int .i64 (0), .bool false], none⟩, ⟨none, .store 4 (.t 5) (.t 14), none⟩] none) 
    (.seq (.yregion 3 [⟨some 15, .faddr 2 (.t 5), none⟩, ⟨some 16, .load 1 false (.t 15), none⟩, ⟨some 17, .load 1 false (.t 1), none⟩, ⟨some 18, .load 1 false (.t 2), none⟩, ⟨some 19, .iaddr 4 (.t 17) (.t 18), none⟩, ⟨some 20, .faddr 2 (.t 19), none⟩, ⟨some 21, .load 1 false (.t 20), none⟩, ⟨some 22, .bin .leq false none (.t 16) (.t 21), none⟩, ⟨some 23, .mv (.t 22), none⟩, ⟨some 24, .mv (.t 0), some (23, false)⟩, ⟨some 25, .faddr 0 (.t 5), some (23, false)⟩, ⟨some 26, .load 2 true (.t 25), some (23, false)⟩, ⟨some 27, .call (.t 24) [.t 26], some (23, false)⟩, ⟨some 28, .un .not (.t 27), some (23, false)⟩, ⟨some 29, .pick (.t 23) (.k (.bool true)) (.t 28), none⟩] (some [(0, 2), (1, 2), (0, 3), (1, 3), (2, 3), (0, 4), (1, 4), (0, 5), (1, 5), (0, 6), (1, 6), (9, 10), (9, 11)])) (.cond (.t 29) .ret .skip)))) (.yregion 4 [⟨some 30, .bin .add false none (.t 11) (.k (.int .i64 (1))), none⟩, ⟨some 11, .mv (.t 30), none⟩] none))))))⟩
theorem a70_ok : cfunI Try.prog Try.f70 = some a70 := by kernel_rfl
def a71 : AFn :=
  ⟨6, [.tmp 2], .seq (.region 0 [⟨some 1, .box 2 (.t 0), none⟩, ⟨some 2, .mv (.k (.bool false)), none⟩]) 
    (.seq (.region 1 [⟨some 3, .load 2 true (.t 1), none⟩, ⟨some 4, .call (.k (.fn 46 [])) [.t 3], none⟩, ⟨some 5, .bin .neq false none (.t 4) (.k (.int .i64 (0))), none⟩, ⟨some 2, .mv (.t 5), none⟩]) .ret)⟩
theorem a71_ok : cfun Try.prog Try.f71 = some a71 := by kernel_rfl
def a72 : AFn :=
  ⟨9, [.tmp 4], .seq (.region 0 [⟨some 4, .mv (.k (.bool false)), none⟩]) 
    (.seq (.region 1 [⟨some 5, .mv (.t 0), none⟩, ⟨some 6, .mv (.t 1), none⟩, ⟨some 7, .call (.k (.fn 84 [])) [.t 5, .t 6], none⟩, ⟨some 8, .bin .geq false none (.t 7) (.k (.int .i64 (0))), none⟩, ⟨some 4, .mv (.t 8), none⟩]) .ret)⟩
theorem a72_ok : cfun Try.prog Try.f72 = some a72 := by kernel_rfl
def a73 : AFn :=
  ⟨18, [.tmp 6], .seq (.region 0 [⟨some 5, .box 4 (.t 2), none⟩, ⟨some 6, .mv (.k (.sl 4 true [])), none⟩]) 
    (.seq (.dregion 1 [⟨some 7, .mv (.t 0), none⟩, ⟨some 8, .mv (.t 1), none⟩, ⟨some 9, .mv (.t 1), none⟩, ⟨some 10, .slice 4 (.t 7) none (some (.t 8)) (some (.t 9)), none⟩, ⟨some 11, .load 4 true (.t 5), none⟩, ⟨some 12, .bsl 4 1 [(0, .t 11)], none⟩, ⟨some 13, .app 4 32 (.t 10) (.t 12), none⟩, ⟨some 14, .mv (.t 0), none⟩, ⟨some 15, .mv (.t 1), none⟩, ⟨some 16, .slice 4 (.t 14) (some (.t 15)) none none, none⟩, ⟨some 17, .app 4 32 (.t 13) (.t 16), none⟩, ⟨some 6, .mv (.t 17), none⟩] [(0, 1), (0, 2), (1, 2), (0, 4), (1, 4), (2, 4), (3, 4), (0, 5), (1, 5), (2, 5), (3, 5), (0, 7), (1, 7), (2, 7), (3, 7), (4, 7), (5, 7), (6, 7), (0, 8), (1, 8), (2, 8), (3, 8), (4, 8), (5, 8), (6, 8), (7, 8), (0, 9), (1, 9), (2, 9), (3, 9), (4, 9), (5, 9), (6, 9)]) .ret)⟩
theorem a73_ok : cfun Try.prog Try.f73 = some a73 := by kernel_rfl
def a74 : AFn :=
  ⟨8, [.tmp 2], .seq (.region 0 [⟨some 2, .mv (.k (.sl 4 true [])), none⟩]) 
    (.seq 
    (.seq (.region 1 [⟨some 3, .mv (.t 0), none⟩, ⟨some 4, .nilsl false (.t 3), none⟩]) (.cond (.t 4) 
    (.seq (.region 2 [⟨some 2, .mv (.k (.sl 4 true [])), none⟩]) .ret) .skip)) 
    (.seq (.region 3 [⟨some 5, .bsl 4 0 [], none⟩, ⟨some 6, .mv (.t 0), none⟩, ⟨some 7, .app 4 32 (.t 5) (.t 6), none⟩, ⟨some 2, .mv (.t 7), none⟩]) .ret))⟩
theorem a74_ok : cfun Try.prog Try.f74 = some a74 := by kernel_rfl
def a75 : AFn :=
  ⟨25, [.tmp 2], .seq (.region 0 [⟨some 1, .box 5 (.t 0), none⟩, ⟨some 2, .mv (.k (.bool false)), none⟩]) 
    (.seq 
    (.seq (.region 1 [⟨some 3, .faddr 0 (.t 1), none⟩, ⟨some 4, .load 1 false (.t 3), none⟩]) (.block 0 
    (.seq 
    (.seq (.region 2 [⟨some 6, .bin .eql false none (.t 4) (.k (.int .i64 (2))), none⟩, ⟨some 5, .mv (.t 6), none⟩]) (.cond (.t 5) .skip (.region 3 [⟨some 7, .bin .eql false none (.t 4) (.k (.int .i64 (3))), none⟩, ⟨some 5, .mv (.t 7), none⟩]))) (.cond (.t 5) 
    (.seq (.region 4 [⟨some 8, .faddr 1 (.t 1), none⟩, ⟨some 9, .load 2 true (.t 8), none⟩, ⟨some 10, .call (.k (.fn 46 [])) [.t 9], none⟩, ⟨some 11, .bin .eql false none (.t 10) (.k (.int .i64 (0))), none⟩, ⟨some 12, .mv (.t 11), none⟩, ⟨some 13, .faddr 3 (.t 1), some (12, true)⟩, ⟨some 14, .load 2 true (.t 13), some (12, true)⟩, ⟨some 15, .call (.k (.fn 46 [])) [.t 14], some (12, true)⟩, ⟨some 16, .bin .eql false none (.t 15) (.k (.int .i64 (0))), some (12, true)⟩, ⟨some 17, .pick (.t 12) (.t 16) (.k (.bool false)), none⟩, ⟨some 2, .mv (.t 17), none⟩]) .ret) 
    (.seq 
    (.seq (.region 5 [⟨some 19, .bin .eql false none (.t 4) (.k (.int .i64 (1))), none⟩, ⟨some 18, .mv (.t 19), none⟩]) (.cond (.t 18) .skip (.region 6 [⟨some 20, .bin .eql false none (.t 4) (.k (.int .i64 (4))), none⟩, ⟨some 18, .mv (.t 20), none⟩]))) (.cond (.t 18) 
    (.seq (.region 7 [⟨some 21, .faddr 1 (.t 1), none⟩, ⟨some 22, .load 2 true (.t 21), none⟩, ⟨some 23, .call (.k (.fn 46 [])) [.t 22], none⟩, ⟨some 24, .bin .eql false none (.t 23) (.k (.int .i64 (0))), none⟩, ⟨some 2, .mv (.t 24), none⟩]) .ret) .skip)))))) 
    (.seq (.region 8 [⟨some 2, .mv (.k (.bool false)), none⟩]) .ret))⟩
theorem a75_ok : cfun Try.prog Try.f75 = some a75 := by kernel_rfl
-- 76: out of reach
def a77 : AFn :=
  ⟨8, [.tmp 2], .seq (.region 0 [⟨some 2, .mv (.k (.sl 2 true [])), none⟩]) 
    (.seq 
    (.seq (.region 1 [⟨some 3, .mv (.t 0), none⟩, ⟨some 4, .nilsl false (.t 3), none⟩]) (.cond (.t 4) 
    (.seq (.region 2 [⟨some 2, .mv (.k (.sl 2 true [])), none⟩]) .ret) .skip)) 
    (.seq (.region 3 [⟨some 5, .bsl 2 0 [], none⟩, ⟨some 6, .mv (.t 0), none⟩, ⟨some 7, .app 2 16 (.t 5) (.t 6), none⟩, ⟨some 2, .mv (.t 7), none⟩]) .ret))⟩
theorem a77_ok : cfun Try.prog Try.f77 = some a77 := by kernel_rfl
-- 78: out of reach
def a79 : AFn :=
  ⟨8, [.tmp 2], .seq (.region 0 [⟨some 2, .mv (.k (.sl 1 true [])), none⟩]) 
    (.seq 
    (.seq (.region 1 [⟨some 3, .mv (.t 0), none⟩, ⟨some 4, .nilsl false (.t 3), none⟩]) (.cond (.t 4) 
    (.seq (.region 2 [⟨some 2, .mv (.k (.sl 1 true [])), none⟩]) .ret) .skip)) 
    (.seq (.region 3 [⟨some 5, .bsl 1 0 [], none⟩, ⟨some 6, .mv (.t 0), none⟩, ⟨some 7, .app 1 8 (.t 5) (.t 6), none⟩, ⟨some 2, .mv (.t 7), none⟩]) .ret))⟩
theorem a79_ok : cfun Try.prog Try.f79 = some a79 := by kernel_rfl
def a80 : AFn :=
  ⟨37, [.cell 6 3 true, .tmp 7], .seq (.region 0 [⟨some 3, .box 3 (.t 0), none⟩, ⟨some 4, .box 2 (.t 1), none⟩, ⟨some 6, .alloc [.sl 2 true [], .sl 1 true [], .sl 1 true []], none⟩, ⟨some 7, .mv (.k (.int .i64 (0))), none⟩]) 
    (.seq 
    (.seq (.region 1 [⟨some 8, .faddr 2 (.t 3), none⟩, ⟨some 9, .load 1 false (.t 8), none⟩, ⟨some 10, .len (.t 9), none⟩, ⟨some 11, .bin .geq false none (.t 10) (.k (.int .i64 (4096))), none⟩]) (.cond (.t 11) 
    (.seq (.region 2 [⟨some 12, .load 3 true (.t 3), none⟩, ⟨none, .store 3 (.t 6) (.t 12), none⟩, ⟨some 7, .mv (.k (.int .i64 (6))), none⟩]) .ret) .skip)) 
    (.seq (.dregion 3 [⟨some 13, .faddr 0 (.t 3), none⟩, ⟨some 14, .load 1 false (.t 13), none⟩, ⟨some 15, .call (.k (.fn 77 [])) [.t 14], none⟩, ⟨some 16, .load 2 true (.t 4), none⟩, ⟨some 17, .bsl 2 1 [(0, .t 16)], none⟩, ⟨some 18, .app 2 16 (.t 15) (.t 17), none⟩, ⟨some 19, .faddr 0 (.t 3), none⟩, ⟨none, .store 1 (.t 19) (.t 18), none⟩] [(0, 3), (1, 3), (2, 3), (0, 4), (1, 4), (2, 4)]) 
    (.seq (.dregion 4 [⟨some 20, .faddr 1 (.t 3), none⟩, ⟨some 21, .load 1 false (.t 20), none⟩, ⟨some 22, .call (.k (.fn 79 [])) [.t 21], none⟩, ⟨some 23, .faddr 2 (.t 3), none⟩, ⟨some 24, .load 1 false (.t 23), none⟩, ⟨some 25, .len (.t 24), none⟩, ⟨some 26, .bsl 1 1 [(0, .t 25)], none⟩, ⟨some 27, .app 1 8 (.t 22) (.t 26), none⟩, ⟨some 28, .faddr 1 (.t 3), none⟩, ⟨none, .store 1 (.t 28) (.t 27), none⟩] [(0, 3), (1, 3), (2, 3), (0, 4), (1, 4), (2, 4), (0, 5), (1, 5), (2, 5), (0, 6), (1, 6), (2, 6)]) 
    (.seq (.region 5 [⟨some 29, .faddr 2 (.t 3), none⟩, ⟨some 30, .load 1 false (.t 29), none⟩, ⟨some 31, .call (.k (.fn 79 [])) [.t 30], none⟩, ⟨some 32, .mv (.t 2), none⟩, ⟨some 33, .bsl 1 1 [(0, .t 32)], none⟩, ⟨some 34, .app 1 8 (.t 31) (.t 33), none⟩, ⟨some 35, .faddr 2 (.t 3), none⟩, ⟨none, .store 1 (.t 35) (.t 34), none⟩]) 
    (.seq (.region 6 [⟨some 36, .load 3 true (.t 3), none⟩, ⟨none, .store 3 (.t 6) (.t 36), none⟩, ⟨some 7, .mv (.k (.int .i64 (0))), none⟩]) .ret)))))⟩
theorem a80_ok : cfun Try.prog Try.f80 = some a80 := by kernel_rfl
def a81 : AFn :=
  ⟨26, [.tmp 4], .seq (.region 0 [⟨some 4, .mv (.k (.bool false)), none⟩]) 
    (.seq 
    (.seq (.region 1 [⟨some 6, .mv (.t 0), none⟩, ⟨some 7, .len (.t 6), none⟩, ⟨some 8, .mv (.t 1), none⟩, ⟨some 9, .len (.t 8), none⟩, ⟨some 10, .bin .neq false none (.t 7) (.t 9), none⟩]) (.cond (.t 10) 
    (.seq (.region 2 [⟨some 4, .mv (.k (.bool false)), none⟩]) .ret) .skip)) 
    (.seq 
    (.seq (.region 3 [⟨some 11, .mv (.t 0), none⟩, ⟨some 12, .len (.t 11), none⟩, ⟨some 13, .mv (.k (.int .i64 (0))), none⟩]) (.block 0 (.loop 
    (.seq (.region 4 [⟨some 14, .bin .lss false none (.t 13) (.t 12), none⟩]) 
    (.seq (.cond (.t 14) .skip (.exit 0)) 
    (.seq (.block 1 
    (.seq (.region 5 [⟨some 15, .mv (.t 13), none⟩, ⟨some 5, .mv (.t 15), none⟩]) 
    (.seq (.dregion 6 [⟨some 16, .mv (.t 0), none⟩, ⟨some 17, .mv (.t 5), none⟩, ⟨some 18, .iaddr 2 (.t 16) (.t 17), none⟩, ⟨some 19, .load 2 true (.t 18), none⟩, ⟨some 20, .mv (.t 1), none⟩, ⟨some 21, .mv (.t 5), none⟩, ⟨some 22, .iaddr 2 (.t 20) (.t 21), none⟩, ⟨some 23, .load 2 true (.t 22), none⟩, ⟨some 24, .bin .neq false (some [true, true]) (.t 19) (.t 23), none⟩] [(0, 1), (0, 4), (1, 4), (2, 4), (3, 4), (0, 5), (1, 5), (2, 5), (3, 5), (4, 5), (0, 6), (1, 6), (2, 6), (3, 6), (0, 7), (1, 7), (2, 7), (3, 7)]) (.cond (.t 24) 
    (.seq (.region 7 [⟨some 4, .mv (.k (.bool false)), none⟩]) .ret) .skip)))) (.region 8 [⟨some 25, .bin .add false none (.t 13) (.k (.int .i64 (1))), none⟩, ⟨some 13, .mv (.t 25), none⟩]))))))) 
    (.seq (.region 9 [⟨some 4, .mv (.k (.bool true)), none⟩]) .ret)))⟩
theorem a81_ok : cfun Try.prog Try.f81 = some a81 := by kernel_rfl
def a82 : AFn :=
  ⟨26, [.tmp 4], .seq (.region 0 [⟨some 4, .mv (.k (.bool false)), none⟩]) 
    (.seq 
    (.seq (.region 1 [⟨some 6, .mv (.t 0), none⟩, ⟨some 7, .len (.t 6), none⟩, ⟨some 8, .mv (.t 1), none⟩, ⟨some 9, .len (.t 8), none⟩, ⟨some 10, .bin .neq false none (.t 7) (.t 9), none⟩]) (.cond (.t 10) 
    (.seq (.region 2 [⟨some 4, .mv (.k (.bool false)), none⟩]) .ret) .skip)) 
    (.seq 
    (.seq (.region 3 [⟨some 11, .mv (.t 0), none⟩, ⟨some 12, .len (.t 11), none⟩, ⟨some 13, .mv (.k (.int .i64 (0))), none⟩]) (.block 0 (.loop 
    (.seq (.region 4 [⟨some 14, .bin .lss false none (.t 13) (.t 12), none⟩]) 
    (.seq (.cond (.t 14) .skip (.exit 0)) 
    (.seq (.block 1 
    (.seq (.region 5 [⟨some 15, .mv (.t 13), none⟩, ⟨some 5, .mv (.t 15), none⟩]) 
    (.seq (.dregion 6 [⟨some 16, .mv (.t 0), none⟩, ⟨some 17, .mv (.t 5), none⟩, ⟨some 18, .iaddr 1 (.t 16) (.t 17), none⟩, ⟨some 19, .load 1 false (.t 18), none⟩, ⟨some 20, .mv (.t 1), none⟩, ⟨some 21, .mv (.t 5), none⟩, ⟨some 22, .iaddr 1 (.t 20) (.t 21), none⟩, ⟨some 23, .load 1 false (.t 22), none⟩, ⟨some 24, .bin .neq false none (.t 19) (.t 23), none⟩] [(0, 1), (0, 4), (1, 4), (2, 4), (3, 4), (0, 5), (1, 5), (2, 5), (3, 5), (4, 5), (0, 6), (1, 6), (2, 6), (3, 6), (0, 7), (1, 7), (2, 7), (3, 7)]) (.cond (.t 24) 
    (.seq (.region 7 [⟨some 4, .mv (.k (.bool false)), none⟩]) .ret) .skip)))) (.region 8 [⟨some 25, .bin .add false none (.t 13) (.k (.int .i64 (1))), none⟩, ⟨some 13, .mv (.t 25), none⟩]))))))) 
    (.seq (.region 9 [⟨some 4, .mv (.k (.bool true)), none⟩]) .ret)))⟩
theorem a82_ok : cfun Try.prog Try.f82 = some a82 := by kernel_rfl
def a83 : AFn :=
  ⟨19, [.tmp 4], .seq (.region 0 [⟨some 4, .mv (.k (.int .i64 (0))), none⟩]) 
    (.seq 
    (.seq (.region 1 [⟨some 6, .mv (.t 0), none⟩, ⟨some 7, .len (.t 6), none⟩, ⟨some 8, .mv (.k (.int .i64 (0))), none⟩]) (.block 0 (.loop 
    (.seq (.region 2 [⟨some 9, .bin .lss false none (.t 8) (.t 7), none⟩]) 
    (.seq (.cond (.t 9) .skip (.exit 0)) 
    (.seq (.block 1 
    (.seq (.region 3 [⟨some 10, .mv (.t 8), none⟩, ⟨some 5, .mv (.t 10), none⟩]) 
    (.seq (.region 4 [⟨some 11, .mv (.t 1), none⟩, ⟨some 12, .mv (.t 0), none⟩, ⟨some 13, .mv (.t 5), none⟩, ⟨some 14, .iaddr 1 (.t 12) (.t 13), none⟩, ⟨some 15, .load 1 false (.t 14), none⟩, ⟨some 16, .bin .eql false none (.t 11) (.t 15), none⟩]) (.cond (.t 16) 
    (.seq (.region 5 [⟨some 17, .mv (.t 5), none⟩, ⟨some 4, .mv (.t 17), none⟩]) .ret) .skip)))) (.region 6 [⟨some 18, .bin .add false none (.t 8) (.k (.int .i64 (1))), none⟩, ⟨some 8, .mv (.t 18), none⟩]))))))) 
    (.seq (.region 7 [⟨some 4, .mv (.k (.int .i64 ((-1)))), none⟩]) .ret))⟩
theorem a83_ok : cfun Try.prog Try.f83 = some a83 := by kernel_rfl
def a84 : AFn :=
  ⟨19, [.tmp 4], .seq (.region 0 [⟨some 4, .mv (.k (.int .i64 (0))), none⟩]) 
    (.seq 
    (.seq (.region 1 [⟨some 6, .mv (.t 0), none⟩, ⟨some 7, .len (.t 6), none⟩, ⟨some 8, .mv (.k (.int .i64 (0))), none⟩]) (.block 0 (.loop 
    (.seq (.region 2 [⟨some 9, .bin .lss false none (.t 8) (.t 7), none⟩]) 
    (.seq (.cond (.t 9) .skip (.exit 0)) 
    (.seq (.block 1 
    (.seq (.region 3 [⟨some 10, .mv (.t 8), none⟩, ⟨some 5, .mv (.t 10), none⟩]) 
    (.seq (.region 4 [⟨some 11, .mv (.t 1), none⟩, ⟨some 12, .mv (.t 0), none⟩, ⟨some 13, .mv (.t 5), none⟩, ⟨some 14, .iaddr 2 (.t 12) (.t 13), none⟩, ⟨some 15, .load 2 true (.t 14), none⟩, ⟨some 16, .call (.t 11) [.t 15], none⟩]) (.cond (.t 16) 
    (.seq (.region 5 [⟨some 17, .mv (.t 5), none⟩, ⟨some 4, .mv (.t 17), none⟩]) .ret) .skip)))) (.region 6 [⟨some 18, .bin .add false none (.t 8) (.k (.int .i64 (1))), none⟩, ⟨some 8, .mv (.t 18), none⟩]))))))) 
    (.seq (.region 7 [⟨some 4, .mv (.k (.int .i64 ((-1)))), none⟩]) .ret))⟩
theorem a84_ok : cfun Try.prog Try.f84 = some a84 := by kernel_rfl

end Go.Proofs.Ytpgkpdojpmikkaa.Eng
