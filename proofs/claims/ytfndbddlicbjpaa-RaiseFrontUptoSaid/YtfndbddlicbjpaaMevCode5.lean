/- The program's functions as the evaluator runs them: written by a program of this session out of the loaded code. -/
import Derived.Test.YtfndbddlicbjpaaProg
import Derived.Test.YtfndbddlicbjpaaMevAnn
import Derived.Test.YtfndbddlicbjpaaMevStep
import Derived.KernelRfl

set_option maxRecDepth 100000
namespace Mev
open Go.Proofs

/-! mortise/mortiselaw17.RaiseFront -/
def b4x0 : CC := .seq (.seq (.reg [o 41 (.mv (.t 7)), o 42 (.faddr 2 (.t 5)), o 43 (.load false 1 (.t 42)), o 44 (.len .sl (.t 43)), o 45 (.bin .lss .no (.t 41) (.t 44))]) (
 .cond (.t 45) (.skip) (.exit 0))) (
 .seq (.block 1 (.seq (.drw [⟨(some 48), none, .faddr 2 (.t 5), [], [], 0, 0, [5]⟩, ⟨(some 49), none, .load false 1 (.t 48), [], [], 0, 0, [48]⟩, ⟨(some 50), none, .mv (.t 7), [], [], 0, 0, [7]⟩, ⟨(some 51), none, .iaddr 1 (.t 49) (.t 50), [], [], 0, 0, [49, 50]⟩, ⟨(some 52), none, .load false 1 (.t 51), [], [], 0, 0, [51]⟩, ⟨(some 53), none, .faddr 2 (.t 5), [], [], 0, 0, [5]⟩, ⟨(some 54), none, .load false 1 (.t 53), [], [], 0, 0, [53]⟩, ⟨(some 55), none, .mv (.t 7), [], [], 0, 0, [7]⟩, ⟨(some 56), none, .bin .sub .no (.t 55) (.c (.int .i64 1)), [], [], 0, 0, [55]⟩, ⟨(some 57), none, .iaddr 1 (.t 54) (.t 56), [], [], 0, 0, [54, 56]⟩, ⟨(some 58), none, .load false 1 (.t 57), [], [], 0, 0, [57]⟩, ⟨(some 59), none, .bin .leq .no (.t 52) (.t 58), [], [], 0, 0, [52, 58]⟩, ⟨(some 60), none, .mv (.t 59), [], [], 0, 0, [59]⟩, ⟨(some 61), (some (60, false)), .faddr 1 (.t 5), [], [], 0, 0, [5]⟩, ⟨(some 62), (some (60, false)), .load false 1 (.t 61), [], [], 0, 0, [61]⟩, ⟨(some 63), (some (60, false)), .faddr 2 (.t 5), [], [], 0, 0, [5]⟩, ⟨(some 64), (some (60, false)), .load false 1 (.t 63), [], [], 0, 0, [63]⟩, ⟨(some 65), (some (60, false)), .mv (.t 7), [], [], 0, 0, [7]⟩, ⟨(some 66), (some (60, false)), .iaddr 1 (.t 64) (.t 65), [], [], 0, 0, [64, 65]⟩, ⟨(some 67), (some (60, false)), .load false 1 (.t 66), [], [], 0, 0, [66]⟩, ⟨(some 68), (some (60, false)), .bin .sub .no (.t 67) (.c (.int .i64 1)), [], [], 0, 0, [67]⟩, ⟨(some 69), (some (60, false)), .iaddr 4 (.t 62) (.t 68), [], [], 0, 0, [62, 68]⟩, ⟨(some 70), (some (60, false)), .faddr 0 (.t 69), [], [], 0, 0, [69]⟩, ⟨(some 71), (some (60, false)), .load false 1 (.t 70), [], [], 0, 0, [70]⟩, ⟨(some 72), (some (60, false)), .bin .neq .no (.t 71) (.c (.int .i64 20)), [], [], 0, 0, [71]⟩, ⟨(some 73), none, .pick (.t 60) (.c (.bool true)) (.t 72), [], [], 0, 0, [60, 72]⟩]) (
 .cond (.t 73) (.seq (.reg [o 4 (.mv (.c (.bool false)))]) (
 .ret)) (.skip)))) (
 .reg [o 46 (.mv (.t 7)), o 47 (.bin .add .no (.t 46) (.c (.int .i64 1))), o 7 (.mv (.t 47))]))
def b4x2 : CC := .seq (.seq (.reg [o 129 (.mv (.t 10)), o 130 (.mv (.t 8)), o 131 (.bin .lss .no (.t 129) (.t 130))]) (
 .cond (.t 131) (.skip) (.exit 2))) (
 .seq (.block 3 (.seq (.drw [⟨(some 134), none, .faddr 2 (.t 9), [], [], 0, 0, [9]⟩, ⟨(some 135), none, .load false 1 (.t 134), [], [], 0, 0, [134]⟩, ⟨(some 136), none, .mv (.t 10), [], [], 0, 0, [10]⟩, ⟨(some 137), none, .iaddr 1 (.t 135) (.t 136), [], [], 0, 0, [135, 136]⟩, ⟨(some 138), none, .load false 1 (.t 137), [], [], 0, 0, [137]⟩, ⟨(some 139), none, .faddr 2 (.t 5), [], [], 0, 0, [5]⟩, ⟨(some 140), none, .load false 1 (.t 139), [], [], 0, 0, [139]⟩, ⟨(some 141), none, .mv (.t 10), [], [], 0, 0, [10]⟩, ⟨(some 142), none, .iaddr 1 (.t 140) (.t 141), [], [], 0, 0, [140, 141]⟩, ⟨(some 143), none, .load false 1 (.t 142), [], [], 0, 0, [142]⟩, ⟨(some 144), none, .bin .neq .no (.t 138) (.t 143), [], [], 0, 0, [138, 143]⟩]) (
 .cond (.t 144) (.seq (.reg [o 4 (.mv (.c (.bool false)))]) (
 .ret)) (.skip)))) (
 .reg [o 132 (.mv (.t 10)), o 133 (.bin .add .no (.t 132) (.c (.int .i64 1))), o 10 (.mv (.t 133))]))
def b4x4 : CC := .seq (.seq (.reg [o 145 (.mv (.t 11)), o 146 (.faddr 1 (.t 9)), o 147 (.load false 1 (.t 146)), o 148 (.len .sl (.t 147)), o 149 (.bin .lss .no (.t 145) (.t 148))]) (
 .cond (.t 149) (.skip) (.exit 4))) (
 .seq (.block 5 (.seq (.drw [⟨(some 152), none, .faddr 1 (.t 9), [], [], 0, 0, [9]⟩, ⟨(some 153), none, .load false 1 (.t 152), [], [], 0, 0, [152]⟩, ⟨(some 154), none, .mv (.t 11), [], [], 0, 0, [11]⟩, ⟨(some 155), none, .iaddr 4 (.t 153) (.t 154), [], [], 0, 0, [153, 154]⟩, ⟨(some 156), none, .load true 4 (.t 155), [], [], 0, 0, [155]⟩, ⟨(some 157), none, .faddr 1 (.t 5), [], [], 0, 0, [5]⟩, ⟨(some 158), none, .load false 1 (.t 157), [], [], 0, 0, [157]⟩, ⟨(some 159), none, .mv (.t 11), [], [], 0, 0, [11]⟩, ⟨(some 160), none, .iaddr 4 (.t 158) (.t 159), [], [], 0, 0, [158, 159]⟩, ⟨(some 161), none, .load true 4 (.t 160), [], [], 0, 0, [160]⟩, ⟨(some 162), none, .bin .neq (.flat [.int, .int, .int, .int]) (.t 156) (.t 161), [], [], 0, 0, [156, 161]⟩]) (
 .cond (.t 162) (.seq (.reg [o 4 (.mv (.c (.bool false)))]) (
 .ret)) (.skip)))) (
 .reg [o 150 (.mv (.t 11)), o 151 (.bin .add .no (.t 150) (.c (.int .i64 1))), o 11 (.mv (.t 151))]))
def c4 : CFn := ⟨163, [.t 4], .seq (.reg [o 2 (.box 2 (.t 0)), o 4 (.mv (.c (.bool false)))]) (
 .seq (.seq (.reg [o 12 (.call (.c (.fn 5 [])) []), o 13 (.una .not (.t 12))]) (
 .cond (.t 13) (.seq (.reg [o 4 (.mv (.c (.bool false)))]) (
 .ret)) (.skip))) (
 .seq (.reg [o 15 (.load true 2 (.t 2)), o 16 (.call (.c (.fn 7 [])) [.t 15]), o 14 (.mv (.t 16)), o 17 (.extr (.t 14) 0), o 18 (.extr (.t 14) 1), o 5 (.alloc [.bool false, .nils, .nils]), x (.store 3 (.t 5) (.t 17)), o 6 (.mv (.t 18))]) (
 .seq (.seq (.reg [o 19 (.mv (.t 6)), o 20 (.bin .neq .no (.t 19) (.c (.int .i64 0)))]) (
 .cond (.t 20) (.seq (.reg [o 4 (.mv (.c (.bool true)))]) (
 .ret)) (.skip))) (
 .seq (.seq (.reg [o 21 (.faddr 2 (.t 5)), o 22 (.load false 1 (.t 21)), o 23 (.len .sl (.t 22)), o 24 (.faddr 0 (.t 2)), o 25 (.load false 1 (.t 24)), o 26 (.len .sl (.t 25)), o 27 (.bin .neq .no (.t 23) (.t 26)), o 28 (.mv (.t 27)), g (some 29) 28 false (.faddr 2 (.t 5)), g (some 30) 28 false (.load false 1 (.t 29)), g (some 31) 28 false (.len .sl (.t 30)), g (some 32) 28 false (.bin .gtr .no (.t 31) (.c (.int .i64 0))), g (some 33) 28 false (.mv (.t 32)), g (some 34) 33 true (.faddr 2 (.t 5)), g (some 35) 33 true (.load false 1 (.t 34)), g (some 36) 33 true (.iaddr 1 (.t 35) (.c (.int .i64 0))), g (some 37) 33 true (.load false 1 (.t 36)), g (some 38) 33 true (.bin .neq .no (.t 37) (.c (.int .i64 0))), g (some 39) 28 false (.pick (.t 33) (.t 38) (.c (.bool false))), o 40 (.pick (.t 28) (.c (.bool true)) (.t 39))]) (
 .cond (.t 40) (.seq (.reg [o 4 (.mv (.c (.bool false)))]) (
 .ret)) (.skip))) (
 .seq (.seq (.reg [o 7 (.mv (.c (.int .i64 1)))]) (
 .block 0 (.loop (some [1, 2, 5, 7]) b4x0))) (
 .seq (.reg [o 74 (.mv (.t 1)), o 75 (.mv (.t 1)), o 76 (.bin .add .no (.t 75) (.c (.int .i64 1))), o 77 (.una .neg (.t 76)), o 78 (.max [.t 74, .t 77]), o 79 (.faddr 0 (.t 2)), o 80 (.load false 1 (.t 79)), o 81 (.len .sl (.t 80)), o 82 (.bin .add .no (.t 81) (.c (.int .i64 1))), o 83 (.bin .rem .no (.t 78) (.t 82)), o 8 (.mv (.t 83))]) (
 .seq (.reg [o 85 (.faddr 0 (.t 2)), o 86 (.load false 1 (.t 85)), o 87 (.mv (.t 8)), o 88 (.slice (some 4) (.t 86) none (some (.t 87))), o 89 (.build [.nils, .nils] [(0, 1, (.t 88))]), o 90 (.call (.c (.fn 7 [])) [.t 89]), o 84 (.mv (.t 90)), o 91 (.extr (.t 84) 0), o 92 (.extr (.t 84) 1), o 9 (.alloc [.bool false, .nils, .nils]), x (.store 3 (.t 9) (.t 91)), o 6 (.mv (.t 92))]) (
 .seq (.seq (.drw [⟨(some 93), none, .mv (.t 6), [], [], 0, 0, [6]⟩, ⟨(some 94), none, .bin .neq .no (.t 93) (.c (.int .i64 0)), [], [], 0, 0, [93]⟩, ⟨(some 95), none, .mv (.t 94), [], [], 0, 0, [94]⟩, ⟨(some 96), (some (95, false)), .faddr 2 (.t 9), [], [], 0, 0, [9]⟩, ⟨(some 97), (some (95, false)), .load false 1 (.t 96), [], [], 0, 0, [96]⟩, ⟨(some 98), (some (95, false)), .len .sl (.t 97), [], [], 0, 0, [97]⟩, ⟨(some 99), (some (95, false)), .mv (.t 8), [], [], 0, 0, [8]⟩, ⟨(some 100), (some (95, false)), .bin .neq .no (.t 98) (.t 99), [], [], 0, 0, [98, 99]⟩, ⟨(some 101), none, .pick (.t 95) (.c (.bool true)) (.t 100), [], [], 0, 0, [95, 100]⟩, ⟨(some 102), none, .mv (.t 101), [], [], 0, 0, [101]⟩, ⟨(some 103), (some (102, false)), .faddr 1 (.t 9), [], [], 0, 0, [9]⟩, ⟨(some 104), (some (102, false)), .load false 1 (.t 103), [], [], 0, 0, [103]⟩, ⟨(some 105), (some (102, false)), .len .sl (.t 104), [], [], 0, 0, [104]⟩, ⟨(some 106), (some (102, false)), .faddr 1 (.t 5), [], [], 0, 0, [5]⟩, ⟨(some 107), (some (102, false)), .load false 1 (.t 106), [], [], 0, 0, [106]⟩, ⟨(some 108), (some (102, false)), .len .sl (.t 107), [], [], 0, 0, [107]⟩, ⟨(some 109), (some (102, false)), .bin .gtr .no (.t 105) (.t 108), [], [], 0, 0, [105, 108]⟩, ⟨(some 110), none, .pick (.t 102) (.c (.bool true)) (.t 109), [], [], 0, 0, [102, 109]⟩, ⟨(some 111), none, .mv (.t 110), [], [], 0, 0, [110]⟩, ⟨(some 112), (some (111, false)), .mv (.t 8), [], [], 0, 0, [8]⟩, ⟨(some 113), (some (111, false)), .faddr 2 (.t 5), [], [], 0, 0, [5]⟩, ⟨(some 114), (some (111, false)), .load false 1 (.t 113), [], [], 0, 0, [113]⟩, ⟨(some 115), (some (111, false)), .len .sl (.t 114), [], [], 0, 0, [114]⟩, ⟨(some 116), (some (111, false)), .bin .lss .no (.t 112) (.t 115), [], [], 0, 0, [112, 115]⟩, ⟨(some 117), (some (111, false)), .mv (.t 116), [], [], 0, 0, [116]⟩, ⟨(some 118), (some (117, true)), .faddr 2 (.t 5), [], [], 0, 0, [5]⟩, ⟨(some 119), (some (117, true)), .load false 1 (.t 118), [], [], 0, 0, [118]⟩, ⟨(some 120), (some (117, true)), .mv (.t 8), [], [], 0, 0, [8]⟩, ⟨(some 121), (some (117, true)), .iaddr 1 (.t 119) (.t 120), [], [], 0, 0, [119, 120]⟩, ⟨(some 122), (some (117, true)), .load false 1 (.t 121), [], [], 0, 0, [121]⟩, ⟨(some 123), (some (117, true)), .faddr 1 (.t 9), [], [], 0, 0, [9]⟩, ⟨(some 124), (some (117, true)), .load false 1 (.t 123), [], [], 0, 0, [123]⟩, ⟨(some 125), (some (117, true)), .len .sl (.t 124), [], [], 0, 0, [124]⟩, ⟨(some 126), (some (117, true)), .bin .neq .no (.t 122) (.t 125), [], [], 0, 0, [122, 125]⟩, ⟨(some 127), (some (111, false)), .pick (.t 117) (.t 126) (.c (.bool false)), [], [], 0, 0, [117, 126]⟩, ⟨(some 128), none, .pick (.t 111) (.c (.bool true)) (.t 127), [], [], 0, 0, [111, 127]⟩]) (
 .cond (.t 128) (.seq (.reg [o 4 (.mv (.c (.bool false)))]) (
 .ret)) (.skip))) (
 .seq (.seq (.reg [o 10 (.mv (.c (.int .i64 0)))]) (
 .block 2 (.loop (some [5, 8, 9, 10]) b4x2))) (
 .seq (.seq (.reg [o 11 (.mv (.c (.int .i64 0)))]) (
 .block 4 (.loop (some [5, 9, 11]) b4x4))) (
 .seq (.reg [o 4 (.mv (.c (.bool true)))]) (
 .ret))))))))))))⟩
theorem q4 : table Try.prog A0 4 = some c4 := by kernel_rfl

/-! mortise/mortiselaw17.awake -/
def c5 : CFn := ⟨64, [.t 0], .seq (.reg [o 0 (.mv (.c (.bool false)))]) (
 .seq (.reg [o 6 (.build [.int .i64 0, .int .i64 0, .int .i64 0, .nils] [(0, 1, (.c (.int .i64 1))), (1, 1, (.c (.int .i64 2)))]), ⟨(some 7), none, .bslice [.int .i64 0, .int .i64 0, .int .i64 0, .nils] 1 [(0, (.t 6))], [.freeze 6 (some 3) 3], [], 0, 0, []⟩, ⟨(some 8), none, .build [.nils, .nils] [(0, 1, (.t 7))], [.freeze 7 none 4], [], 0, 0, []⟩, o 9 (.call (.c (.fn 7 [])) [.t 8]), o 5 (.mv (.t 9)), o 10 (.extr (.t 5) 0), o 11 (.extr (.t 5) 1), o 1 (.alloc [.bool false, .nils, .nils]), x (.store 3 (.t 1) (.t 10)), o 2 (.mv (.t 11))]) (
 .seq (.reg [o 13 (.build [.int .i64 0, .int .i64 0, .int .i64 0, .nils] []), ⟨(some 14), none, .bslice [.int .i64 0, .int .i64 0, .int .i64 0, .nils] 1 [(0, (.t 13))], [.freeze 13 (some 3) 3], [], 0, 0, []⟩, ⟨(some 15), none, .build [.nils, .nils] [(0, 1, (.t 14))], [.freeze 14 none 4], [], 0, 0, []⟩, o 16 (.call (.c (.fn 7 [])) [.t 15]), o 12 (.mv (.t 16)), o 17 (.extr (.t 12) 0), o 18 (.extr (.t 12) 1), o 3 (.alloc [.bool false, .nils, .nils]), x (.store 3 (.t 3) (.t 17)), o 4 (.mv (.t 18))]) (
 .seq (.reg [o 19 (.mv (.t 2)), o 20 (.bin .eql .no (.t 19) (.c (.int .i64 0))), o 21 (.mv (.t 20)), g (some 22) 21 true (.mv (.t 4)), g (some 23) 21 true (.bin .eql .no (.t 22) (.c (.int .i64 92))), o 24 (.pick (.t 21) (.t 23) (.c (.bool false))), o 25 (.mv (.t 24)), g (some 26) 25 true (.faddr 0 (.t 1)), g (some 27) 25 true (.load false 1 (.t 26)), o 28 (.pick (.t 25) (.t 27) (.c (.bool false))), o 29 (.mv (.t 28)), g (some 30) 29 true (.faddr 2 (.t 1)), g (some 31) 29 true (.load false 1 (.t 30)), g (some 32) 29 true (.len .sl (.t 31)), g (some 33) 29 true (.bin .eql .no (.t 32) (.c (.int .i64 1))), o 34 (.pick (.t 29) (.t 33) (.c (.bool false))), o 35 (.mv (.t 34)), g (some 36) 35 true (.faddr 2 (.t 1)), g (some 37) 35 true (.load false 1 (.t 36)), g (some 38) 35 true (.iaddr 1 (.t 37) (.c (.int .i64 0))), g (some 39) 35 true (.load false 1 (.t 38)), g (some 40) 35 true (.bin .eql .no (.t 39) (.c (.int .i64 0))), o 41 (.pick (.t 35) (.t 40) (.c (.bool false))), o 42 (.mv (.t 41)), g (some 43) 42 true (.faddr 1 (.t 1)), g (some 44) 42 true (.load false 1 (.t 43)), g (some 45) 42 true (.len .sl (.t 44)), g (some 46) 42 true (.bin .eql .no (.t 45) (.c (.int .i64 2))), o 47 (.pick (.t 42) (.t 46) (.c (.bool false))), o 48 (.mv (.t 47)), g (some 49) 48 true (.faddr 1 (.t 1)), g (some 50) 48 true (.load false 1 (.t 49)), g (some 51) 48 true (.iaddr 4 (.t 50) (.c (.int .i64 0))), g (some 52) 48 true (.load true 4 (.t 51)), g (some 53) 48 true (.build [.int .i64 0, .int .i64 0, .int .i64 0, .int .i64 0] [(0, 1, (.c (.int .i64 33))), (2, 1, (.c (.int .i64 2)))]), g (some 54) 48 true (.bin .eql (.flat [.int, .int, .int, .int]) (.t 52) (.t 53)), o 55 (.pick (.t 48) (.t 54) (.c (.bool false))), o 56 (.mv (.t 55)), g (some 57) 56 true (.faddr 1 (.t 1)), g (some 58) 56 true (.load false 1 (.t 57)), g (some 59) 56 true (.iaddr 4 (.t 58) (.c (.int .i64 1))), g (some 60) 56 true (.load true 4 (.t 59)), g (some 61) 56 true (.build [.int .i64 0, .int .i64 0, .int .i64 0, .int .i64 0] [(0, 1, (.c (.int .i64 20)))]), g (some 62) 56 true (.bin .eql (.flat [.int, .int, .int, .int]) (.t 60) (.t 61)), o 63 (.pick (.t 56) (.t 62) (.c (.bool false))), o 0 (.mv (.t 63))]) (
 .ret))))⟩
theorem q5 : table Try.prog A0 5 = some c5 := by kernel_rfl

/-! mortise/raise.Encoder -/
def b7x0 : CC := .seq (.reg [o 29 (.bin .lss .no (.t 28) (.t 27))]) (
 .seq (.cond (.t 29) (.skip) (.exit 0)) (
 .seq (.block 1 (.seq (.reg [o 30 (.iaddr 4 (.t 26) (.t 28)), o 31 (.load true 4 (.t 30)), o 7 (.alloc [.bool false, .int .i64 0, .int .i64 0, .int .i64 0]), x (.store 4 (.t 7) (.t 31))]) (
 .seq (.reg [o 32 (.faddr 2 (.t 7)), o 33 (.load false 1 (.t 32)), o 34 (.bin .gtr .no (.t 33) (.c (.int .i64 16777216)))]) (
 .cond (.t 34) (.seq (.reg [o 35 (.build [.bool false, .nils, .nils] []), x (.store 3 (.t 2) (.t 35)), o 3 (.mv (.c (.int .i64 91)))]) (
 .ret)) (.skip))))) (
 .reg [o 36 (.bin .add .no (.t 28) (.c (.int .i64 1))), o 28 (.mv (.t 36))])))
def b7x2 : CC := .seq (.reg [o 62 (.bin .lss .no (.t 61) (.t 60))]) (
 .seq (.cond (.t 62) (.skip) (.exit 2)) (
 .seq (.block 3 (.seq (.reg [o 63 (.mv (.t 61)), o 12 (.mv (.t 63))]) (
 .seq (.reg [o 64 (.mv (.t 11)), o 65 (.mv (.t 12)), o 66 (.call (.t 64) [.t 65])]) (
 .seq (.reg [o 67 (.load false 1 (.t 9)), o 68 (.nilchk (.t 67)), o 69 (.faddr 4 (.t 68)), o 70 (.load false 1 (.t 69)), o 71 (.len .sl (.t 70)), o 72 (.bin .gtr .no (.t 71) (.c (.int .i64 1048576)))]) (
 .cond (.t 72) (.seq (.reg [o 73 (.build [.bool false, .nils, .nils] []), x (.store 3 (.t 2) (.t 73)), o 3 (.mv (.c (.int .i64 4)))]) (
 .ret)) (.skip)))))) (
 .reg [o 74 (.bin .add .no (.t 61) (.c (.int .i64 1))), o 61 (.mv (.t 74))])))
def c7 : CFn := ⟨81, [.cell 2 true 3, .t 3], .seq (.reg [o 1 (.box 2 (.t 0)), o 2 (.alloc [.bool false, .nils, .nils]), o 3 (.mv (.c (.int .i64 0)))]) (
 .seq (.seq (.reg [o 13 (.load true 2 (.t 1)), o 14 (.call (.c (.fn 11 [])) [.t 13]), o 15 (.field false 0 1 (.t 14)), o 16 (.bin .neq .no (.t 15) (.c (.int .i64 0)))]) (
 .cond (.t 16) (.seq (.reg [o 17 (.build [.bool false, .nils, .nils] []), x (.store 3 (.t 2) (.t 17)), o 3 (.mv (.c (.int .i64 92)))]) (
 .ret)) (.skip))) (
 .seq (.reg [o 19 (.load true 2 (.t 1)), o 20 (.call (.c (.fn 12 [])) [.t 19]), o 18 (.mv (.t 20)), o 21 (.extr (.t 18) 0), o 22 (.extr (.t 18) 1), o 4 (.mv (.t 21)), o 5 (.mv (.t 22))]) (
 .seq (.seq (.reg [o 23 (.mv (.t 5)), o 24 (.bin .neq .no (.t 23) (.c (.int .i64 0)))]) (
 .cond (.t 24) (.seq (.reg [o 25 (.build [.bool false, .nils, .nils] []), x (.store 3 (.t 2) (.t 25)), o 3 (.mv (.c (.int .i64 92)))]) (
 .ret)) (.skip))) (
 .seq (.seq (.reg [o 26 (.mv (.t 4)), o 27 (.len .sl (.t 26)), o 28 (.mv (.c (.int .i64 0)))]) (
 .block 0 (.loop (some [1, 2, 4, 26, 27, 28]) b7x0))) (
 .seq (.reg [o 38 (.load true 2 (.t 1)), o 39 (.call (.c (.fn 13 [])) [.t 38]), o 37 (.mv (.t 39)), o 40 (.extr (.t 37) 0), o 41 (.extr (.t 37) 1), o 8 (.mv (.t 40)), o 5 (.mv (.t 41))]) (
 .seq (.seq (.reg [o 42 (.mv (.t 5)), o 43 (.bin .neq .no (.t 42) (.c (.int .i64 0)))]) (
 .cond (.t 43) (.seq (.reg [o 44 (.build [.bool false, .nils, .nils] []), o 45 (.mv (.t 5)), x (.store 3 (.t 2) (.t 44)), o 3 (.mv (.t 45))]) (
 .ret)) (.skip))) (
 .seq (.seq (.reg [o 46 (.faddr 0 (.t 1)), o 47 (.load false 1 (.t 46)), o 48 (.len .sl (.t 47)), o 49 (.bin .gtr .no (.t 48) (.c (.int .i64 1048576)))]) (
 .cond (.t 49) (.seq (.reg [o 50 (.build [.bool false, .nils, .nils] []), x (.store 3 (.t 2) (.t 50)), o 3 (.mv (.c (.int .i64 4)))]) (
 .ret)) (.skip))) (
 .seq (.reg [o 51 (.load true 2 (.t 1)), o 52 (.mv (.t 4)), o 53 (.mv (.t 8)), ⟨(some 54), none, .build [.nils, .nils, .nils, .nils, .nils] [(0, 2, (.t 51)), (2, 1, (.t 52)), (3, 1, (.t 53))], [], [(4, 4)], 0, 0, []⟩, o 55 (.box 5 (.t 54)), o 9 (.alloc [.nilp]), x (.store 1 (.t 9) (.t 55))]) (
 .seq (.reg [⟨(some 56), none, .build [.bool false, .nils, .nils] [(0, 1, (.c (.bool true)))], [], [(2, 1)], 0, 0, []⟩, o 10 (.alloc [.bool false, .nils, .nils]), x (.store 3 (.t 10) (.t 56))]) (
 .seq (.reg [o 57 (.mkfn 14 [.t 10, .t 9]), o 11 (.mv (.t 57))]) (
 .seq (.seq (.reg [o 58 (.faddr 0 (.t 1)), o 59 (.load false 1 (.t 58)), o 60 (.len .sl (.t 59)), o 61 (.mv (.c (.int .i64 0)))]) (
 .block 2 (.loop (some [2, 9, 10, 11, 60, 61]) b7x2))) (
 .seq (.reg [o 75 (.load false 1 (.t 9)), o 76 (.nilchk (.t 75)), o 77 (.faddr 4 (.t 76)), o 78 (.load false 1 (.t 77)), o 79 (.faddr 1 (.t 10)), x (.store 1 (.t 79) (.t 78))]) (
 .seq (.reg [o 80 (.load true 3 (.t 10)), ⟨none, none, .store 3 (.t 2) (.t 80), [.freeze 80 (some 1) 4, .freeze 80 (some 2) 1], [], 0, 0, []⟩, o 3 (.mv (.c (.int .i64 0)))]) (
 .ret))))))))))))))⟩
theorem q7 : table Try.prog A0 7 = some c7 := by kernel_rfl

/-! mortise/types.Check -/
def b11x0 : CC := .seq (.reg [o 13 (.bin .lss .no (.t 12) (.t 11))]) (
 .seq (.cond (.t 13) (.skip) (.exit 0)) (
 .seq (.block 1 (.seq (.reg [o 14 (.mv (.t 12)), o 15 (.iaddr 4 (.t 10) (.t 12)), o 16 (.load true 4 (.t 15)), o 4 (.alloc [.int .i64 0, .int .i64 0, .int .i64 0, .nils]), o 3 (.mv (.t 14)), x (.store 4 (.t 4) (.t 16))]) (
 .seq (.reg [o 17 (.load true 4 (.t 4)), o 18 (.mv (.t 3)), o 19 (.call (.c (.fn 20 [])) [.t 17, .t 18]), o 20 (.una .not (.t 19))]) (
 .cond (.t 20) (.seq (.reg [o 21 (.mv (.t 3)), o 22 (.build [.int .i64 0, .int .i64 0] [(0, 1, (.c (.int .i64 92))), (1, 1, (.t 21))]), x (.store 2 (.t 2) (.t 22))]) (
 .ret)) (.skip))))) (
 .reg [o 23 (.bin .add .no (.t 12) (.c (.int .i64 1))), o 12 (.mv (.t 23))])))
def b11x2 : CC := .seq (.reg [o 36 (.bin .lss .no (.t 35) (.t 34))]) (
 .seq (.cond (.t 36) (.skip) (.exit 2)) (
 .seq (.block 3 (.seq (.reg [o 37 (.mv (.t 35)), o 38 (.iaddr 2 (.t 33) (.t 35)), o 39 (.load true 2 (.t 38)), o 8 (.alloc [.str [], .int .i64 0]), o 7 (.mv (.t 37)), x (.store 2 (.t 8) (.t 39))]) (
 .seq (.reg [o 40 (.mv (.t 6)), o 41 (.faddr 0 (.t 8)), o 42 (.load false 1 (.t 41)), o 43 (.mv (.t 7)), x (.mapput .str (.t 40) (.t 42) (.t 43))]) (
 .seq (.reg [o 44 (.faddr 0 (.t 8)), o 45 (.load false 1 (.t 44)), o 46 (.call (.c (.fn 22 [])) [.t 45]), o 47 (.una .not (.t 46)), o 48 (.mv (.t 47)), g (some 49) 48 false (.mv (.t 6)), g (some 50) 48 false (.len .mp (.t 49)), g (some 51) 48 false (.mv (.t 7)), g (some 52) 48 false (.bin .add .no (.t 51) (.c (.int .i64 1))), g (some 53) 48 false (.bin .neq .no (.t 50) (.t 52)), o 54 (.pick (.t 48) (.c (.bool true)) (.t 53)), o 55 (.mv (.t 54)), g (some 56) 55 false (.faddr 1 (.t 8)), g (some 57) 55 false (.load false 1 (.t 56)), g (some 58) 55 false (.bin .lss .no (.t 57) (.c (.int .i64 0))), o 59 (.pick (.t 55) (.c (.bool true)) (.t 58)), o 60 (.mv (.t 59)), g (some 61) 60 false (.faddr 1 (.t 8)), g (some 62) 60 false (.load false 1 (.t 61)), g (some 63) 60 false (.faddr 0 (.t 1)), g (some 64) 60 false (.load false 1 (.t 63)), g (some 65) 60 false (.len .sl (.t 64)), g (some 66) 60 false (.bin .geq .no (.t 62) (.t 65)), o 67 (.pick (.t 60) (.c (.bool true)) (.t 66)), o 68 (.mv (.t 67)), g (some 69) 68 false (.mv (.t 7)), g (some 70) 68 false (.bin .geq .no (.t 69) (.c (.int .i64 256))), o 71 (.pick (.t 68) (.c (.bool true)) (.t 70))]) (
 .cond (.t 71) (.seq (.reg [o 72 (.faddr 0 (.t 1)), o 73 (.load false 1 (.t 72)), o 74 (.len .sl (.t 73)), o 75 (.mv (.t 7)), o 76 (.bin .add .no (.t 74) (.t 75)), o 77 (.build [.int .i64 0, .int .i64 0] [(0, 1, (.c (.int .i64 92))), (1, 1, (.t 76))]), x (.store 2 (.t 2) (.t 77))]) (
 .ret)) (.skip)))))) (
 .reg [o 78 (.bin .add .no (.t 35) (.c (.int .i64 1))), o 35 (.mv (.t 78))])))
def c11 : CFn := ⟨80, [.cell 2 true 2], .seq (.reg [o 1 (.box 2 (.t 0)), o 2 (.alloc [.int .i64 0, .int .i64 0])]) (
 .seq (.seq (.reg [o 9 (.faddr 0 (.t 1)), o 10 (.load false 1 (.t 9)), o 11 (.len .sl (.t 10)), o 12 (.mv (.c (.int .i64 0)))]) (
 .block 0 (.loop (some [1, 2, 10, 11, 12]) b11x0))) (
 .seq (.seq (.reg [o 24 (.faddr 0 (.t 1)), o 25 (.load false 1 (.t 24)), o 26 (.call (.c (.fn 21 [])) [.t 25]), o 5 (.alloc [.int .i64 0, .int .i64 0]), x (.store 2 (.t 5) (.t 26))]) (
 .seq (.reg [o 27 (.faddr 0 (.t 5)), o 28 (.load false 1 (.t 27)), o 29 (.bin .neq .no (.t 28) (.c (.int .i64 0)))]) (
 .cond (.t 29) (.seq (.reg [o 30 (.load true 2 (.t 5)), x (.store 2 (.t 2) (.t 30))]) (
 .ret)) (.skip)))) (
 .seq (.reg [o 31 (.mkmap), o 6 (.mv (.t 31))]) (
 .seq (.seq (.reg [o 32 (.faddr 1 (.t 1)), o 33 (.load false 1 (.t 32)), o 34 (.len .sl (.t 33)), o 35 (.mv (.c (.int .i64 0)))]) (
 .block 2 (.loop (some [1, 2, 6, 33, 34, 35]) b11x2))) (
 .seq (.reg [o 79 (.build [.int .i64 0, .int .i64 0] []), x (.store 2 (.t 2) (.t 79))]) (
 .ret))))))⟩
theorem q11 : table Try.prog A0 11 = some c11 := by kernel_rfl

/-! mortise/size.Of -/
def b12x0 : CC := .seq (.reg [o 19 (.bin .lss .no (.t 18) (.t 17))]) (
 .seq (.cond (.t 19) (.skip) (.exit 0)) (
 .seq (.block 1 (.seq (.reg [o 20 (.iaddr 4 (.t 16) (.t 18)), o 21 (.load true 4 (.t 20)), o 7 (.alloc [.int .i64 0, .int .i64 0, .int .i64 0, .nils]), x (.store 4 (.t 7) (.t 21))]) (
 .reg [o 22 (.mv (.t 5)), o 23 (.load true 4 (.t 7)), o 24 (.mv (.t 5)), o 25 (.call (.c (.fn 23 [])) [.t 23, .t 24]), o 26 (.bslice [.bool false, .int .i64 0, .int .i64 0, .int .i64 0] 1 [(0, (.t 25))]), o 27 (.append 4 32 false (.t 22) (.t 26)), o 5 (.mv (.t 27))]))) (
 .reg [o 28 (.bin .add .no (.t 18) (.c (.int .i64 1))), o 18 (.mv (.t 28))])))
def c12 : CFn := ⟨30, [.t 2, .t 3], .seq (.reg [o 1 (.box 2 (.t 0)), o 2 (.mv (.c (.nils))), o 3 (.mv (.c (.int .i64 0)))]) (
 .seq (.seq (.reg [o 8 (.load true 2 (.t 1)), o 9 (.call (.c (.fn 11 [])) [.t 8]), o 4 (.alloc [.int .i64 0, .int .i64 0]), x (.store 2 (.t 4) (.t 9))]) (
 .seq (.reg [o 10 (.faddr 0 (.t 4)), o 11 (.load false 1 (.t 10)), o 12 (.bin .neq .no (.t 11) (.c (.int .i64 0)))]) (
 .cond (.t 12) (.seq (.drw [⟨(some 13), none, .faddr 0 (.t 4), [], [], 0, 0, [4]⟩, ⟨(some 14), none, .load false 1 (.t 13), [], [], 0, 0, [13]⟩, ⟨(some 2), none, .mv (.c (.nils)), [], [], 0, 0, []⟩, ⟨(some 3), none, .mv (.t 14), [], [], 0, 0, [14]⟩]) (
 .ret)) (.skip)))) (
 .seq (.reg [⟨(some 5), none, .mv (.c (.nils)), [], [(0, 4)], 0, 0, []⟩]) (
 .seq (.seq (.reg [o 15 (.faddr 0 (.t 1)), o 16 (.load false 1 (.t 15)), o 17 (.len .sl (.t 16)), o 18 (.mv (.c (.int .i64 0)))]) (
 .block 0 (.loop (some [5, 16, 17, 18]) b12x0))) (
 .seq (.reg [o 29 (.mv (.t 5)), ⟨(some 2), none, .mv (.t 29), [.freeze 29 none 4], [], 0, 0, []⟩, o 3 (.mv (.c (.int .i64 0)))]) (
 .ret)))))⟩
theorem q12 : table Try.prog A0 12 = some c12 := by kernel_rfl

/-! mortise/layout.Of -/
def b13x0 : CC := .seq (.reg [o 24 (.bin .lss .no (.t 23) (.t 22))]) (
 .seq (.cond (.t 24) (.skip) (.exit 0)) (
 .seq (.block 1 (.seq (.reg [o 25 (.iaddr 4 (.t 21) (.t 23)), o 26 (.load true 4 (.t 25)), o 8 (.alloc [.int .i64 0, .int .i64 0, .int .i64 0, .nils]), x (.store 4 (.t 8) (.t 26))]) (
 .reg [o 27 (.mv (.t 6)), o 28 (.load true 4 (.t 8)), o 29 (.mv (.t 4)), o 30 (.call (.c (.fn 24 [])) [.t 28, .t 29]), ⟨(some 31), none, .bslice [.int .i64 0, .nils] 1 [(0, (.t 30))], [.freeze 30 (some 1) 3], [], 0, 0, []⟩, o 32 (.append 2 32 false (.t 27) (.t 31)), o 6 (.mv (.t 32))]))) (
 .reg [o 33 (.bin .add .no (.t 23) (.c (.int .i64 1))), o 23 (.mv (.t 33))])))
def c13 : CFn := ⟨35, [.t 2, .t 3], .seq (.reg [o 1 (.box 2 (.t 0)), o 2 (.mv (.c (.nils))), o 3 (.mv (.c (.int .i64 0)))]) (
 .seq (.seq (.reg [o 9 (.load true 2 (.t 1)), o 10 (.call (.c (.fn 11 [])) [.t 9]), o 11 (.field false 0 1 (.t 10)), o 12 (.bin .neq .no (.t 11) (.c (.int .i64 0)))]) (
 .cond (.t 12) (.seq (.reg [o 2 (.mv (.c (.nils))), o 3 (.mv (.c (.int .i64 92)))]) (
 .ret)) (.skip))) (
 .seq (.reg [o 14 (.load true 2 (.t 1)), o 15 (.call (.c (.fn 12 [])) [.t 14]), o 13 (.mv (.t 15)), o 16 (.extr (.t 13) 0), o 17 (.extr (.t 13) 1), o 4 (.mv (.t 16)), o 5 (.mv (.t 17))]) (
 .seq (.seq (.reg [o 18 (.mv (.t 5)), o 19 (.bin .neq .no (.t 18) (.c (.int .i64 0)))]) (
 .cond (.t 19) (.seq (.reg [o 2 (.mv (.c (.nils))), o 3 (.mv (.c (.int .i64 92)))]) (
 .ret)) (.skip))) (
 .seq (.reg [⟨(some 6), none, .mv (.c (.nils)), [], [(0, 2)], 0, 0, []⟩]) (
 .seq (.seq (.reg [o 20 (.faddr 0 (.t 1)), o 21 (.load false 1 (.t 20)), o 22 (.len .sl (.t 21)), o 23 (.mv (.c (.int .i64 0)))]) (
 .block 0 (.loop (some [4, 6, 21, 22, 23]) b13x0))) (
 .seq (.reg [o 34 (.mv (.t 6)), ⟨(some 2), none, .mv (.t 34), [.freeze 34 none 2], [], 0, 0, []⟩, o 3 (.mv (.c (.int .i64 0)))]) (
 .ret)))))))⟩
theorem q13 : table Try.prog A0 13 = some c13 := by kernel_rfl

/-! mortise/raise.Encoder$1 -/
def c14 : CFn := ⟨17, [], .seq (.drw [⟨(some 4), none, .faddr 2 (.t 1), [], [], 0, 0, [1]⟩, ⟨(some 5), none, .load false 1 (.t 4), [], [], 0, 0, [4]⟩, ⟨(some 6), none, .load false 1 (.t 2), [], [], 0, 0, [2]⟩, ⟨(some 7), none, .nilchk (.t 6), [], [], 0, 0, [6]⟩, ⟨(some 8), none, .faddr 4 (.t 7), [], [], 0, 0, [7]⟩, ⟨(some 9), none, .load false 1 (.t 8), [], [], 0, 0, [8]⟩, ⟨(some 10), none, .len .sl (.t 9), [], [], 0, 0, [9]⟩, ⟨(some 11), none, .bslice [.int .i64 0] 1 [(0, (.t 10))], [], [], 0, 0, [10]⟩, ⟨(some 12), none, .append 1 8 false (.t 5) (.t 11), [], [], 0, 1, [5, 11]⟩, ⟨(some 13), none, .faddr 2 (.t 1), [], [], 1, 1, [1]⟩, ⟨none, none, .store 1 (.t 13) (.t 12), [], [], 1, 2, [13, 12]⟩]) (
 .reg [o 14 (.load false 1 (.t 2)), o 15 (.mv (.t 0)), o 16 (.call (.c (.fn 15 [])) [.t 14, .t 15])])⟩
theorem q14 : table Try.prog A0 14 = some c14 := by kernel_rfl

/-! (*mortise/raise.raiser).routine -/
def c15 : CFn := ⟨82, [], .seq (.seq (.reg [o 7 (.mv (.t 0)), o 8 (.nilchk (.t 7)), o 9 (.faddr 0 (.t 8)), o 10 (.faddr 0 (.t 9)), o 11 (.load false 1 (.t 10)), o 12 (.mv (.t 1)), o 13 (.iaddr 4 (.t 11) (.t 12)), o 14 (.load true 4 (.t 13)), o 4 (.alloc [.int .i64 0, .int .i64 0, .int .i64 0, .nils]), x (.store 4 (.t 4) (.t 14))]) (
 .seq (.reg [o 15 (.faddr 0 (.t 4)), o 16 (.load false 1 (.t 15))]) (
 .block 0 (.seq (.seq (.reg [o 18 (.bin .eql .no (.t 16) (.c (.int .i64 1))), o 17 (.mv (.t 18))]) (
 .cond (.t 17) (.skip) (.reg [o 19 (.bin .eql .no (.t 16) (.c (.int .i64 2))), o 17 (.mv (.t 19))]))) (
 .cond (.t 17) (.reg [o 20 (.mv (.t 0)), o 21 (.mv (.t 1)), o 22 (.call (.c (.fn 25 [])) [.t 20, .t 21, .c (.int .i64 0)])]) (.seq (.reg [o 24 (.bin .eql .no (.t 16) (.c (.int .i64 3))), o 23 (.mv (.t 24))]) (
 .cond (.t 23) (.reg [o 25 (.mv (.t 0)), o 26 (.build [.int .i64 0, .int .i64 0, .int .i64 0, .int .i64 0] [(0, 1, (.c (.int .i64 36)))]), o 27 (.call (.c (.fn 26 [])) [.t 25, .t 26])]) (.seq (.reg [o 29 (.bin .eql .no (.t 16) (.c (.int .i64 4))), o 28 (.mv (.t 29))]) (
 .cond (.t 28) (.seq (.reg [o 30 (.mv (.t 0)), o 31 (.faddr 1 (.t 4)), o 32 (.load false 1 (.t 31)), o 33 (.build [.int .i64 0, .int .i64 0, .int .i64 0, .int .i64 0] [(0, 1, (.c (.int .i64 37))), (1, 1, (.t 32))]), o 34 (.call (.c (.fn 26 [])) [.t 30, .t 33])]) (
 .reg [o 35 (.mv (.t 0)), o 36 (.faddr 2 (.t 4)), o 37 (.load false 1 (.t 36)), o 38 (.call (.c (.fn 27 [])) [.t 35, .t 37, .c (.bool false)])])) (.seq (.reg [o 40 (.bin .eql .no (.t 16) (.c (.int .i64 5))), o 39 (.mv (.t 40))]) (
 .cond (.t 39) (.seq (.reg [o 41 (.mv (.t 0)), o 42 (.faddr 1 (.t 4)), o 43 (.load false 1 (.t 42)), o 44 (.build [.int .i64 0, .int .i64 0, .int .i64 0, .int .i64 0] [(0, 1, (.c (.int .i64 38))), (1, 1, (.t 43))]), o 45 (.call (.c (.fn 26 [])) [.t 41, .t 44])]) (
 .reg [o 46 (.mv (.t 0)), o 47 (.faddr 2 (.t 4)), o 48 (.load false 1 (.t 47)), o 49 (.call (.c (.fn 27 [])) [.t 46, .t 48, .c (.bool true)])])) (.seq (.reg [o 51 (.bin .eql .no (.t 16) (.c (.int .i64 6))), o 50 (.mv (.t 51))]) (
 .cond (.t 50) (.seq (.reg [o 52 (.mv (.t 0)), o 53 (.build [.int .i64 0, .int .i64 0, .int .i64 0, .int .i64 0] [(0, 1, (.c (.int .i64 40)))]), o 54 (.call (.c (.fn 26 [])) [.t 52, .t 53]), o 5 (.mv (.t 54))]) (
 .seq (.reg [o 55 (.mv (.t 0)), o 56 (.faddr 2 (.t 4)), o 57 (.load false 1 (.t 56)), o 58 (.build [.int .i64 0, .int .i64 0, .int .i64 0, .int .i64 0] [(0, 1, (.c (.int .i64 46))), (3, 1, (.t 57))]), o 59 (.call (.c (.fn 26 [])) [.t 55, .t 58]), o 6 (.mv (.t 59))]) (
 .reg [o 60 (.mv (.t 0)), o 61 (.nilchk (.t 60)), o 62 (.faddr 4 (.t 61)), o 63 (.load false 1 (.t 62)), o 64 (.mv (.t 5)), o 65 (.mv (.t 6)), o 66 (.bin .add .no (.t 65) (.c (.int .i64 1))), o 67 (.iaddr 4 (.t 63) (.t 64)), o 68 (.faddr 2 (.t 67)), x (.store 1 (.t 68) (.t 66))]))) (.seq (.reg [o 70 (.bin .eql .no (.t 16) (.c (.int .i64 7))), o 69 (.mv (.t 70))]) (
 .cond (.t 69) (.reg [o 71 (.mv (.t 0)), o 72 (.load true 4 (.t 4)), o 73 (.call (.c (.fn 28 [])) [.t 71, .t 72])]) (.seq (.reg [o 75 (.bin .eql .no (.t 16) (.c (.int .i64 8))), o 74 (.mv (.t 75))]) (
 .cond (.t 74) (.reg [o 76 (.mv (.t 0)), o 77 (.mv (.t 1)), o 78 (.call (.c (.fn 29 [])) [.t 76, .t 77])]) (.skip)))))))))))))))))) (
 .reg [o 79 (.mv (.t 0)), o 80 (.build [.int .i64 0, .int .i64 0, .int .i64 0, .int .i64 0] [(0, 1, (.c (.int .i64 20)))]), o 81 (.call (.c (.fn 26 [])) [.t 79, .t 80])])⟩
theorem q15 : table Try.prog A0 15 = some c15 := by kernel_rfl

/-! mortise/types.right -/
def c20 : CFn := ⟨67, [.t 4], .seq (.reg [o 2 (.box 4 (.t 0)), o 4 (.mv (.c (.bool false)))]) (
 .seq (.seq (.reg [o 6 (.faddr 0 (.t 2)), o 7 (.load false 1 (.t 6)), o 8 (.faddr 1 (.t 2)), o 9 (.load false 1 (.t 8)), o 10 (.call (.c (.fn 41 [])) [.t 7, .t 9]), o 11 (.una .not (.t 10))]) (
 .cond (.t 11) (.seq (.reg [o 4 (.mv (.c (.bool false)))]) (
 .ret)) (.skip))) (
 .seq (.reg [o 12 (.faddr 2 (.t 2)), o 13 (.load false 1 (.t 12)), o 14 (.bin .geq .no (.t 13) (.c (.int .i64 0))), o 15 (.mv (.t 14)), g (some 16) 15 true (.faddr 2 (.t 2)), g (some 17) 15 true (.load false 1 (.t 16)), g (some 18) 15 true (.mv (.t 1)), g (some 19) 15 true (.bin .lss .no (.t 17) (.t 18)), o 20 (.pick (.t 15) (.t 19) (.c (.bool false))), o 5 (.mv (.t 20))]) (
 .seq (.seq (.reg [o 21 (.faddr 0 (.t 2)), o 22 (.load false 1 (.t 21))]) (
 .block 0 (.seq (.seq (.reg [o 24 (.bin .eql .no (.t 22) (.c (.int .i64 1))), o 23 (.mv (.t 24))]) (
 .cond (.t 23) (.skip) (.seq (.reg [o 25 (.bin .eql .no (.t 22) (.c (.int .i64 2))), o 23 (.mv (.t 25))]) (
 .cond (.t 23) (.skip) (.reg [o 26 (.bin .eql .no (.t 22) (.c (.int .i64 3))), o 23 (.mv (.t 26))]))))) (
 .cond (.t 23) (.seq (.reg [o 27 (.faddr 2 (.t 2)), o 28 (.load false 1 (.t 27)), o 29 (.bin .eql .no (.t 28) (.c (.int .i64 0))), o 30 (.mv (.t 29)), g (some 31) 30 true (.faddr 3 (.t 2)), g (some 32) 30 true (.load false 1 (.t 31)), g (some 33) 30 true (.len .sl (.t 32)), g (some 34) 30 true (.bin .eql .no (.t 33) (.c (.int .i64 0))), o 35 (.pick (.t 30) (.t 34) (.c (.bool false))), o 4 (.mv (.t 35))]) (
 .ret)) (.seq (.seq (.reg [o 37 (.bin .eql .no (.t 22) (.c (.int .i64 4))), o 36 (.mv (.t 37))]) (
 .cond (.t 36) (.skip) (.seq (.reg [o 38 (.bin .eql .no (.t 22) (.c (.int .i64 5))), o 36 (.mv (.t 38))]) (
 .cond (.t 36) (.skip) (.reg [o 39 (.bin .eql .no (.t 22) (.c (.int .i64 6))), o 36 (.mv (.t 39))]))))) (
 .cond (.t 36) (.seq (.reg [o 40 (.mv (.t 5)), o 41 (.mv (.t 40)), g (some 42) 41 true (.faddr 3 (.t 2)), g (some 43) 41 true (.load false 1 (.t 42)), g (some 44) 41 true (.len .sl (.t 43)), g (some 45) 41 true (.bin .eql .no (.t 44) (.c (.int .i64 0))), o 46 (.pick (.t 41) (.t 45) (.c (.bool false))), o 4 (.mv (.t 46))]) (
 .ret)) (.seq (.reg [o 48 (.bin .eql .no (.t 22) (.c (.int .i64 8))), o 47 (.mv (.t 48))]) (
 .cond (.t 47) (.seq (.reg [o 49 (.faddr 2 (.t 2)), o 50 (.load false 1 (.t 49)), o 51 (.bin .eql .no (.t 50) (.c (.int .i64 0))), o 52 (.mv (.t 51)), g (some 53) 52 true (.load true 4 (.t 2)), g (some 54) 52 true (.mv (.t 1)), g (some 55) 52 true (.call (.c (.fn 42 [])) [.t 53, .t 54, .c (.int .i64 64)]), o 56 (.pick (.t 52) (.t 55) (.c (.bool false))), o 4 (.mv (.t 56))]) (
 .ret)) (.seq (.reg [o 58 (.bin .eql .no (.t 22) (.c (.int .i64 7))), o 57 (.mv (.t 58))]) (
 .cond (.t 57) (.seq (.reg [o 59 (.faddr 2 (.t 2)), o 60 (.load false 1 (.t 59)), o 61 (.bin .eql .no (.t 60) (.c (.int .i64 0))), o 62 (.mv (.t 61)), g (some 63) 62 true (.load true 4 (.t 2)), g (some 64) 62 true (.mv (.t 1)), g (some 65) 62 true (.call (.c (.fn 42 [])) [.t 63, .t 64, .c (.int .i64 64)]), o 66 (.pick (.t 62) (.t 65) (.c (.bool false))), o 4 (.mv (.t 66))]) (
 .ret)) (.skip))))))))))) (
 .seq (.reg [o 4 (.mv (.c (.bool false)))]) (
 .ret)))))⟩
theorem q20 : table Try.prog A0 20 = some c20 := by kernel_rfl

/-! mortise/types.deep -/
def b21x3 : CC := .seq (.reg [o 36 (.bin .lss .no (.t 35) (.t 34))]) (
 .seq (.cond (.t 36) (.skip) (.exit 3)) (
 .seq (.block 4 (.seq (.reg [o 37 (.iaddr 3 (.t 33) (.t 35)), o 38 (.load true 3 (.t 37)), o 7 (.alloc [.str [], .int .i64 0, .int .i64 0]), x (.store 3 (.t 7) (.t 38))]) (
 .drw [⟨(some 39), none, .mv (.t 3), [], [], 0, 0, [3]⟩, ⟨(some 40), none, .mv (.t 4), [], [], 0, 0, [4]⟩, ⟨(some 41), none, .mv (.t 3), [], [], 0, 0, [3]⟩, ⟨(some 42), none, .mv (.t 4), [], [], 0, 0, [4]⟩, ⟨(some 43), none, .iaddr 1 (.t 41) (.t 42), [], [], 0, 0, [41, 42]⟩, ⟨(some 44), none, .load false 1 (.t 43), [], [], 0, 0, [43]⟩, ⟨(some 45), none, .mv (.t 3), [], [], 0, 0, [3]⟩, ⟨(some 46), none, .faddr 2 (.t 7), [], [], 0, 0, [7]⟩, ⟨(some 47), none, .load false 1 (.t 46), [], [], 0, 0, [46]⟩, ⟨(some 48), none, .iaddr 1 (.t 45) (.t 47), [], [], 0, 0, [45, 47]⟩, ⟨(some 49), none, .load false 1 (.t 48), [], [], 0, 0, [48]⟩, ⟨(some 50), none, .max [.t 44, .t 49], [], [], 0, 0, [44, 49]⟩, ⟨(some 51), none, .iaddr 1 (.t 39) (.t 40), [], [], 0, 0, [39, 40]⟩, ⟨none, none, .store 1 (.t 51) (.t 50), [], [], 0, 1, [51, 50]⟩]))) (
 .reg [o 52 (.bin .add .no (.t 35) (.c (.int .i64 1))), o 35 (.mv (.t 52))])))
def b21x0 : CC := .seq (.reg [o 14 (.bin .lss .no (.t 13) (.t 12))]) (
 .seq (.cond (.t 14) (.skip) (.exit 0)) (
 .seq (.block 1 (.seq (.reg [o 15 (.mv (.t 13)), o 16 (.iaddr 4 (.t 11) (.t 13)), o 17 (.load true 4 (.t 16)), o 5 (.alloc [.int .i64 0, .int .i64 0, .int .i64 0, .nils]), o 4 (.mv (.t 15)), x (.store 4 (.t 5) (.t 17))]) (
 .seq (.seq (.reg [o 18 (.faddr 0 (.t 5)), o 19 (.load false 1 (.t 18))]) (
 .block 2 (.seq (.seq (.reg [o 21 (.bin .eql .no (.t 19) (.c (.int .i64 4))), o 20 (.mv (.t 21))]) (
 .cond (.t 20) (.skip) (.seq (.reg [o 22 (.bin .eql .no (.t 19) (.c (.int .i64 5))), o 20 (.mv (.t 22))]) (
 .cond (.t 20) (.skip) (.reg [o 23 (.bin .eql .no (.t 19) (.c (.int .i64 6))), o 20 (.mv (.t 23))]))))) (
 .cond (.t 20) (.reg [o 24 (.mv (.t 3)), o 25 (.mv (.t 4)), o 26 (.mv (.t 3)), o 27 (.faddr 2 (.t 5)), o 28 (.load false 1 (.t 27)), o 29 (.iaddr 1 (.t 26) (.t 28)), o 30 (.load false 1 (.t 29)), o 31 (.iaddr 1 (.t 24) (.t 25)), x (.store 1 (.t 31) (.t 30))]) (.skip))))) (
 .seq (.seq (.reg [o 32 (.faddr 3 (.t 5)), o 33 (.load false 1 (.t 32)), o 34 (.len .sl (.t 33)), o 35 (.mv (.c (.int .i64 0)))]) (
 .block 3 (.loop (some [2, 3, 4, 11, 12, 13, 33, 34, 35]) b21x3))) (
 .seq (.reg [o 53 (.mv (.t 3)), o 54 (.mv (.t 4)), o 55 (.iaddr 1 (.t 53) (.t 54)), o 56 (.load false 1 (.t 55)), o 57 (.bin .add .no (.t 56) (.c (.int .i64 1))), o 58 (.iaddr 1 (.t 53) (.t 54)), x (.store 1 (.t 58) (.t 57))]) (
 .seq (.reg [o 59 (.mv (.t 3)), o 60 (.mv (.t 4)), o 61 (.iaddr 1 (.t 59) (.t 60)), o 62 (.load false 1 (.t 61)), o 63 (.bin .gtr .no (.t 62) (.c (.int .i64 64)))]) (
 .cond (.t 63) (.seq (.reg [o 64 (.mv (.t 4)), o 65 (.build [.int .i64 0, .int .i64 0] [(0, 1, (.c (.int .i64 83))), (1, 1, (.t 64))]), x (.store 2 (.t 2) (.t 65))]) (
 .ret)) (.skip)))))))) (
 .reg [o 66 (.bin .add .no (.t 13) (.c (.int .i64 1))), o 13 (.mv (.t 66))])))
def c21 : CFn := ⟨68, [.cell 2 true 2], .seq (.reg [o 2 (.alloc [.int .i64 0, .int .i64 0])]) (
 .seq (.reg [o 8 (.mv (.t 0)), o 9 (.len .sl (.t 8)), o 10 (.mkslice [.int .i64 0] 8 (.t 9) (.t 9)), o 3 (.mv (.t 10))]) (
 .seq (.seq (.reg [o 11 (.mv (.t 0)), o 12 (.len .sl (.t 11)), o 13 (.mv (.c (.int .i64 0)))]) (
 .block 0 (.loop (some [2, 3, 11, 12, 13]) b21x0))) (
 .seq (.reg [o 67 (.build [.int .i64 0, .int .i64 0] []), x (.store 2 (.t 2) (.t 67))]) (
 .ret))))⟩
theorem q21 : table Try.prog A0 21 = some c21 := by kernel_rfl

/-! mortise/tokens.Name -/
def c22 : CFn := ⟨27, [.t 2], .seq (.reg [o 2 (.mv (.c (.bool false)))]) (
 .seq (.reg [o 3 (.mv (.t 0)), o 4 (.bin .neq .no (.t 3) (.c (.str []))), o 5 (.mv (.t 4)), g (some 6) 5 true (.mv (.t 0)), g (some 7) 5 true (.len .str (.t 6)), g (some 8) 5 true (.bin .leq .no (.t 7) (.c (.int .i64 32))), o 9 (.pick (.t 5) (.t 8) (.c (.bool false))), o 10 (.mv (.t 9)), g (some 11) 10 true (.mv (.t 0)), g (some 12) 10 true (.index (.t 11) (.c (.int .i64 0))), g (some 13) 10 true (.call (.c (.fn 43 [])) [.t 12]), o 14 (.pick (.t 10) (.t 13) (.c (.bool false))), o 15 (.mv (.t 14)), g (some 16) 15 true (.mv (.t 0)), g (some 17) 15 true (.call (.c (.fn 44 [])) [.t 16, .c (.int .i64 0), .c (.fn 45 [])]), g (some 18) 15 true (.mv (.t 0)), g (some 19) 15 true (.len .str (.t 18)), g (some 20) 15 true (.bin .eql .no (.t 17) (.t 19)), o 21 (.pick (.t 15) (.t 20) (.c (.bool false))), o 22 (.mv (.t 21)), g (some 23) 22 true (.mv (.t 0)), g (some 24) 22 true (.call (.c (.fn 46 [])) [.t 23]), g (some 25) 22 true (.una .not (.t 24)), o 26 (.pick (.t 22) (.t 25) (.c (.bool false))), o 2 (.mv (.t 26))]) (
 .ret))⟩
theorem q22 : table Try.prog A0 22 = some c22 := by kernel_rfl

/-! mortise/size.extent -/
def b23x9 : CC := .seq (.reg [o 99 (.bin .lss .no (.t 98) (.t 97))]) (
 .seq (.cond (.t 99) (.skip) (.exit 9)) (
 .seq (.block 10 (.seq (.reg [o 100 (.iaddr 3 (.t 96) (.t 98)), o 101 (.load true 3 (.t 100)), o 11 (.alloc [.str [], .int .i64 0, .int .i64 0]), x (.store 3 (.t 11) (.t 101))]) (
 .seq (.reg [o 102 (.mv (.t 1)), o 103 (.faddr 2 (.t 11)), o 104 (.load false 1 (.t 103)), o 105 (.iaddr 4 (.t 102) (.t 104)), o 106 (.load true 4 (.t 105)), o 12 (.alloc [.bool false, .int .i64 0, .int .i64 0, .int .i64 0]), x (.store 4 (.t 12) (.t 106))]) (
 .seq (.reg [o 107 (.mv (.t 9)), o 108 (.faddr 1 (.t 12)), o 109 (.load false 1 (.t 108)), o 110 (.min [.t 107, .t 109]), o 9 (.mv (.t 110))]) (
 .drw [⟨(some 111), none, .faddr 2 (.t 5), [], [], 0, 1, [5]⟩, ⟨(some 112), none, .load false 1 (.t 111), [], [], 0, 1, [111]⟩, ⟨(some 113), none, .faddr 2 (.t 12), [], [], 0, 0, [12]⟩, ⟨(some 114), none, .load false 1 (.t 113), [], [], 0, 0, [113]⟩, ⟨(some 115), none, .bslice [.int .i64 0] 2 [(0, (.c (.int .i64 1))), (1, (.t 114))], [], [], 0, 0, [114]⟩, ⟨(some 116), none, .call (.c (.fn 49 [])) [.t 115], [], [], 0, 1, [115]⟩, ⟨(some 117), none, .max [.t 112, .t 116], [], [], 1, 1, [112, 116]⟩, ⟨(some 118), none, .faddr 3 (.t 5), [], [], 0, 1, [5]⟩, ⟨(some 119), none, .load false 1 (.t 118), [], [], 0, 1, [118]⟩, ⟨(some 120), none, .faddr 3 (.t 12), [], [], 0, 2, [12]⟩, ⟨(some 121), none, .load false 1 (.t 120), [], [], 0, 2, [120]⟩, ⟨(some 122), none, .bin .add .no (.c (.int .i64 1)) (.t 121), [], [], 0, 2, [121]⟩, ⟨(some 123), none, .max [.t 119, .t 122], [], [], 0, 2, [119, 122]⟩, ⟨(some 124), none, .faddr 2 (.t 5), [], [], 1, 1, [5]⟩, ⟨none, none, .store 1 (.t 124) (.t 117), [], [], 1, 2, [124, 117]⟩, ⟨(some 125), none, .faddr 3 (.t 5), [], [], 2, 2, [5]⟩, ⟨none, none, .store 1 (.t 125) (.t 123), [], [], 2, 3, [125, 123]⟩]))))) (
 .reg [o 126 (.bin .add .no (.t 98) (.c (.int .i64 1))), o 98 (.mv (.t 126))])))
def b23x11 : CC := .seq (.reg [o 136 (.bin .lss .no (.t 135) (.t 134))]) (
 .seq (.cond (.t 136) (.skip) (.exit 11)) (
 .seq (.block 12 (.seq (.reg [o 137 (.iaddr 3 (.t 133) (.t 135)), o 138 (.load true 3 (.t 137)), o 14 (.alloc [.str [], .int .i64 0, .int .i64 0]), x (.store 3 (.t 14) (.t 138))]) (
 .seq (.reg [o 139 (.mv (.t 1)), o 140 (.faddr 2 (.t 14)), o 141 (.load false 1 (.t 140)), o 142 (.iaddr 4 (.t 139) (.t 141)), o 143 (.load true 4 (.t 142)), o 15 (.alloc [.bool false, .int .i64 0, .int .i64 0, .int .i64 0]), x (.store 4 (.t 15) (.t 143))]) (
 .seq (.reg [o 144 (.faddr 0 (.t 5)), o 145 (.load false 1 (.t 144)), o 146 (.mv (.t 145)), g (some 147) 146 true (.faddr 0 (.t 15)), g (some 148) 146 true (.load false 1 (.t 147)), o 149 (.pick (.t 146) (.t 148) (.c (.bool false))), o 150 (.faddr 0 (.t 5)), x (.store 1 (.t 150) (.t 149))]) (
 .seq (.drw [⟨(some 151), none, .faddr 1 (.t 5), [], [], 0, 1, [5]⟩, ⟨(some 152), none, .load false 1 (.t 151), [], [], 0, 1, [151]⟩, ⟨(some 153), none, .load true 4 (.t 15), [], [], 0, 0, [15]⟩, ⟨(some 154), none, .faddr 1 (.t 15), [], [], 0, 0, [15]⟩, ⟨(some 155), none, .load false 1 (.t 154), [], [], 0, 0, [154]⟩, ⟨(some 156), none, .call (.c (.fn 48 [])) [.t 153, .t 155], [], [], 0, 1, [153, 155]⟩, ⟨(some 157), none, .bslice [.int .i64 0] 2 [(0, (.t 152)), (1, (.t 156))], [], [], 1, 1, [152, 156]⟩, ⟨(some 158), none, .call (.c (.fn 49 [])) [.t 157], [], [], 1, 2, [157]⟩, ⟨(some 159), none, .faddr 2 (.t 5), [], [], 0, 3, [5]⟩, ⟨(some 160), none, .load false 1 (.t 159), [], [], 0, 3, [159]⟩, ⟨(some 161), none, .load true 4 (.t 15), [], [], 0, 2, [15]⟩, ⟨(some 162), none, .faddr 2 (.t 15), [], [], 0, 2, [15]⟩, ⟨(some 163), none, .load false 1 (.t 162), [], [], 0, 2, [162]⟩, ⟨(some 164), none, .call (.c (.fn 48 [])) [.t 161, .t 163], [], [], 2, 3, [161, 163]⟩, ⟨(some 165), none, .bslice [.int .i64 0] 2 [(0, (.t 160)), (1, (.t 164))], [], [], 3, 3, [160, 164]⟩, ⟨(some 166), none, .call (.c (.fn 49 [])) [.t 165], [], [], 3, 4, [165]⟩, ⟨(some 167), none, .faddr 1 (.t 5), [], [], 2, 4, [5]⟩, ⟨none, none, .store 1 (.t 167) (.t 158), [], [], 4, 5, [167, 158]⟩, ⟨(some 168), none, .faddr 2 (.t 5), [], [], 5, 5, [5]⟩, ⟨none, none, .store 1 (.t 168) (.t 166), [], [], 5, 6, [168, 166]⟩]) (
 .reg [o 169 (.faddr 3 (.t 5)), o 170 (.load false 1 (.t 169)), o 171 (.faddr 3 (.t 15)), o 172 (.load false 1 (.t 171)), o 173 (.bin .add .no (.c (.int .i64 1)) (.t 172)), o 174 (.max [.t 170, .t 173]), o 175 (.faddr 3 (.t 5)), x (.store 1 (.t 175) (.t 174))])))))) (
 .reg [o 176 (.bin .add .no (.t 135) (.c (.int .i64 1))), o 135 (.mv (.t 176))])))
def c23 : CFn := ⟨178, [.cell 4 true 4], .seq (.reg [o 2 (.box 4 (.t 0)), o 4 (.alloc [.bool false, .int .i64 0, .int .i64 0, .int .i64 0])]) (
 .seq (.reg [o 16 (.build [.bool false, .int .i64 0, .int .i64 0, .int .i64 0] [(3, 1, (.c (.int .i64 1)))]), o 5 (.alloc [.bool false, .int .i64 0, .int .i64 0, .int .i64 0]), x (.store 4 (.t 5) (.t 16))]) (
 .seq (.seq (.reg [o 17 (.faddr 0 (.t 2)), o 18 (.load false 1 (.t 17))]) (
 .block 0 (.seq (.block 8 (.seq (.block 7 (.seq (.block 6 (.seq (.block 5 (.seq (.block 4 (.seq (.block 3 (.seq (.block 2 (.seq (.block 1 (.seq (.seq (.seq (.reg [o 20 (.bin .eql .no (.t 18) (.c (.int .i64 1))), o 19 (.mv (.t 20))]) (
 .cond (.t 19) (.exit 1) (.skip))) (
 .seq (.seq (.reg [o 22 (.bin .eql .no (.t 18) (.c (.int .i64 2))), o 21 (.mv (.t 22))]) (
 .cond (.t 21) (.exit 2) (.skip))) (
 .seq (.seq (.reg [o 24 (.bin .eql .no (.t 18) (.c (.int .i64 3))), o 23 (.mv (.t 24))]) (
 .cond (.t 23) (.exit 3) (.skip))) (
 .seq (.seq (.reg [o 26 (.bin .eql .no (.t 18) (.c (.int .i64 4))), o 25 (.mv (.t 26))]) (
 .cond (.t 25) (.exit 4) (.skip))) (
 .seq (.seq (.reg [o 28 (.bin .eql .no (.t 18) (.c (.int .i64 5))), o 27 (.mv (.t 28))]) (
 .cond (.t 27) (.exit 5) (.skip))) (
 .seq (.seq (.reg [o 30 (.bin .eql .no (.t 18) (.c (.int .i64 6))), o 29 (.mv (.t 30))]) (
 .cond (.t 29) (.exit 6) (.skip))) (
 .seq (.seq (.reg [o 32 (.bin .eql .no (.t 18) (.c (.int .i64 7))), o 31 (.mv (.t 32))]) (
 .cond (.t 31) (.exit 7) (.skip))) (
 .seq (.reg [o 34 (.bin .eql .no (.t 18) (.c (.int .i64 8))), o 33 (.mv (.t 34))]) (
 .cond (.t 33) (.exit 8) (.skip)))))))))) (
 .exit 0))) (
 .seq (.drw [⟨(some 35), none, .faddr 1 (.t 2), [], [], 0, 1, [2]⟩, ⟨(some 36), none, .load false 1 (.t 35), [], [], 0, 1, [35]⟩, ⟨(some 37), none, .faddr 1 (.t 2), [], [], 0, 2, [2]⟩, ⟨(some 38), none, .load false 1 (.t 37), [], [], 0, 2, [37]⟩, ⟨(some 39), none, .faddr 0 (.t 5), [], [], 0, 0, [5]⟩, ⟨none, none, .store 1 (.t 39) (.c (.bool true)), [], [], 0, 1, [39]⟩, ⟨(some 40), none, .faddr 1 (.t 5), [], [], 1, 1, [5]⟩, ⟨none, none, .store 1 (.t 40) (.t 36), [], [], 1, 2, [40, 36]⟩, ⟨(some 41), none, .faddr 2 (.t 5), [], [], 2, 2, [5]⟩, ⟨none, none, .store 1 (.t 41) (.t 38), [], [], 2, 3, [41, 38]⟩]) (
 .exit 0)))) (
 .seq (.reg [o 42 (.faddr 0 (.t 5)), x (.store 1 (.t 42) (.c (.bool true))), o 43 (.faddr 1 (.t 5)), x (.store 1 (.t 43) (.c (.int .i64 1))), o 44 (.faddr 2 (.t 5)), x (.store 1 (.t 44) (.c (.int .i64 1)))]) (
 .exit 0)))) (
 .seq (.reg [o 45 (.faddr 1 (.t 5)), x (.store 1 (.t 45) (.c (.int .i64 1))), o 46 (.faddr 2 (.t 5)), x (.store 1 (.t 46) (.c (.int .i64 10)))]) (
 .exit 0)))) (
 .seq (.reg [o 47 (.mv (.t 1)), o 48 (.faddr 2 (.t 2)), o 49 (.load false 1 (.t 48)), o 50 (.iaddr 4 (.t 47) (.t 49)), o 51 (.load true 4 (.t 50)), o 6 (.alloc [.bool false, .int .i64 0, .int .i64 0, .int .i64 0]), x (.store 4 (.t 6) (.t 51))]) (
 .drw [⟨(some 52), none, .faddr 0 (.t 6), [], [], 0, 2, [6]⟩, ⟨(some 53), none, .load false 1 (.t 52), [], [], 0, 2, [52]⟩, ⟨(some 54), none, .faddr 1 (.t 2), [], [], 0, 1, [2]⟩, ⟨(some 55), none, .load false 1 (.t 54), [], [], 0, 1, [54]⟩, ⟨(some 56), none, .load true 4 (.t 6), [], [], 0, 0, [6]⟩, ⟨(some 57), none, .faddr 1 (.t 6), [], [], 0, 0, [6]⟩, ⟨(some 58), none, .load false 1 (.t 57), [], [], 0, 0, [57]⟩, ⟨(some 59), none, .call (.c (.fn 48 [])) [.t 56, .t 58], [], [], 0, 1, [56, 58]⟩, ⟨(some 60), none, .call (.c (.fn 47 [])) [.t 55, .t 59], [], [], 1, 2, [55, 59]⟩, ⟨(some 61), none, .faddr 0 (.t 5), [], [], 0, 2, [5]⟩, ⟨none, none, .store 1 (.t 61) (.t 53), [], [], 2, 3, [61, 53]⟩, ⟨(some 62), none, .faddr 1 (.t 5), [], [], 3, 3, [5]⟩, ⟨none, none, .store 1 (.t 62) (.t 60), [], [], 3, 4, [62, 60]⟩])))) (
 .seq (.seq (.reg [o 63 (.mv (.t 1)), o 64 (.faddr 2 (.t 2)), o 65 (.load false 1 (.t 64)), o 66 (.iaddr 4 (.t 63) (.t 65)), o 67 (.load true 4 (.t 66)), o 7 (.alloc [.bool false, .int .i64 0, .int .i64 0, .int .i64 0]), x (.store 4 (.t 7) (.t 67))]) (
 .drw [⟨(some 68), none, .faddr 1 (.t 2), [], [], 0, 1, [2]⟩, ⟨(some 69), none, .load false 1 (.t 68), [], [], 0, 1, [68]⟩, ⟨(some 70), none, .load true 4 (.t 7), [], [], 0, 0, [7]⟩, ⟨(some 71), none, .faddr 2 (.t 7), [], [], 0, 0, [7]⟩, ⟨(some 72), none, .load false 1 (.t 71), [], [], 0, 0, [71]⟩, ⟨(some 73), none, .call (.c (.fn 48 [])) [.t 70, .t 72], [], [], 0, 1, [70, 72]⟩, ⟨(some 74), none, .call (.c (.fn 47 [])) [.t 69, .t 73], [], [], 1, 2, [69, 73]⟩, ⟨(some 75), none, .faddr 3 (.t 7), [], [], 0, 3, [7]⟩, ⟨(some 76), none, .load false 1 (.t 75), [], [], 0, 3, [75]⟩, ⟨(some 77), none, .bin .add .no (.c (.int .i64 1)) (.t 76), [], [], 0, 3, [76]⟩, ⟨(some 78), none, .faddr 2 (.t 5), [], [], 2, 2, [5]⟩, ⟨none, none, .store 1 (.t 78) (.t 74), [], [], 2, 3, [78, 74]⟩, ⟨(some 79), none, .faddr 3 (.t 5), [], [], 3, 3, [5]⟩, ⟨none, none, .store 1 (.t 79) (.t 77), [], [], 3, 4, [79, 77]⟩])) (
 .exit 0)))) (
 .seq (.seq (.reg [o 80 (.mv (.t 1)), o 81 (.faddr 2 (.t 2)), o 82 (.load false 1 (.t 81)), o 83 (.iaddr 4 (.t 80) (.t 82)), o 84 (.load true 4 (.t 83)), o 8 (.alloc [.bool false, .int .i64 0, .int .i64 0, .int .i64 0]), x (.store 4 (.t 8) (.t 84))]) (
 .drw [⟨(some 85), none, .faddr 2 (.t 8), [], [], 0, 0, [8]⟩, ⟨(some 86), none, .load false 1 (.t 85), [], [], 0, 0, [85]⟩, ⟨(some 87), none, .bslice [.int .i64 0] 2 [(0, (.c (.int .i64 1))), (1, (.t 86))], [], [], 0, 0, [86]⟩, ⟨(some 88), none, .call (.c (.fn 49 [])) [.t 87], [], [], 0, 1, [87]⟩, ⟨(some 89), none, .faddr 3 (.t 8), [], [], 0, 3, [8]⟩, ⟨(some 90), none, .load false 1 (.t 89), [], [], 0, 3, [89]⟩, ⟨(some 91), none, .bin .add .no (.c (.int .i64 1)) (.t 90), [], [], 0, 3, [90]⟩, ⟨(some 92), none, .faddr 1 (.t 5), [], [], 0, 1, [5]⟩, ⟨none, none, .store 1 (.t 92) (.c (.int .i64 1)), [], [], 1, 2, [92]⟩, ⟨(some 93), none, .faddr 2 (.t 5), [], [], 2, 2, [5]⟩, ⟨none, none, .store 1 (.t 93) (.t 88), [], [], 2, 3, [93, 88]⟩, ⟨(some 94), none, .faddr 3 (.t 5), [], [], 3, 3, [5]⟩, ⟨none, none, .store 1 (.t 94) (.t 91), [], [], 3, 4, [94, 91]⟩])) (
 .exit 0)))) (
 .seq (.seq (.reg [o 9 (.mv (.c (.int .i64 4611686018427387904)))]) (
 .seq (.seq (.reg [o 95 (.faddr 3 (.t 2)), o 96 (.load false 1 (.t 95)), o 97 (.len .sl (.t 96)), o 98 (.mv (.c (.int .i64 0)))]) (
 .block 9 (.loop (some [1, 4, 5, 9, 96, 97, 98]) b23x9))) (
 .reg [o 127 (.mv (.t 9)), o 128 (.bslice [.int .i64 0] 2 [(0, (.c (.int .i64 1))), (1, (.t 127))]), o 129 (.call (.c (.fn 49 [])) [.t 128]), o 130 (.faddr 1 (.t 5)), x (.store 1 (.t 130) (.t 129))]))) (
 .exit 0)))) (
 .seq (.seq (.reg [o 131 (.faddr 0 (.t 5)), x (.store 1 (.t 131) (.c (.bool true)))]) (
 .seq (.reg [o 132 (.faddr 3 (.t 2)), o 133 (.load false 1 (.t 132)), o 134 (.len .sl (.t 133)), o 135 (.mv (.c (.int .i64 0)))]) (
 .block 11 (.loop (some [1, 4, 5, 133, 134, 135]) b23x11)))) (
 .exit 0))))) (
 .seq (.reg [o 177 (.load true 4 (.t 5)), x (.store 4 (.t 4) (.t 177))]) (
 .ret))))⟩
theorem q23 : table Try.prog A0 23 = some c23 := by kernel_rfl

/-! mortise/layout.one -/
def b24x1 : CC := .seq (.reg [o 18 (.bin .lss .no (.t 17) (.t 16))]) (
 .seq (.cond (.t 18) (.skip) (.exit 1)) (
 .seq (.block 2 (.seq (.reg [o 19 (.iaddr 3 (.t 15) (.t 17)), o 20 (.load true 3 (.t 19)), o 7 (.alloc [.str [], .int .i64 0, .int .i64 0]), x (.store 3 (.t 7) (.t 20))]) (
 .seq (.drw [⟨(some 21), none, .mv (.t 1), [], [], 0, 0, [1]⟩, ⟨(some 22), none, .faddr 2 (.t 7), [], [], 0, 0, [7]⟩, ⟨(some 23), none, .load false 1 (.t 22), [], [], 0, 0, [22]⟩, ⟨(some 24), none, .iaddr 4 (.t 21) (.t 23), [], [], 0, 0, [21, 23]⟩, ⟨(some 25), none, .load true 4 (.t 24), [], [], 0, 0, [24]⟩, ⟨(some 26), none, .faddr 0 (.t 5), [], [], 0, 0, [5]⟩, ⟨(some 27), none, .load false 1 (.t 26), [], [], 0, 0, [26]⟩, ⟨(some 28), none, .call (.c (.fn 50 [])) [.t 25, .t 27], [], [], 0, 1, [25, 27]⟩, ⟨(some 8), none, .alloc [.int .i64 0, .bool false, .int .i64 0], [], [], 0, 1, []⟩, ⟨none, none, .store 3 (.t 8) (.t 28), [], [], 1, 2, [8, 28]⟩]) (
 .seq (.reg [o 29 (.faddr 1 (.t 5)), o 30 (.load false 1 (.t 29)), o 31 (.load true 3 (.t 8)), o 32 (.bslice [.int .i64 0, .bool false, .int .i64 0] 1 [(0, (.t 31))]), o 33 (.append 3 24 false (.t 30) (.t 32)), o 34 (.faddr 1 (.t 5)), x (.store 1 (.t 34) (.t 33))]) (
 .reg [o 35 (.faddr 0 (.t 5)), o 36 (.load false 1 (.t 35)), o 37 (.faddr 2 (.t 8)), o 38 (.load false 1 (.t 37)), o 39 (.bslice [.int .i64 0] 2 [(0, (.t 36)), (1, (.t 38))]), o 40 (.call (.c (.fn 49 [])) [.t 39]), o 41 (.faddr 0 (.t 5)), x (.store 1 (.t 41) (.t 40))]))))) (
 .reg [o 42 (.bin .add .no (.t 17) (.c (.int .i64 1))), o 17 (.mv (.t 42))])))
def c24 : CFn := ⟨71, [.cell 4 true 2], .seq (.reg [o 2 (.box 4 (.t 0)), o 4 (.alloc [.int .i64 0, .nils])]) (
 .seq (.seq (.reg [o 10 (.faddr 0 (.t 2)), o 11 (.load false 1 (.t 10))]) (
 .block 0 (.seq (.reg [o 13 (.bin .eql .no (.t 11) (.c (.int .i64 8))), o 12 (.mv (.t 13))]) (
 .cond (.t 12) (.seq (.reg [⟨(some 5), none, .alloc [.int .i64 0, .nils], [], [(1, 3)], 0, 0, []⟩]) (
 .seq (.seq (.reg [o 14 (.faddr 3 (.t 2)), o 15 (.load false 1 (.t 14)), o 16 (.len .sl (.t 15)), o 17 (.mv (.c (.int .i64 0)))]) (
 .block 1 (.loop (some [1, 4, 5, 15, 16, 17]) b24x1))) (
 .seq (.reg [o 43 (.load true 2 (.t 5)), ⟨none, none, .store 2 (.t 4) (.t 43), [.freeze 43 (some 1) 3], [], 0, 0, []⟩]) (
 .ret)))) (.seq (.reg [o 45 (.bin .eql .no (.t 11) (.c (.int .i64 4))), o 44 (.mv (.t 45))]) (
 .cond (.t 44) (.seq (.reg [o 46 (.mv (.t 1)), o 47 (.faddr 2 (.t 2)), o 48 (.load false 1 (.t 47)), o 49 (.iaddr 4 (.t 46) (.t 48)), o 50 (.load true 4 (.t 49)), o 51 (.call (.c (.fn 50 [])) [.t 50, .c (.int .i64 0)]), o 9 (.alloc [.int .i64 0, .bool false, .int .i64 0]), x (.store 3 (.t 9) (.t 51))]) (
 .seq (.drw [⟨(some 52), none, .faddr 1 (.t 2), [], [], 0, 0, [2]⟩, ⟨(some 53), none, .load false 1 (.t 52), [], [], 0, 0, [52]⟩, ⟨(some 54), none, .faddr 2 (.t 9), [], [], 0, 0, [9]⟩, ⟨(some 55), none, .load false 1 (.t 54), [], [], 0, 0, [54]⟩, ⟨(some 56), none, .call (.c (.fn 47 [])) [.t 53, .t 55], [], [], 0, 1, [53, 55]⟩, ⟨(some 57), none, .load true 3 (.t 9), [], [], 0, 1, [9]⟩, ⟨(some 58), none, .bslice [.int .i64 0, .bool false, .int .i64 0] 1 [(0, (.t 57))], [], [], 0, 1, [57]⟩, ⟨(some 59), none, .build [.int .i64 0, .nils] [(0, 1, (.t 56)), (1, 1, (.t 58))], [], [], 1, 1, [56, 58]⟩, ⟨none, none, .store 2 (.t 4) (.t 59), [], [], 1, 2, [4, 59]⟩]) (
 .ret))) (.seq (.reg [o 61 (.bin .eql .no (.t 11) (.c (.int .i64 5))), o 60 (.mv (.t 61))]) (
 .cond (.t 60) (.seq (.reg [o 62 (.mv (.t 1)), o 63 (.faddr 2 (.t 2)), o 64 (.load false 1 (.t 63)), o 65 (.iaddr 4 (.t 62) (.t 64)), o 66 (.load true 4 (.t 65)), o 67 (.call (.c (.fn 50 [])) [.t 66, .c (.int .i64 0)]), o 68 (.bslice [.int .i64 0, .bool false, .int .i64 0] 1 [(0, (.t 67))]), ⟨(some 69), none, .build [.int .i64 0, .nils] [(1, 1, (.t 68))], [.freeze 68 none 3], [], 0, 0, []⟩, x (.store 2 (.t 4) (.t 69))]) (
 .ret)) (.skip))))))))) (
 .seq (.reg [o 70 (.build [.int .i64 0, .nils] []), x (.store 2 (.t 4) (.t 70))]) (
 .ret)))⟩
theorem q24 : table Try.prog A0 24 = some c24 := by kernel_rfl

/-! (*mortise/raise.raiser).fixed -/
def c25 : CFn := ⟨36, [], .seq (.reg [o 7 (.mv (.t 0)), o 8 (.nilchk (.t 7)), o 9 (.faddr 0 (.t 8)), o 10 (.faddr 0 (.t 9)), o 11 (.load false 1 (.t 10)), o 12 (.mv (.t 1)), o 13 (.iaddr 4 (.t 11) (.t 12)), o 14 (.load true 4 (.t 13)), o 6 (.alloc [.int .i64 0, .int .i64 0, .int .i64 0, .nils]), x (.store 4 (.t 6) (.t 14))]) (
 .seq (.reg [o 15 (.faddr 0 (.t 6)), o 16 (.load false 1 (.t 15))]) (
 .block 0 (.seq (.reg [o 23 (.bin .eql .no (.t 16) (.c (.int .i64 1))), o 22 (.mv (.t 23))]) (
 .cond (.t 22) (.reg [o 24 (.mv (.t 0)), o 25 (.mv (.t 2)), o 26 (.faddr 1 (.t 6)), o 27 (.load false 1 (.t 26)), o 28 (.build [.int .i64 0, .int .i64 0, .int .i64 0, .int .i64 0] [(0, 1, (.c (.int .i64 33))), (1, 1, (.t 25)), (2, 1, (.t 27))]), o 29 (.call (.c (.fn 26 [])) [.t 24, .t 28])]) (.seq (.reg [o 31 (.bin .eql .no (.t 16) (.c (.int .i64 2))), o 30 (.mv (.t 31))]) (
 .cond (.t 30) (.reg [o 32 (.mv (.t 0)), o 33 (.mv (.t 2)), o 34 (.build [.int .i64 0, .int .i64 0, .int .i64 0, .int .i64 0] [(0, 1, (.c (.int .i64 35))), (1, 1, (.t 33))]), o 35 (.call (.c (.fn 26 [])) [.t 32, .t 34])]) (.reg [o 17 (.mv (.t 0)), o 18 (.mv (.t 2)), o 19 (.mv (.t 1)), o 20 (.build [.int .i64 0, .int .i64 0, .int .i64 0, .int .i64 0] [(0, 1, (.c (.int .i64 44))), (1, 1, (.t 18)), (3, 1, (.t 19))]), o 21 (.call (.c (.fn 26 [])) [.t 17, .t 20])])))))))⟩
theorem q25 : table Try.prog A0 25 = some c25 := by kernel_rfl

/-! (*mortise/raise.raiser).lay -/
def c26 : CFn := ⟨21, [.t 4], .seq (.reg [o 3 (.box 4 (.t 1)), o 4 (.mv (.c (.int .i64 0)))]) (
 .seq (.drw [⟨(some 5), none, .mv (.t 0), [], [], 0, 1, [0]⟩, ⟨(some 6), none, .mv (.t 0), [], [], 0, 0, [0]⟩, ⟨(some 7), none, .nilchk (.t 6), [], [], 0, 0, [6]⟩, ⟨(some 8), none, .faddr 4 (.t 7), [], [], 0, 0, [7]⟩, ⟨(some 9), none, .load false 1 (.t 8), [], [], 0, 0, [8]⟩, ⟨(some 10), none, .load true 4 (.t 3), [], [], 0, 0, [3]⟩, ⟨(some 11), none, .bslice [.int .i64 0, .int .i64 0, .int .i64 0, .int .i64 0] 1 [(0, (.t 10))], [], [], 0, 0, [10]⟩, ⟨(some 12), none, .append 4 32 false (.t 9) (.t 11), [], [], 0, 1, [9, 11]⟩, ⟨(some 13), none, .nilchk (.t 5), [], [], 1, 1, [5]⟩, ⟨(some 14), none, .faddr 4 (.t 13), [], [], 1, 1, [13]⟩, ⟨none, none, .store 1 (.t 14) (.t 12), [], [], 1, 2, [14, 12]⟩]) (
 .seq (.reg [o 15 (.mv (.t 0)), o 16 (.nilchk (.t 15)), o 17 (.faddr 4 (.t 16)), o 18 (.load false 1 (.t 17)), o 19 (.len .sl (.t 18)), o 20 (.bin .sub .no (.t 19) (.c (.int .i64 1))), o 4 (.mv (.t 20))]) (
 .ret)))⟩
theorem q26 : table Try.prog A0 26 = some c26 := by kernel_rfl

/-! (*mortise/raise.raiser).items -/
def c27 : CFn := ⟨51, [], .seq (.reg [o 10 (.mv (.t 0)), o 11 (.nilchk (.t 10)), o 12 (.faddr 2 (.t 11)), o 13 (.load false 1 (.t 12)), o 14 (.mv (.t 1)), o 15 (.iaddr 4 (.t 13) (.t 14)), o 16 (.faddr 0 (.t 15)), o 17 (.load false 1 (.t 16)), o 18 (.una .not (.t 17)), o 6 (.mv (.t 18))]) (
 .seq (.seq (.reg [o 19 (.mv (.t 6))]) (
 .cond (.t 19) (.reg [o 20 (.mv (.t 0)), o 21 (.build [.int .i64 0, .int .i64 0, .int .i64 0, .int .i64 0] [(0, 1, (.c (.int .i64 42))), (1, 1, (.c (.int .i64 (-1))))]), o 22 (.call (.c (.fn 26 [])) [.t 20, .t 21])]) (.skip))) (
 .seq (.reg [o 7 (.mv (.c (.int .i64 (-1))))]) (
 .seq (.seq (.reg [o 23 (.mv (.t 2))]) (
 .cond (.t 23) (.reg [o 24 (.mv (.t 0)), o 25 (.build [.int .i64 0, .int .i64 0, .int .i64 0, .int .i64 0] [(0, 1, (.c (.int .i64 19)))]), o 26 (.call (.c (.fn 26 [])) [.t 24, .t 25]), o 7 (.mv (.t 26))]) (.skip))) (
 .seq (.reg [o 8 (.mv (.c (.int .i64 0)))]) (
 .seq (.seq (.reg [o 27 (.mv (.t 6))]) (
 .cond (.t 27) (.seq (.reg [o 28 (.mv (.t 0)), o 29 (.build [.int .i64 0, .int .i64 0, .int .i64 0, .int .i64 0] [(0, 1, (.c (.int .i64 43))), (1, 1, (.c (.int .i64 (-1))))]), o 30 (.call (.c (.fn 26 [])) [.t 28, .t 29]), o 8 (.mv (.t 30))]) (
 .reg [o 31 (.mv (.t 0)), o 32 (.mv (.t 1)), o 33 (.build [.int .i64 0, .int .i64 0, .int .i64 0, .int .i64 0] [(0, 1, (.c (.int .i64 46))), (3, 1, (.t 32))]), o 34 (.call (.c (.fn 26 [])) [.t 31, .t 33])])) (.reg [o 35 (.mv (.t 0)), o 36 (.mv (.t 1)), o 37 (.call (.c (.fn 51 [])) [.t 35, .t 36]), o 8 (.mv (.t 37))]))) (
 .seq (.reg [o 38 (.mv (.t 0)), o 39 (.mv (.t 8)), o 40 (.build [.int .i64 0, .int .i64 0, .int .i64 0, .int .i64 0] [(0, 1, (.c (.int .i64 47))), (2, 1, (.t 39))]), o 41 (.call (.c (.fn 26 [])) [.t 38, .t 40]), o 9 (.mv (.t 41))]) (
 .seq (.reg [o 42 (.mv (.t 2))]) (
 .cond (.t 42) (.reg [o 43 (.mv (.t 0)), o 44 (.nilchk (.t 43)), o 45 (.faddr 4 (.t 44)), o 46 (.load false 1 (.t 45)), o 47 (.mv (.t 7)), o 48 (.mv (.t 9)), o 49 (.iaddr 4 (.t 46) (.t 47)), o 50 (.faddr 2 (.t 49)), x (.store 1 (.t 50) (.t 48))]) (.skip)))))))))⟩
theorem q27 : table Try.prog A0 27 = some c27 := by kernel_rfl

/-! (*mortise/raise.raiser).arms -/
def b28x0 : CC := .seq (.reg [o 25 (.bin .lss .no (.t 24) (.t 23))]) (
 .seq (.cond (.t 25) (.skip) (.exit 0)) (
 .seq (.block 1 (.seq (.reg [o 26 (.iaddr 3 (.t 22) (.t 24)), o 27 (.load true 3 (.t 26)), o 6 (.alloc [.str [], .int .i64 0, .int .i64 0]), x (.store 3 (.t 6) (.t 27))]) (
 .reg [o 28 (.mv (.t 0)), o 29 (.faddr 1 (.t 6)), o 30 (.load false 1 (.t 29)), o 31 (.build [.int .i64 0, .int .i64 0, .int .i64 0, .int .i64 0] [(0, 1, (.c (.int .i64 9))), (1, 1, (.t 30))]), o 32 (.call (.c (.fn 26 [])) [.t 28, .t 31])]))) (
 .reg [o 33 (.bin .add .no (.t 24) (.c (.int .i64 1))), o 24 (.mv (.t 33))])))
def b28x2 : CC := .seq (.reg [o 38 (.bin .lss .no (.t 37) (.t 36))]) (
 .seq (.cond (.t 38) (.skip) (.exit 2)) (
 .seq (.block 3 (.seq (.reg [o 39 (.mv (.t 37)), o 40 (.iaddr 3 (.t 35) (.t 37)), o 41 (.load true 3 (.t 40)), o 8 (.alloc [.str [], .int .i64 0, .int .i64 0]), o 7 (.mv (.t 39)), x (.store 3 (.t 8) (.t 41))]) (
 .seq (.reg [o 42 (.mv (.t 0)), o 43 (.faddr 2 (.t 8)), o 44 (.load false 1 (.t 43)), o 45 (.build [.int .i64 0, .int .i64 0, .int .i64 0, .int .i64 0] [(0, 1, (.c (.int .i64 46))), (3, 1, (.t 44))]), o 46 (.call (.c (.fn 26 [])) [.t 42, .t 45]), o 9 (.mv (.t 46))]) (
 .seq (.reg [o 47 (.mv (.t 0)), o 48 (.nilchk (.t 47)), o 49 (.faddr 4 (.t 48)), o 50 (.load false 1 (.t 49)), o 51 (.mv (.t 4)), o 52 (.mv (.t 7)), o 53 (.bin .add .no (.t 51) (.t 52)), o 54 (.mv (.t 9)), o 55 (.iaddr 4 (.t 50) (.t 53)), o 56 (.faddr 2 (.t 55)), x (.store 1 (.t 56) (.t 54))]) (
 .seq (.reg [o 57 (.mv (.t 7)), o 58 (.bin .add .no (.t 57) (.c (.int .i64 1))), o 59 (.faddr 3 (.t 3)), o 60 (.load false 1 (.t 59)), o 61 (.len .sl (.t 60)), o 62 (.bin .lss .no (.t 58) (.t 61))]) (
 .cond (.t 62) (.reg [o 63 (.mv (.t 0)), o 64 (.build [.int .i64 0, .int .i64 0, .int .i64 0, .int .i64 0] [(0, 1, (.c (.int .i64 20)))]), o 65 (.call (.c (.fn 26 [])) [.t 63, .t 64])]) (.skip))))))) (
 .reg [o 66 (.bin .add .no (.t 37) (.c (.int .i64 1))), o 37 (.mv (.t 66))])))
def c28 : CFn := ⟨67, [], .seq (.reg [o 3 (.box 4 (.t 1))]) (
 .seq (.reg [o 10 (.mv (.t 0)), o 11 (.faddr 3 (.t 3)), o 12 (.load false 1 (.t 11)), o 13 (.len .sl (.t 12)), o 14 (.build [.int .i64 0, .int .i64 0, .int .i64 0, .int .i64 0] [(0, 1, (.c (.int .i64 41))), (1, 1, (.t 13))]), o 15 (.call (.c (.fn 26 [])) [.t 10, .t 14])]) (
 .seq (.reg [o 16 (.mv (.t 0)), o 17 (.nilchk (.t 16)), o 18 (.faddr 4 (.t 17)), o 19 (.load false 1 (.t 18)), o 20 (.len .sl (.t 19)), o 4 (.mv (.t 20))]) (
 .seq (.seq (.reg [o 21 (.faddr 3 (.t 3)), o 22 (.load false 1 (.t 21)), o 23 (.len .sl (.t 22)), o 24 (.mv (.c (.int .i64 0)))]) (
 .block 0 (.loop (some [0, 3, 4, 22, 23, 24]) b28x0))) (
 .seq (.reg [o 34 (.faddr 3 (.t 3)), o 35 (.load false 1 (.t 34)), o 36 (.len .sl (.t 35)), o 37 (.mv (.c (.int .i64 0)))]) (
 .block 2 (.loop (some [0, 3, 4, 35, 36, 37]) b28x2))))))⟩
theorem q28 : table Try.prog A0 28 = some c28 := by kernel_rfl

/-! (*mortise/raise.raiser).fields -/
def b29x0 : CC := .seq (.reg [o 46 (.bin .lss .no (.t 45) (.t 44))]) (
 .seq (.cond (.t 46) (.skip) (.exit 0)) (
 .seq (.block 1 (.seq (.reg [o 47 (.mv (.t 45)), o 48 (.iaddr 3 (.t 43) (.t 45)), o 49 (.load true 3 (.t 48)), o 6 (.alloc [.str [], .int .i64 0, .int .i64 0]), o 5 (.mv (.t 47)), x (.store 3 (.t 6) (.t 49))]) (
 .seq (.reg [o 50 (.mv (.t 0)), o 51 (.nilchk (.t 50)), o 52 (.faddr 3 (.t 51)), o 53 (.load false 1 (.t 52)), o 54 (.mv (.t 1)), o 55 (.iaddr 2 (.t 53) (.t 54)), o 56 (.faddr 1 (.t 55)), o 57 (.load false 1 (.t 56)), o 58 (.mv (.t 5)), o 59 (.iaddr 3 (.t 57) (.t 58)), o 60 (.load true 3 (.t 59)), o 7 (.alloc [.int .i64 0, .bool false, .int .i64 0]), x (.store 3 (.t 7) (.t 60))]) (
 .seq (.seq (.reg [o 61 (.faddr 1 (.t 7)), o 62 (.load false 1 (.t 61)), o 63 (.una .not (.t 62))]) (
 .cond (.t 63) (.seq (.reg [o 64 (.mv (.t 0)), o 65 (.faddr 2 (.t 6)), o 66 (.load false 1 (.t 65)), o 67 (.faddr 0 (.t 7)), o 68 (.load false 1 (.t 67)), o 69 (.call (.c (.fn 25 [])) [.t 64, .t 66, .t 68])]) (
 .exit 1)) (.skip))) (
 .seq (.reg [o 70 (.mv (.t 0)), o 71 (.faddr 0 (.t 7)), o 72 (.load false 1 (.t 71)), o 73 (.build [.int .i64 0, .int .i64 0, .int .i64 0, .int .i64 0] [(0, 1, (.c (.int .i64 43))), (1, 1, (.t 72))]), o 74 (.call (.c (.fn 26 [])) [.t 70, .t 73])]) (
 .reg [o 75 (.mv (.t 0)), o 76 (.faddr 2 (.t 6)), o 77 (.load false 1 (.t 76)), o 78 (.build [.int .i64 0, .int .i64 0, .int .i64 0, .int .i64 0] [(0, 1, (.c (.int .i64 46))), (3, 1, (.t 77))]), o 79 (.call (.c (.fn 26 [])) [.t 75, .t 78])])))))) (
 .reg [o 80 (.bin .add .no (.t 45) (.c (.int .i64 1))), o 45 (.mv (.t 80))])))
def c29 : CFn := ⟨81, [], .seq (.reg [o 8 (.mv (.t 0)), o 9 (.nilchk (.t 8)), o 10 (.faddr 0 (.t 9)), o 11 (.faddr 0 (.t 10)), o 12 (.load false 1 (.t 11)), o 13 (.mv (.t 1)), o 14 (.iaddr 4 (.t 12) (.t 13)), o 15 (.load true 4 (.t 14)), o 4 (.alloc [.int .i64 0, .int .i64 0, .int .i64 0, .nils]), x (.store 4 (.t 4) (.t 15))]) (
 .seq (.reg [o 16 (.mv (.t 0)), o 17 (.faddr 3 (.t 4)), o 18 (.load false 1 (.t 17)), o 19 (.len .sl (.t 18)), o 20 (.build [.int .i64 0, .int .i64 0, .int .i64 0, .int .i64 0] [(0, 1, (.c (.int .i64 39))), (1, 1, (.t 19))]), o 21 (.call (.c (.fn 26 [])) [.t 16, .t 20])]) (
 .seq (.seq (.reg [o 22 (.mv (.t 0)), o 23 (.nilchk (.t 22)), o 24 (.faddr 2 (.t 23)), o 25 (.load false 1 (.t 24)), o 26 (.mv (.t 1)), o 27 (.iaddr 4 (.t 25) (.t 26)), o 28 (.faddr 0 (.t 27)), o 29 (.load false 1 (.t 28)), o 30 (.una .not (.t 29))]) (
 .cond (.t 30) (.reg [o 31 (.mv (.t 0)), o 32 (.mv (.t 0)), o 33 (.nilchk (.t 32)), o 34 (.faddr 3 (.t 33)), o 35 (.load false 1 (.t 34)), o 36 (.mv (.t 1)), o 37 (.iaddr 2 (.t 35) (.t 36)), o 38 (.faddr 0 (.t 37)), o 39 (.load false 1 (.t 38)), o 40 (.build [.int .i64 0, .int .i64 0, .int .i64 0, .int .i64 0] [(0, 1, (.c (.int .i64 42))), (1, 1, (.t 39))]), o 41 (.call (.c (.fn 26 [])) [.t 31, .t 40])]) (.skip))) (
 .seq (.reg [o 42 (.faddr 3 (.t 4)), o 43 (.load false 1 (.t 42)), o 44 (.len .sl (.t 43)), o 45 (.mv (.c (.int .i64 0)))]) (
 .block 0 (.loop (some [0, 1, 43, 44, 45]) b29x0)))))⟩
theorem q29 : table Try.prog A0 29 = some c29 := by kernel_rfl

/-! mortise/types.number -/
def c41 : CFn := ⟨33, [.t 4], .seq (.reg [o 4 (.mv (.c (.bool false)))]) (
 .seq (.seq (.reg [o 5 (.mv (.t 0))]) (
 .block 0 (.seq (.reg [o 7 (.bin .eql .no (.t 5) (.c (.int .i64 1))), o 6 (.mv (.t 7))]) (
 .cond (.t 6) (.seq (.reg [o 8 (.mv (.t 1)), o 9 (.bin .eql .no (.t 8) (.c (.int .i64 1))), o 10 (.mv (.t 9)), g (some 11) 10 false (.mv (.t 1)), g (some 12) 10 false (.bin .eql .no (.t 11) (.c (.int .i64 2))), o 13 (.pick (.t 10) (.c (.bool true)) (.t 12)), o 14 (.mv (.t 13)), g (some 15) 14 false (.mv (.t 1)), g (some 16) 14 false (.bin .eql .no (.t 15) (.c (.int .i64 4))), o 17 (.pick (.t 14) (.c (.bool true)) (.t 16)), o 18 (.mv (.t 17)), g (some 19) 18 false (.mv (.t 1)), g (some 20) 18 false (.bin .eql .no (.t 19) (.c (.int .i64 8))), o 21 (.pick (.t 18) (.c (.bool true)) (.t 20)), o 4 (.mv (.t 21))]) (
 .ret)) (.seq (.seq (.reg [o 23 (.bin .eql .no (.t 5) (.c (.int .i64 4))), o 22 (.mv (.t 23))]) (
 .cond (.t 22) (.skip) (.reg [o 24 (.bin .eql .no (.t 5) (.c (.int .i64 5))), o 22 (.mv (.t 24))]))) (
 .cond (.t 22) (.seq (.reg [o 25 (.mv (.t 1)), o 26 (.bin .geq .no (.t 25) (.c (.int .i64 1))), o 27 (.mv (.t 26)), g (some 28) 27 true (.mv (.t 1)), g (some 29) 27 true (.bin .leq .no (.t 28) (.c (.int .i64 1048576))), o 30 (.pick (.t 27) (.t 29) (.c (.bool false))), o 4 (.mv (.t 30))]) (
 .ret)) (.skip))))))) (
 .seq (.reg [o 31 (.mv (.t 1)), o 32 (.bin .eql .no (.t 31) (.c (.int .i64 0))), o 4 (.mv (.t 32))]) (
 .ret)))⟩
theorem q41 : table Try.prog A0 41 = some c41 := by kernel_rfl

/-! mortise/types.parts -/
def b42x0 : CC := .seq (.reg [o 29 (.bin .lss .no (.t 28) (.t 27))]) (
 .seq (.cond (.t 29) (.skip) (.exit 0)) (
 .seq (.block 1 (.seq (.reg [o 30 (.mv (.t 28)), o 31 (.iaddr 3 (.t 26) (.t 28)), o 32 (.load true 3 (.t 31)), o 10 (.alloc [.str [], .int .i64 0, .int .i64 0]), o 9 (.mv (.t 30)), x (.store 3 (.t 10) (.t 32))]) (
 .seq (.reg [o 33 (.faddr 2 (.t 10)), o 34 (.load false 1 (.t 33)), o 35 (.build [.str [], .int .i64 0, .int .i64 0] [(2, 1, (.t 34))]), o 11 (.alloc [.str [], .int .i64 0, .int .i64 0]), x (.store 3 (.t 11) (.t 35))]) (
 .seq (.seq (.reg [o 36 (.faddr 0 (.t 3)), o 37 (.load false 1 (.t 36)), o 38 (.bin .eql .no (.t 37) (.c (.int .i64 8)))]) (
 .cond (.t 38) (.seq (.reg [o 39 (.faddr 0 (.t 10)), o 40 (.load false 1 (.t 39)), o 41 (.faddr 0 (.t 11)), x (.store 1 (.t 41) (.t 40))]) (
 .seq (.reg [o 42 (.mv (.t 7)), o 43 (.faddr 0 (.t 10)), o 44 (.load false 1 (.t 43)), o 45 (.mv (.t 9)), x (.mapput .str (.t 42) (.t 44) (.t 45))]) (
 .seq (.reg [o 46 (.faddr 0 (.t 10)), o 47 (.load false 1 (.t 46)), o 48 (.call (.c (.fn 22 [])) [.t 47]), o 49 (.una .not (.t 48))]) (
 .cond (.t 49) (.seq (.reg [o 6 (.mv (.c (.bool false)))]) (
 .ret)) (.skip))))) (.seq (.reg [o 50 (.faddr 1 (.t 10)), o 51 (.load false 1 (.t 50)), o 52 (.faddr 1 (.t 11)), x (.store 1 (.t 52) (.t 51))]) (
 .seq (.reg [o 53 (.mv (.t 8)), o 54 (.faddr 1 (.t 10)), o 55 (.load false 1 (.t 54)), o 56 (.mv (.t 9)), x (.mapput .int (.t 53) (.t 55) (.t 56))]) (
 .seq (.reg [o 57 (.faddr 1 (.t 10)), o 58 (.load false 1 (.t 57)), o 59 (.bin .lss .no (.t 58) (.c (.int .i64 0))), o 60 (.mv (.t 59)), g (some 61) 60 false (.faddr 1 (.t 10)), g (some 62) 60 false (.load false 1 (.t 61)), g (some 63) 60 false (.bin .gtr .no (.t 62) (.c (.int .i64 255))), o 64 (.pick (.t 60) (.c (.bool true)) (.t 63))]) (
 .cond (.t 64) (.seq (.reg [o 6 (.mv (.c (.bool false)))]) (
 .ret)) (.skip))))))) (
 .seq (.reg [o 65 (.load true 3 (.t 10)), o 66 (.load true 3 (.t 11)), o 67 (.bin .neq (.flat [.str, .int, .int]) (.t 65) (.t 66)), o 68 (.mv (.t 67)), g (some 69) 68 false (.faddr 2 (.t 10)), g (some 70) 68 false (.load false 1 (.t 69)), g (some 71) 68 false (.bin .lss .no (.t 70) (.c (.int .i64 0))), o 72 (.pick (.t 68) (.c (.bool true)) (.t 71)), o 73 (.mv (.t 72)), g (some 74) 73 false (.faddr 2 (.t 10)), g (some 75) 73 false (.load false 1 (.t 74)), g (some 76) 73 false (.mv (.t 1)), g (some 77) 73 false (.bin .geq .no (.t 75) (.t 76)), o 78 (.pick (.t 73) (.c (.bool true)) (.t 77)), o 79 (.mv (.t 78)), g (some 80) 79 false (.mv (.t 7)), g (some 81) 79 false (.len .mp (.t 80)), g (some 82) 79 false (.mv (.t 8)), g (some 83) 79 false (.len .mp (.t 82)), g (some 84) 79 false (.bin .add .no (.t 81) (.t 83)), g (some 85) 79 false (.mv (.t 9)), g (some 86) 79 false (.bin .add .no (.t 85) (.c (.int .i64 1))), g (some 87) 79 false (.bin .neq .no (.t 84) (.t 86)), o 88 (.pick (.t 79) (.c (.bool true)) (.t 87))]) (
 .cond (.t 88) (.seq (.reg [o 6 (.mv (.c (.bool false)))]) (
 .ret)) (.skip))))))) (
 .reg [o 89 (.bin .add .no (.t 28) (.c (.int .i64 1))), o 28 (.mv (.t 89))])))
def c42 : CFn := ⟨90, [.t 6], .seq (.reg [o 3 (.box 4 (.t 0)), o 6 (.mv (.c (.bool false)))]) (
 .seq (.seq (.reg [o 12 (.faddr 3 (.t 3)), o 13 (.load false 1 (.t 12)), o 14 (.len .sl (.t 13)), o 15 (.bin .lss .no (.t 14) (.c (.int .i64 1))), o 16 (.mv (.t 15)), g (some 17) 16 false (.faddr 3 (.t 3)), g (some 18) 16 false (.load false 1 (.t 17)), g (some 19) 16 false (.len .sl (.t 18)), g (some 20) 16 false (.mv (.t 2)), g (some 21) 16 false (.bin .gtr .no (.t 19) (.t 20)), o 22 (.pick (.t 16) (.c (.bool true)) (.t 21))]) (
 .cond (.t 22) (.seq (.reg [o 6 (.mv (.c (.bool false)))]) (
 .ret)) (.skip))) (
 .seq (.reg [o 23 (.mkmap), o 24 (.mkmap), o 7 (.mv (.t 23)), o 8 (.mv (.t 24))]) (
 .seq (.seq (.reg [o 25 (.faddr 3 (.t 3)), o 26 (.load false 1 (.t 25)), o 27 (.len .sl (.t 26)), o 28 (.mv (.c (.int .i64 0)))]) (
 .block 0 (.loop (some [1, 3, 7, 8, 26, 27, 28]) b42x0))) (
 .seq (.reg [o 6 (.mv (.c (.bool true)))]) (
 .ret)))))⟩
theorem q42 : table Try.prog A0 42 = some c42 := by kernel_rfl

/-! mortise/tokens.letter -/
def c43 : CFn := ⟨9, [.t 2], .seq (.reg [o 2 (.mv (.c (.bool false)))]) (
 .seq (.reg [o 3 (.mv (.t 0)), o 4 (.bin .geq .no (.t 3) (.c (.int .u8 97))), o 5 (.mv (.t 4)), g (some 6) 5 true (.mv (.t 0)), g (some 7) 5 true (.bin .leq .no (.t 6) (.c (.int .u8 122))), o 8 (.pick (.t 5) (.t 7) (.c (.bool false))), o 2 (.mv (.t 8))]) (
 .ret))⟩
theorem q43 : table Try.prog A0 43 = some c43 := by kernel_rfl

/-! mortise/tokens.run -/
def b44x0 : CC := .seq (.seq (.reg [o 7 (.mv (.t 1)), o 8 (.mv (.t 0)), o 9 (.len .str (.t 8)), o 10 (.bin .lss .no (.t 7) (.t 9)), o 11 (.mv (.t 10)), g (some 12) 11 true (.mv (.t 2)), g (some 13) 11 true (.mv (.t 0)), g (some 14) 11 true (.mv (.t 1)), g (some 15) 11 true (.index (.t 13) (.t 14)), g (some 16) 11 true (.call (.t 12) [.t 15]), o 17 (.pick (.t 11) (.t 16) (.c (.bool false)))]) (
 .cond (.t 17) (.skip) (.exit 0))) (
 .block 1 (.reg [o 18 (.mv (.t 1)), o 19 (.bin .add .no (.t 18) (.c (.int .i64 1))), o 1 (.mv (.t 19))]))
def c44 : CFn := ⟨21, [.t 6], .seq (.reg [o 6 (.mv (.c (.int .i64 0)))]) (
 .seq (.block 0 (.loop (some [0, 1, 2]) b44x0)) (
 .seq (.reg [o 20 (.mv (.t 1)), o 6 (.mv (.t 20))]) (
 .ret)))⟩
theorem q44 : table Try.prog A0 44 = some c44 := by kernel_rfl

/-! mortise/tokens.further -/
def c45 : CFn := ⟨13, [.t 2], .seq (.reg [o 2 (.mv (.c (.bool false)))]) (
 .seq (.reg [o 3 (.mv (.t 0)), o 4 (.call (.c (.fn 43 [])) [.t 3]), o 5 (.mv (.t 4)), g (some 6) 5 false (.mv (.t 0)), g (some 7) 5 false (.call (.c (.fn 61 [])) [.t 6]), o 8 (.pick (.t 5) (.c (.bool true)) (.t 7)), o 9 (.mv (.t 8)), g (some 10) 9 false (.mv (.t 0)), g (some 11) 9 false (.bin .eql .no (.t 10) (.c (.int .u8 95))), o 12 (.pick (.t 9) (.c (.bool true)) (.t 11)), o 2 (.mv (.t 12))]) (
 .ret))⟩
theorem q45 : table Try.prog A0 45 = some c45 := by kernel_rfl

/-! mortise/tokens.Word -/
def c46 : CFn := ⟨17, [.t 2], .seq (.reg [o 2 (.mv (.c (.bool false)))]) (
 .seq (.seq (.reg [o 3 (.mv (.t 0))]) (
 .block 0 (.seq (.seq (.reg [o 5 (.bin .eql .no (.t 3) (.c (.str [116, 121, 112, 101]))), o 4 (.mv (.t 5))]) (
 .cond (.t 4) (.skip) (.seq (.reg [o 6 (.bin .eql .no (.t 3) (.c (.str [117, 56]))), o 4 (.mv (.t 6))]) (
 .cond (.t 4) (.skip) (.seq (.reg [o 7 (.bin .eql .no (.t 3) (.c (.str [117, 49, 54]))), o 4 (.mv (.t 7))]) (
 .cond (.t 4) (.skip) (.seq (.reg [o 8 (.bin .eql .no (.t 3) (.c (.str [117, 51, 50]))), o 4 (.mv (.t 8))]) (
 .cond (.t 4) (.skip) (.seq (.reg [o 9 (.bin .eql .no (.t 3) (.c (.str [117, 54, 52]))), o 4 (.mv (.t 9))]) (
 .cond (.t 4) (.skip) (.seq (.reg [o 10 (.bin .eql .no (.t 3) (.c (.str [98, 111, 111, 108]))), o 4 (.mv (.t 10))]) (
 .cond (.t 4) (.skip) (.seq (.reg [o 11 (.bin .eql .no (.t 3) (.c (.str [118, 97, 114, 105, 110, 116]))), o 4 (.mv (.t 11))]) (
 .cond (.t 4) (.skip) (.seq (.reg [o 12 (.bin .eql .no (.t 3) (.c (.str [118, 101, 99, 116, 111, 114]))), o 4 (.mv (.t 12))]) (
 .cond (.t 4) (.skip) (.seq (.reg [o 13 (.bin .eql .no (.t 3) (.c (.str [108, 105, 115, 116]))), o 4 (.mv (.t 13))]) (
 .cond (.t 4) (.skip) (.seq (.reg [o 14 (.bin .eql .no (.t 3) (.c (.str [111, 112, 116, 105, 111, 110]))), o 4 (.mv (.t 14))]) (
 .cond (.t 4) (.skip) (.seq (.reg [o 15 (.bin .eql .no (.t 3) (.c (.str [117, 110, 105, 111, 110]))), o 4 (.mv (.t 15))]) (
 .cond (.t 4) (.skip) (.reg [o 16 (.bin .eql .no (.t 3) (.c (.str [115, 116, 114, 117, 99, 116]))), o 4 (.mv (.t 16))]))))))))))))))))))))))) (
 .cond (.t 4) (.seq (.reg [o 2 (.mv (.c (.bool true)))]) (
 .ret)) (.skip))))) (
 .seq (.reg [o 2 (.mv (.c (.bool false)))]) (
 .ret)))⟩
theorem q46 : table Try.prog A0 46 = some c46 := by kernel_rfl

/-! mortise/le.Times -/
def c47 : CFn := ⟨25, [.t 4], .seq (.reg [o 4 (.mv (.c (.int .i64 0)))]) (
 .seq (.reg [o 8 (.mv (.t 0)), o 9 (.call (.c (.fn 63 [])) [.t 8]), o 10 (.conv .u64 (.t 9)), o 11 (.mv (.t 1)), o 12 (.call (.c (.fn 63 [])) [.t 11]), o 13 (.conv .u64 (.t 12)), o 14 (.call (.c (.fn 62 [])) [.t 10, .t 13]), o 7 (.mv (.t 14)), o 15 (.extr (.t 7) 0), o 16 (.extr (.t 7) 1), o 5 (.mv (.t 15)), o 6 (.mv (.t 16))]) (
 .seq (.seq (.reg [o 17 (.mv (.t 5)), o 18 (.bin .gtr .no (.t 17) (.c (.int .u64 0))), o 19 (.mv (.t 18)), g (some 20) 19 false (.mv (.t 6)), g (some 21) 19 false (.bin .gtr .no (.t 20) (.c (.int .u64 4611686018427387904))), o 22 (.pick (.t 19) (.c (.bool true)) (.t 21))]) (
 .cond (.t 22) (.seq (.reg [o 4 (.mv (.c (.int .i64 4611686018427387904)))]) (
 .ret)) (.skip))) (
 .seq (.reg [o 23 (.mv (.t 6)), o 24 (.conv .i64 (.t 23)), o 4 (.mv (.t 24))]) (
 .ret))))⟩
theorem q47 : table Try.prog A0 47 = some c47 := by kernel_rfl

/-! mortise/size.within -/
def c48 : CFn := ⟨11, [.t 4], .seq (.reg [o 2 (.box 4 (.t 0)), o 4 (.mv (.c (.int .i64 0)))]) (
 .seq (.seq (.reg [o 5 (.faddr 0 (.t 2)), o 6 (.load false 1 (.t 5))]) (
 .cond (.t 6) (.seq (.reg [o 7 (.mv (.t 1)), o 4 (.mv (.t 7))]) (
 .ret)) (.skip))) (
 .seq (.reg [o 8 (.mv (.t 1)), o 9 (.bslice [.int .i64 0] 2 [(0, (.c (.int .i64 4))), (1, (.t 8))]), o 10 (.call (.c (.fn 49 [])) [.t 9]), o 4 (.mv (.t 10))]) (
 .ret)))⟩
theorem q48 : table Try.prog A0 48 = some c48 := by kernel_rfl

/-! mortise/le.Plus -/
def b49x0 : CC := .seq (.reg [o 9 (.bin .lss .no (.t 8) (.t 7))]) (
 .seq (.cond (.t 9) (.skip) (.exit 0)) (
 .seq (.block 1 (.seq (.reg [o 10 (.iaddr 1 (.t 6) (.t 8)), o 11 (.load false 1 (.t 10)), o 5 (.mv (.t 11))]) (
 .reg [o 12 (.mv (.t 3)), o 13 (.mv (.t 5)), o 14 (.call (.c (.fn 63 [])) [.t 13]), o 15 (.bin .sub .no (.c (.int .i64 4611686018427387904)) (.t 14)), o 16 (.min [.t 12, .t 15]), o 17 (.mv (.t 5)), o 18 (.call (.c (.fn 63 [])) [.t 17]), o 19 (.bin .add .no (.t 16) (.t 18)), o 3 (.mv (.t 19))]))) (
 .reg [o 20 (.bin .add .no (.t 8) (.c (.int .i64 1))), o 8 (.mv (.t 20))])))
def c49 : CFn := ⟨22, [.t 2], .seq (.reg [o 2 (.mv (.c (.int .i64 0)))]) (
 .seq (.reg [o 3 (.mv (.c (.int .i64 0)))]) (
 .seq (.seq (.reg [o 6 (.mv (.t 0)), o 7 (.len .sl (.t 6)), o 8 (.mv (.c (.int .i64 0)))]) (
 .block 0 (.loop (some [3, 6, 7, 8]) b49x0))) (
 .seq (.reg [o 21 (.mv (.t 3)), o 2 (.mv (.t 21))]) (
 .ret))))⟩
theorem q49 : table Try.prog A0 49 = some c49 := by kernel_rfl

/-! mortise/layout.slot -/
def c50 : CFn := ⟨13, [.cell 4 true 3], .seq (.reg [o 2 (.box 4 (.t 0)), o 4 (.alloc [.int .i64 0, .bool false, .int .i64 0])]) (
 .seq (.seq (.reg [o 5 (.faddr 0 (.t 2)), o 6 (.load false 1 (.t 5))]) (
 .cond (.t 6) (.seq (.reg [o 7 (.mv (.t 1)), o 8 (.faddr 2 (.t 2)), o 9 (.load false 1 (.t 8)), o 10 (.build [.int .i64 0, .bool false, .int .i64 0] [(0, 1, (.t 7)), (2, 1, (.t 9))]), x (.store 3 (.t 4) (.t 10))]) (
 .ret)) (.skip))) (
 .seq (.reg [o 11 (.mv (.t 1)), o 12 (.build [.int .i64 0, .bool false, .int .i64 0] [(0, 1, (.t 11)), (1, 1, (.c (.bool true))), (2, 1, (.c (.int .i64 4)))]), x (.store 3 (.t 4) (.t 12))]) (
 .ret)))⟩
theorem q50 : table Try.prog A0 50 = some c50 := by kernel_rfl

/-! (*mortise/raise.raiser).item -/
def c51 : CFn := ⟨40, [.t 4], .seq (.reg [o 4 (.mv (.c (.int .i64 0)))]) (
 .seq (.seq (.reg [o 6 (.mv (.t 0)), o 7 (.nilchk (.t 6)), o 8 (.faddr 0 (.t 7)), o 9 (.faddr 0 (.t 8)), o 10 (.load false 1 (.t 9)), o 11 (.mv (.t 1)), o 12 (.iaddr 4 (.t 10) (.t 11)), o 13 (.load true 4 (.t 12)), o 5 (.alloc [.int .i64 0, .int .i64 0, .int .i64 0, .nils]), x (.store 4 (.t 5) (.t 13))]) (
 .seq (.reg [o 14 (.faddr 0 (.t 5)), o 15 (.load false 1 (.t 14))]) (
 .block 0 (.seq (.reg [o 17 (.bin .eql .no (.t 15) (.c (.int .i64 1))), o 16 (.mv (.t 17))]) (
 .cond (.t 16) (.seq (.reg [o 18 (.mv (.t 0)), o 19 (.faddr 1 (.t 5)), o 20 (.load false 1 (.t 19)), o 21 (.build [.int .i64 0, .int .i64 0, .int .i64 0, .int .i64 0] [(0, 1, (.c (.int .i64 33))), (1, 1, (.c (.int .i64 (-1)))), (2, 1, (.t 20))]), o 22 (.call (.c (.fn 26 [])) [.t 18, .t 21]), o 4 (.mv (.t 22))]) (
 .ret)) (.seq (.reg [o 24 (.bin .eql .no (.t 15) (.c (.int .i64 2))), o 23 (.mv (.t 24))]) (
 .cond (.t 23) (.seq (.reg [o 25 (.mv (.t 0)), o 26 (.build [.int .i64 0, .int .i64 0, .int .i64 0, .int .i64 0] [(0, 1, (.c (.int .i64 35))), (1, 1, (.c (.int .i64 (-1))))]), o 27 (.call (.c (.fn 26 [])) [.t 25, .t 26]), o 4 (.mv (.t 27))]) (
 .ret)) (.skip)))))))) (
 .seq (.reg [o 28 (.mv (.t 0)), o 29 (.mv (.t 0)), o 30 (.nilchk (.t 29)), o 31 (.faddr 2 (.t 30)), o 32 (.load false 1 (.t 31)), o 33 (.mv (.t 1)), o 34 (.iaddr 4 (.t 32) (.t 33)), o 35 (.faddr 2 (.t 34)), o 36 (.load false 1 (.t 35)), o 37 (.mv (.t 1)), o 38 (.build [.int .i64 0, .int .i64 0, .int .i64 0, .int .i64 0] [(0, 1, (.c (.int .i64 45))), (1, 1, (.t 36)), (3, 1, (.t 37))]), o 39 (.call (.c (.fn 26 [])) [.t 28, .t 38]), o 4 (.mv (.t 39))]) (
 .ret)))⟩
theorem q51 : table Try.prog A0 51 = some c51 := by kernel_rfl

/-! mortise/tokens.digit -/
def c61 : CFn := ⟨9, [.t 2], .seq (.reg [o 2 (.mv (.c (.bool false)))]) (
 .seq (.reg [o 3 (.mv (.t 0)), o 4 (.bin .geq .no (.t 3) (.c (.int .u8 48))), o 5 (.mv (.t 4)), g (some 6) 5 true (.mv (.t 0)), g (some 7) 5 true (.bin .leq .no (.t 6) (.c (.int .u8 57))), o 8 (.pick (.t 5) (.t 7) (.c (.bool false))), o 2 (.mv (.t 8))]) (
 .ret))⟩
theorem q61 : table Try.prog A0 61 = some c61 := by kernel_rfl

/-! math/bits.Mul64 -/
def c62 : CFn := ⟨51, [.t 4, .t 5], .seq (.reg [o 4 (.mv (.c (.int .u64 0))), o 5 (.mv (.c (.int .u64 0)))]) (
 .seq (.reg [o 14 (.mv (.t 0)), o 15 (.bin .and .no (.t 14) (.c (.int .u64 4294967295))), o 6 (.mv (.t 15))]) (
 .seq (.reg [o 16 (.mv (.t 0)), o 17 (.bin .shr .no (.t 16) (.c (.int .u64 32))), o 7 (.mv (.t 17))]) (
 .seq (.reg [o 18 (.mv (.t 1)), o 19 (.bin .and .no (.t 18) (.c (.int .u64 4294967295))), o 8 (.mv (.t 19))]) (
 .seq (.reg [o 20 (.mv (.t 1)), o 21 (.bin .shr .no (.t 20) (.c (.int .u64 32))), o 9 (.mv (.t 21))]) (
 .seq (.reg [o 22 (.mv (.t 6)), o 23 (.mv (.t 8)), o 24 (.bin .mul .no (.t 22) (.t 23)), o 10 (.mv (.t 24))]) (
 .seq (.reg [o 25 (.mv (.t 7)), o 26 (.mv (.t 8)), o 27 (.bin .mul .no (.t 25) (.t 26)), o 28 (.mv (.t 10)), o 29 (.bin .shr .no (.t 28) (.c (.int .u64 32))), o 30 (.bin .add .no (.t 27) (.t 29)), o 11 (.mv (.t 30))]) (
 .seq (.reg [o 31 (.mv (.t 11)), o 32 (.bin .and .no (.t 31) (.c (.int .u64 4294967295))), o 12 (.mv (.t 32))]) (
 .seq (.reg [o 33 (.mv (.t 11)), o 34 (.bin .shr .no (.t 33) (.c (.int .u64 32))), o 13 (.mv (.t 34))]) (
 .seq (.reg [o 35 (.mv (.t 12)), o 36 (.mv (.t 6)), o 37 (.mv (.t 9)), o 38 (.bin .mul .no (.t 36) (.t 37)), o 39 (.bin .add .no (.t 35) (.t 38)), o 12 (.mv (.t 39))]) (
 .seq (.reg [o 40 (.mv (.t 7)), o 41 (.mv (.t 9)), o 42 (.bin .mul .no (.t 40) (.t 41)), o 43 (.mv (.t 13)), o 44 (.bin .add .no (.t 42) (.t 43)), o 45 (.mv (.t 12)), o 46 (.bin .shr .no (.t 45) (.c (.int .u64 32))), o 47 (.bin .add .no (.t 44) (.t 46)), o 4 (.mv (.t 47))]) (
 .seq (.reg [o 48 (.mv (.t 0)), o 49 (.mv (.t 1)), o 50 (.bin .mul .no (.t 48) (.t 49)), o 5 (.mv (.t 50))]) (
 .ret))))))))))))⟩
theorem q62 : table Try.prog A0 62 = some c62 := by kernel_rfl

/-! mortise/le.sized -/
def c63 : CFn := ⟨6, [.t 2], .seq (.reg [o 2 (.mv (.c (.int .i64 0)))]) (
 .seq (.reg [o 3 (.mv (.t 0)), o 4 (.max [.t 3, .c (.int .i64 0)]), o 5 (.min [.t 4, .c (.int .i64 4611686018427387904)]), o 2 (.mv (.t 5))]) (
 .ret))⟩
theorem q63 : table Try.prog A0 63 = some c63 := by kernel_rfl

end Mev
