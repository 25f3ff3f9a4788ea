/- The program's functions as the evaluator runs them: written by a program of this session out of the loaded code. -/
import Derived.Test.YtfndbddlicbjpaaProg
import Derived.Test.YtfndbddlicbjpaaMevAnn
import Derived.Test.YtfndbddlicbjpaaMevStep
import Derived.KernelRfl

set_option maxRecDepth 100000
namespace Mev
open Go.Proofs

/-! mortise/mortiselaw17.RaiseExact -/
def b3x0 : CC := .seq (.seq (.reg [o 63 (.mv (.t 10)), o 64 (.faddr 1 (.t 4)), o 65 (.load false 1 (.t 64)), o 66 (.len .sl (.t 65)), o 67 (.bin .lss .no (.t 63) (.t 66))]) (
 .cond (.t 67) (.skip) (.exit 0))) (
 .seq (.block 1 (.reg [o 70 (.faddr 1 (.t 4)), o 71 (.load false 1 (.t 70)), o 72 (.mv (.t 10)), o 73 (.build [.int .i64 0, .int .i64 0, .int .i64 0, .int .i64 0] [(0, 1, (.c (.int .i64 (-1))))]), o 74 (.iaddr 4 (.t 71) (.t 72)), x (.store 4 (.t 74) (.t 73))])) (
 .reg [o 68 (.mv (.t 10)), o 69 (.bin .add .no (.t 68) (.c (.int .i64 1))), o 10 (.mv (.t 69))]))
def b3x2 : CC := .seq (.seq (.reg [o 75 (.mv (.t 11)), o 76 (.faddr 2 (.t 4)), o 77 (.load false 1 (.t 76)), o 78 (.len .sl (.t 77)), o 79 (.bin .lss .no (.t 75) (.t 78))]) (
 .cond (.t 79) (.skip) (.exit 2))) (
 .seq (.block 3 (.reg [o 82 (.faddr 2 (.t 4)), o 83 (.load false 1 (.t 82)), o 84 (.mv (.t 11)), o 85 (.iaddr 1 (.t 83) (.t 84)), x (.store 1 (.t 85) (.c (.int .i64 (-1))))])) (
 .reg [o 80 (.mv (.t 11)), o 81 (.bin .add .no (.t 80) (.c (.int .i64 1))), o 11 (.mv (.t 81))]))
def b3x4 : CC := .seq (.seq (.reg [o 95 (.mv (.t 14)), o 96 (.faddr 1 (.t 4)), o 97 (.load false 1 (.t 96)), o 98 (.len .sl (.t 97)), o 99 (.bin .lss .no (.t 95) (.t 98))]) (
 .cond (.t 99) (.skip) (.exit 4))) (
 .seq (.block 5 (.seq (.reg [o 102 (.faddr 1 (.t 4)), o 103 (.load false 1 (.t 102)), o 104 (.mv (.t 14)), o 105 (.iaddr 4 (.t 103) (.t 104)), o 106 (.faddr 0 (.t 105)), o 107 (.load false 1 (.t 106)), o 108 (.bin .neq .no (.t 107) (.c (.int .i64 (-1)))), o 109 (.mv (.t 108)), g (some 110) 109 false (.mv (.t 12)), g (some 111) 109 false (.mv (.t 14)), g (some 112) 109 false (.iaddr 4 (.t 110) (.t 111)), g (some 113) 109 false (.faddr 0 (.t 112)), g (some 114) 109 false (.load false 1 (.t 113)), g (some 115) 109 false (.bin .neq .no (.t 114) (.c (.int .i64 (-1)))), o 116 (.pick (.t 109) (.c (.bool true)) (.t 115))]) (
 .cond (.t 116) (.seq (.reg [o 2 (.mv (.c (.bool false)))]) (
 .ret)) (.skip)))) (
 .reg [o 100 (.mv (.t 14)), o 101 (.bin .add .no (.t 100) (.c (.int .i64 1))), o 14 (.mv (.t 101))]))
def b3x6 : CC := .seq (.seq (.reg [o 117 (.mv (.t 15)), o 118 (.faddr 2 (.t 4)), o 119 (.load false 1 (.t 118)), o 120 (.len .sl (.t 119)), o 121 (.bin .lss .no (.t 117) (.t 120))]) (
 .cond (.t 121) (.skip) (.exit 6))) (
 .seq (.block 7 (.seq (.reg [o 124 (.faddr 2 (.t 4)), o 125 (.load false 1 (.t 124)), o 126 (.mv (.t 15)), o 127 (.iaddr 1 (.t 125) (.t 126)), o 128 (.load false 1 (.t 127)), o 129 (.bin .neq .no (.t 128) (.c (.int .i64 (-1)))), o 130 (.mv (.t 129)), g (some 131) 130 false (.mv (.t 13)), g (some 132) 130 false (.mv (.t 15)), g (some 133) 130 false (.iaddr 1 (.t 131) (.t 132)), g (some 134) 130 false (.load false 1 (.t 133)), g (some 135) 130 false (.bin .neq .no (.t 134) (.c (.int .i64 (-1)))), o 136 (.pick (.t 130) (.c (.bool true)) (.t 135))]) (
 .cond (.t 136) (.seq (.reg [o 2 (.mv (.c (.bool false)))]) (
 .ret)) (.skip)))) (
 .reg [o 122 (.mv (.t 15)), o 123 (.bin .add .no (.t 122) (.c (.int .i64 1))), o 15 (.mv (.t 123))]))
def c3 : CFn := ⟨174, [.t 2], .seq (.reg [o 1 (.box 2 (.t 0)), o 2 (.mv (.c (.bool false)))]) (
 .seq (.seq (.reg [o 18 (.call (.c (.fn 5 [])) []), o 19 (.una .not (.t 18))]) (
 .cond (.t 19) (.seq (.reg [o 2 (.mv (.c (.bool false)))]) (
 .ret)) (.skip))) (
 .seq (.reg [o 20 (.load true 2 (.t 1)), o 21 (.call (.c (.fn 6 [])) [.t 20]), o 3 (.alloc [.nils, .nils]), ⟨none, none, .store 2 (.t 3) (.t 21), [.freeze 21 (some 0) 4, .freeze 21 (some 1) 2], [], 0, 0, []⟩]) (
 .seq (.reg [o 23 (.load true 2 (.t 3)), o 24 (.call (.c (.fn 7 [])) [.t 23]), o 22 (.mv (.t 24)), o 25 (.extr (.t 22) 0), o 26 (.extr (.t 22) 1), o 4 (.alloc [.bool false, .nils, .nils]), x (.store 3 (.t 4) (.t 25)), o 5 (.mv (.t 26))]) (
 .seq (.reg [o 28 (.load true 2 (.t 3)), o 29 (.call (.c (.fn 7 [])) [.t 28]), o 27 (.mv (.t 29)), o 30 (.extr (.t 27) 0), o 31 (.extr (.t 27) 1), o 6 (.alloc [.bool false, .nils, .nils]), ⟨none, none, .store 3 (.t 6) (.t 30), [.freeze 30 (some 1) 4, .freeze 30 (some 2) 1], [], 0, 0, []⟩, o 7 (.mv (.t 31))]) (
 .seq (.reg [o 33 (.load true 2 (.t 1)), o 34 (.call (.c (.fn 8 [])) [.t 33]), o 32 (.mv (.t 34)), o 35 (.extr (.t 32) 0), o 36 (.extr (.t 32) 1), o 8 (.alloc [.bool false, .nils, .nils]), x (.store 3 (.t 8) (.t 35)), o 9 (.mv (.t 36))]) (
 .seq (.seq (.reg [o 37 (.mv (.t 5)), o 38 (.mv (.t 9)), o 39 (.bin .neq .no (.t 37) (.t 38)), o 40 (.mv (.t 39)), g (some 41) 40 false (.mv (.t 7)), g (some 42) 40 false (.mv (.t 9)), g (some 43) 40 false (.bin .neq .no (.t 41) (.t 42)), o 44 (.pick (.t 40) (.c (.bool true)) (.t 43)), o 45 (.mv (.t 44)), g (some 46) 45 false (.load true 3 (.t 4)), g (some 47) 45 false (.load true 3 (.t 8)), g (some 48) 45 false (.call (.c (.fn 9 [])) [.t 46, .t 47]), g (some 49) 45 false (.una .not (.t 48)), o 50 (.pick (.t 45) (.c (.bool true)) (.t 49)), o 51 (.mv (.t 50)), g (some 52) 51 false (.load true 3 (.t 6)), g (some 53) 51 false (.load true 3 (.t 8)), g (some 54) 51 false (.call (.c (.fn 9 [])) [.t 52, .t 53]), g (some 55) 51 false (.una .not (.t 54)), o 56 (.pick (.t 51) (.c (.bool true)) (.t 55)), o 57 (.mv (.t 56)), g (some 58) 57 false (.load true 2 (.t 3)), g (some 59) 57 false (.load true 2 (.t 1)), g (some 60) 57 false (.call (.c (.fn 10 [])) [.t 58, .t 59]), g (some 61) 57 false (.una .not (.t 60)), o 62 (.pick (.t 57) (.c (.bool true)) (.t 61))]) (
 .cond (.t 62) (.seq (.reg [o 2 (.mv (.c (.bool false)))]) (
 .ret)) (.skip))) (
 .seq (.seq (.reg [o 10 (.mv (.c (.int .i64 0)))]) (
 .block 0 (.loop (some [3, 4, 6, 8, 9, 10]) b3x0))) (
 .seq (.seq (.reg [o 11 (.mv (.c (.int .i64 0)))]) (
 .block 2 (.loop (some [3, 4, 6, 8, 9, 11]) b3x2))) (
 .seq (.reg [o 86 (.faddr 1 (.t 4)), o 87 (.load false 1 (.t 86)), o 88 (.build [.int .i64 0, .int .i64 0, .int .i64 0, .int .i64 0] [(0, 1, (.c (.int .i64 (-2))))]), o 89 (.bslice [.int .i64 0, .int .i64 0, .int .i64 0, .int .i64 0] 1 [(0, (.t 88))]), o 90 (.append 4 32 false (.t 87) (.t 89)), o 12 (.mv (.t 90))]) (
 .seq (.reg [o 91 (.faddr 2 (.t 4)), o 92 (.load false 1 (.t 91)), o 93 (.bslice [.int .i64 0] 1 [(0, (.c (.int .i64 (-2))))]), o 94 (.append 1 8 false (.t 92) (.t 93)), o 13 (.mv (.t 94))]) (
 .seq (.seq (.reg [o 14 (.mv (.c (.int .i64 0)))]) (
 .block 4 (.loop (some [3, 4, 6, 8, 9, 12, 13, 14]) b3x4))) (
 .seq (.seq (.reg [o 15 (.mv (.c (.int .i64 0)))]) (
 .block 6 (.loop (some [3, 4, 6, 8, 9, 12, 13, 15]) b3x6))) (
 .seq (.reg [o 138 (.load true 2 (.t 3)), o 139 (.call (.c (.fn 7 [])) [.t 138]), o 137 (.mv (.t 139)), o 140 (.extr (.t 137) 0), o 141 (.extr (.t 137) 1), o 16 (.alloc [.bool false, .nils, .nils]), ⟨none, none, .store 3 (.t 16) (.t 140), [.freeze 140 (some 1) 4, .freeze 140 (some 2) 1], [], 0, 0, []⟩, o 17 (.mv (.t 141))]) (
 .seq (.reg [o 142 (.mv (.t 17)), o 143 (.mv (.t 9)), o 144 (.bin .eql .no (.t 142) (.t 143)), o 145 (.mv (.t 144)), g (some 146) 145 true (.load true 3 (.t 6)), g (some 147) 145 true (.load true 3 (.t 8)), g (some 148) 145 true (.call (.c (.fn 9 [])) [.t 146, .t 147]), o 149 (.pick (.t 145) (.t 148) (.c (.bool false))), o 150 (.mv (.t 149)), g (some 151) 150 true (.load true 3 (.t 16)), g (some 152) 150 true (.load true 3 (.t 8)), g (some 153) 150 true (.call (.c (.fn 9 [])) [.t 151, .t 152]), o 154 (.pick (.t 150) (.t 153) (.c (.bool false))), o 155 (.mv (.t 154)), g (some 156) 155 true (.mv (.t 12)), g (some 157) 155 true (.faddr 1 (.t 4)), g (some 158) 155 true (.load false 1 (.t 157)), g (some 159) 155 true (.len .sl (.t 158)), g (some 160) 155 true (.iaddr 4 (.t 156) (.t 159)), g (some 161) 155 true (.faddr 0 (.t 160)), g (some 162) 155 true (.load false 1 (.t 161)), g (some 163) 155 true (.bin .eql .no (.t 162) (.c (.int .i64 (-2)))), o 164 (.pick (.t 155) (.t 163) (.c (.bool false))), o 165 (.mv (.t 164)), g (some 166) 165 true (.mv (.t 13)), g (some 167) 165 true (.faddr 2 (.t 4)), g (some 168) 165 true (.load false 1 (.t 167)), g (some 169) 165 true (.len .sl (.t 168)), g (some 170) 165 true (.iaddr 1 (.t 166) (.t 169)), g (some 171) 165 true (.load false 1 (.t 170)), g (some 172) 165 true (.bin .eql .no (.t 171) (.c (.int .i64 (-2)))), o 173 (.pick (.t 165) (.t 172) (.c (.bool false))), o 2 (.mv (.t 173))]) (
 .ret)))))))))))))))⟩
theorem q3 : table Try.prog A0 3 = some c3 := by kernel_rfl

/-! mortise/mortiselaw17.RaiseFront -/
def b4x0 : CC := .seq (.seq (.reg [o 41 (.mv (.t 7)), o 42 (.faddr 2 (.t 5)), o 43 (.load false 1 (.t 42)), o 44 (.len .sl (.t 43)), o 45 (.bin .lss .no (.t 41) (.t 44))]) (
 .cond (.t 45) (.skip) (.exit 0))) (
 .seq (.block 1 (.seq (.drw [⟨(some 48), none, .faddr 2 (.t 5), [], [], 0, 0, [5]⟩, ⟨(some 49), none, .load false 1 (.t 48), [], [], 0, 0, [48]⟩, ⟨(some 50), none, .mv (.t 7), [], [], 0, 0, [7]⟩, ⟨(some 51), none, .iaddr 1 (.t 49) (.t 50), [], [], 0, 0, [49, 50]⟩, ⟨(some 52), none, .load false 1 (.t 51), [], [], 0, 0, [51]⟩, ⟨(some 53), none, .faddr 2 (.t 5), [], [], 0, 0, [5]⟩, ⟨(some 54), none, .load false 1 (.t 53), [], [], 0, 0, [53]⟩, ⟨(some 55), none, .mv (.t 7), [], [], 0, 0, [7]⟩, ⟨(some 56), none, .bin .sub .no (.t 55) (.c (.int .i64 1)), [], [], 0, 0, [55]⟩, ⟨(some 57), none, .iaddr 1 (.t 54) (.t 56), [], [], 0, 0, [54, 56]⟩, ⟨(some 58), none, .load false 1 (.t 57), [], [], 0, 0, [57]⟩, ⟨(some 59), none, .bin .leq .no (.t 52) (.t 58), [], [], 0, 0, [52, 58]⟩, ⟨(some 60), none, .mv (.t 59), [], [], 0, 0, [59]⟩, ⟨(some 61), (some (60, false)), .faddr 1 (.t 5), [], [], 0, 0, [5]⟩, ⟨(some 62), (some (60, false)), .load false 1 (.t 61), [], [], 0, 0, [61]⟩, ⟨(some 63), (some (60, false)), .faddr 2 (.t 5), [], [], 0, 0, [5]⟩, ⟨(some 64), (some (60, false)), .load false 1 (.t 63), [], [], 0, 0, [63]⟩, ⟨(some 65), (some (60, false)), .mv (.t 7), [], [], 0, 0, [7]⟩, ⟨(some 66), (some (60, false)), .iaddr 1 (.t 64) (.t 65), [], [], 0, 0, [64, 65]⟩, ⟨(some 67), (some (60, false)), .load false 1 (.t 66), [], [], 0, 0, [66]⟩, ⟨(some 68), (some (60, false)), .bin .sub .no (.t 67) (.c (.int .i64 1)), [], [], 0, 0, [67]⟩, ⟨(some 69), (some (60, false)), .iaddr 4 (.t 62) (.t 68), [], [], 0, 0, [62, 68]⟩, ⟨(some 70), (some (60, false)), .faddr 0 (.t 69), [], [], 0, 0, [69]⟩, ⟨(some 71), (some (60, false)), .load false 1 (.t 70), [], [], 0, 0, [70]⟩, ⟨(some 72), (some (60, false)), .bin .neq .no (.t 71) (.c (.int .i64 20)), [], [], 0, 0, [71]⟩, ⟨(some 73), none, .pick (.t 60) (.c (.bool true)) (.t 72), [], [], 0, 0, [60, 72]⟩]) (
 .cond (.t 73) (.seq (.reg [o 4 (.mv (.c (.bool false)))]) (
 .ret)) (.skip)))) (
 .reg [o 46 (.mv (.t 7)), o 47 (.bin .add .no (.t 46) (.c (.int .i64 1))), o 7 (.mv (.t 47))]))
def b4x2 : CC := .seq (.seq (.reg [o 129 (.mv (.t 10)), o 130 (.mv (.t 8)), o 131 (.bin .lss .no (.t 129) (.t 130))]) (
 .cond (.t 131) (.skip) (.exit 2))) (
 .seq (.block 3 (.seq (.drw [⟨(some 134), none, .faddr 2 (.t 9), [], [], 0, 0, [9]⟩, ⟨(some 135), none, .load false 1 (.t 134), [], [], 0, 0, [134]⟩, ⟨(some 136), none, .mv (.t 10), [], [], 0, 0, [10]⟩, ⟨(some 137), none, .iaddr 1 (.t 135) (.t 136), [], [], 0, 0, [135, 136]⟩, ⟨(some 138), none, .load false 1 (.t 137), [], [], 0, 0, [137]⟩, ⟨(some 139), none, .faddr 2 (.t 5), [], [], 0, 0, [5]⟩, ⟨(some 140), none, .load false 1 (.t 139), [], [], 0, 0, [139]⟩, ⟨(some 141), none, .mv (.t 10), [], [], 0, 0, [10]⟩, ⟨(some 142), none, .iaddr 1 (.t 140) (.t 141), [], [], 0, 0, [140, 141]⟩, ⟨(some 143), none, .load false 1 (.t 142), [], [], 0, 0, [142]⟩, ⟨(some 144), none, .bin .neq .no (.t 138) (.t 143), [], [], 0, 0, [138, 143]⟩]) (
 .cond (.t 144) (.seq (.reg [o 4 (.mv (.c (.bool false)))]) (
 .ret)) (.skip)))) (
 .reg [o 132 (.mv (.t 10)), o 133 (.bin .add .no (.t 132) (.c (.int .i64 1))), o 10 (.mv (.t 133))]))
def b4x4 : CC := .seq (.seq (.reg [o 145 (.mv (.t 11)), o 146 (.faddr 1 (.t 9)), o 147 (.load false 1 (.t 146)), o 148 (.len .sl (.t 147)), o 149 (.bin .lss .no (.t 145) (.t 148))]) (
 .cond (.t 149) (.skip) (.exit 4))) (
 .seq (.block 5 (.seq (.drw [⟨(some 152), none, .faddr 1 (.t 9), [], [], 0, 0, [9]⟩, ⟨(some 153), none, .load false 1 (.t 152), [], [], 0, 0, [152]⟩, ⟨(some 154), none, .mv (.t 11), [], [], 0, 0, [11]⟩, ⟨(some 155), none, .iaddr 4 (.t 153) (.t 154), [], [], 0, 0, [153, 154]⟩, ⟨(some 156), none, .load true 4 (.t 155), [], [], 0, 0, [155]⟩, ⟨(some 157), none, .faddr 1 (.t 5), [], [], 0, 0, [5]⟩, ⟨(some 158), none, .load false 1 (.t 157), [], [], 0, 0, [157]⟩, ⟨(some 159), none, .mv (.t 11), [], [], 0, 0, [11]⟩, ⟨(some 160), none, .iaddr 4 (.t 158) (.t 159), [], [], 0, 0, [158, 159]⟩, ⟨(some 161), none, .load true 4 (.t 160), [], [], 0, 0, [160]⟩, ⟨(some 162), none, .bin .neq (.flat [.int, .int, .int, .int]) (.t 156) (.t 161), [], [], 0, 0, [156, 161]⟩]) (
 .cond (.t 162) (.seq (.reg [o 4 (.mv (.c (.bool false)))]) (
 .ret)) (.skip)))) (
 .reg [o 150 (.mv (.t 11)), o 151 (.bin .add .no (.t 150) (.c (.int .i64 1))), o 11 (.mv (.t 151))]))
def c4 : CFn := ⟨163, [.t 4], .seq (.reg [o 2 (.box 2 (.t 0)), o 4 (.mv (.c (.bool false)))]) (
 .seq (.seq (.reg [o 12 (.call (.c (.fn 5 [])) []), o 13 (.una .not (.t 12))]) (
 .cond (.t 13) (.seq (.reg [o 4 (.mv (.c (.bool false)))]) (
 .ret)) (.skip))) (
 .seq (.reg [o 15 (.load true 2 (.t 2)), o 16 (.call (.c (.fn 7 [])) [.t 15]), o 14 (.mv (.t 16)), o 17 (.extr (.t 14) 0), o 18 (.extr (.t 14) 1), o 5 (.alloc [.bool false, .nils, .nils]), ⟨none, none, .store 3 (.t 5) (.t 17), [.freeze 17 (some 1) 4, .freeze 17 (some 2) 1], [], 0, 0, []⟩, o 6 (.mv (.t 18))]) (
 .seq (.seq (.reg [o 19 (.mv (.t 6)), o 20 (.bin .neq .no (.t 19) (.c (.int .i64 0)))]) (
 .cond (.t 20) (.seq (.reg [o 4 (.mv (.c (.bool true)))]) (
 .ret)) (.skip))) (
 .seq (.seq (.reg [o 21 (.faddr 2 (.t 5)), o 22 (.load false 1 (.t 21)), o 23 (.len .sl (.t 22)), o 24 (.faddr 0 (.t 2)), o 25 (.load false 1 (.t 24)), o 26 (.len .sl (.t 25)), o 27 (.bin .neq .no (.t 23) (.t 26)), o 28 (.mv (.t 27)), g (some 29) 28 false (.faddr 2 (.t 5)), g (some 30) 28 false (.load false 1 (.t 29)), g (some 31) 28 false (.len .sl (.t 30)), g (some 32) 28 false (.bin .gtr .no (.t 31) (.c (.int .i64 0))), g (some 33) 28 false (.mv (.t 32)), g (some 34) 33 true (.faddr 2 (.t 5)), g (some 35) 33 true (.load false 1 (.t 34)), g (some 36) 33 true (.iaddr 1 (.t 35) (.c (.int .i64 0))), g (some 37) 33 true (.load false 1 (.t 36)), g (some 38) 33 true (.bin .neq .no (.t 37) (.c (.int .i64 0))), g (some 39) 28 false (.pick (.t 33) (.t 38) (.c (.bool false))), o 40 (.pick (.t 28) (.c (.bool true)) (.t 39))]) (
 .cond (.t 40) (.seq (.reg [o 4 (.mv (.c (.bool false)))]) (
 .ret)) (.skip))) (
 .seq (.seq (.reg [o 7 (.mv (.c (.int .i64 1)))]) (
 .block 0 (.loop (some [1, 2, 5, 7]) b4x0))) (
 .seq (.reg [o 74 (.mv (.t 1)), o 75 (.mv (.t 1)), o 76 (.bin .add .no (.t 75) (.c (.int .i64 1))), o 77 (.una .neg (.t 76)), o 78 (.max [.t 74, .t 77]), o 79 (.faddr 0 (.t 2)), o 80 (.load false 1 (.t 79)), o 81 (.len .sl (.t 80)), o 82 (.bin .add .no (.t 81) (.c (.int .i64 1))), o 83 (.bin .rem .no (.t 78) (.t 82)), o 8 (.mv (.t 83))]) (
 .seq (.reg [o 85 (.faddr 0 (.t 2)), o 86 (.load false 1 (.t 85)), o 87 (.mv (.t 8)), o 88 (.slice (some 4) (.t 86) none (some (.t 87))), o 89 (.build [.nils, .nils] [(0, 1, (.t 88))]), o 90 (.call (.c (.fn 7 [])) [.t 89]), o 84 (.mv (.t 90)), o 91 (.extr (.t 84) 0), o 92 (.extr (.t 84) 1), o 9 (.alloc [.bool false, .nils, .nils]), ⟨none, none, .store 3 (.t 9) (.t 91), [.freeze 91 (some 1) 4, .freeze 91 (some 2) 1], [], 0, 0, []⟩, o 6 (.mv (.t 92))]) (
 .seq (.seq (.drw [⟨(some 93), none, .mv (.t 6), [], [], 0, 0, [6]⟩, ⟨(some 94), none, .bin .neq .no (.t 93) (.c (.int .i64 0)), [], [], 0, 0, [93]⟩, ⟨(some 95), none, .mv (.t 94), [], [], 0, 0, [94]⟩, ⟨(some 96), (some (95, false)), .faddr 2 (.t 9), [], [], 0, 0, [9]⟩, ⟨(some 97), (some (95, false)), .load false 1 (.t 96), [], [], 0, 0, [96]⟩, ⟨(some 98), (some (95, false)), .len .sl (.t 97), [], [], 0, 0, [97]⟩, ⟨(some 99), (some (95, false)), .mv (.t 8), [], [], 0, 0, [8]⟩, ⟨(some 100), (some (95, false)), .bin .neq .no (.t 98) (.t 99), [], [], 0, 0, [98, 99]⟩, ⟨(some 101), none, .pick (.t 95) (.c (.bool true)) (.t 100), [], [], 0, 0, [95, 100]⟩, ⟨(some 102), none, .mv (.t 101), [], [], 0, 0, [101]⟩, ⟨(some 103), (some (102, false)), .faddr 1 (.t 9), [], [], 0, 0, [9]⟩, ⟨(some 104), (some (102, false)), .load false 1 (.t 103), [], [], 0, 0, [103]⟩, ⟨(some 105), (some (102, false)), .len .sl (.t 104), [], [], 0, 0, [104]⟩, ⟨(some 106), (some (102, false)), .faddr 1 (.t 5), [], [], 0, 0, [5]⟩, ⟨(some 107), (some (102, false)), .load false 1 (.t 106), [], [], 0, 0, [106]⟩, ⟨(some 108), (some (102, false)), .len .sl (.t 107), [], [], 0, 0, [107]⟩, ⟨(some 109), (some (102, false)), .bin .gtr .no (.t 105) (.t 108), [], [], 0, 0, [105, 108]⟩, ⟨(some 110), none, .pick (.t 102) (.c (.bool true)) (.t 109), [], [], 0, 0, [102, 109]⟩, ⟨(some 111), none, .mv (.t 110), [], [], 0, 0, [110]⟩, ⟨(some 112), (some (111, false)), .mv (.t 8), [], [], 0, 0, [8]⟩, ⟨(some 113), (some (111, false)), .faddr 2 (.t 5), [], [], 0, 0, [5]⟩, ⟨(some 114), (some (111, false)), .load false 1 (.t 113), [], [], 0, 0, [113]⟩, ⟨(some 115), (some (111, false)), .len .sl (.t 114), [], [], 0, 0, [114]⟩, ⟨(some 116), (some (111, false)), .bin .lss .no (.t 112) (.t 115), [], [], 0, 0, [112, 115]⟩, ⟨(some 117), (some (111, false)), .mv (.t 116), [], [], 0, 0, [116]⟩, ⟨(some 118), (some (117, true)), .faddr 2 (.t 5), [], [], 0, 0, [5]⟩, ⟨(some 119), (some (117, true)), .load false 1 (.t 118), [], [], 0, 0, [118]⟩, ⟨(some 120), (some (117, true)), .mv (.t 8), [], [], 0, 0, [8]⟩, ⟨(some 121), (some (117, true)), .iaddr 1 (.t 119) (.t 120), [], [], 0, 0, [119, 120]⟩, ⟨(some 122), (some (117, true)), .load false 1 (.t 121), [], [], 0, 0, [121]⟩, ⟨(some 123), (some (117, true)), .faddr 1 (.t 9), [], [], 0, 0, [9]⟩, ⟨(some 124), (some (117, true)), .load false 1 (.t 123), [], [], 0, 0, [123]⟩, ⟨(some 125), (some (117, true)), .len .sl (.t 124), [], [], 0, 0, [124]⟩, ⟨(some 126), (some (117, true)), .bin .neq .no (.t 122) (.t 125), [], [], 0, 0, [122, 125]⟩, ⟨(some 127), (some (111, false)), .pick (.t 117) (.t 126) (.c (.bool false)), [], [], 0, 0, [117, 126]⟩, ⟨(some 128), none, .pick (.t 111) (.c (.bool true)) (.t 127), [], [], 0, 0, [111, 127]⟩]) (
 .cond (.t 128) (.seq (.reg [o 4 (.mv (.c (.bool false)))]) (
 .ret)) (.skip))) (
 .seq (.seq (.reg [o 10 (.mv (.c (.int .i64 0)))]) (
 .block 2 (.loop (some [5, 8, 9, 10]) b4x2))) (
 .seq (.seq (.reg [o 11 (.mv (.c (.int .i64 0)))]) (
 .block 4 (.loop (some [5, 9, 11]) b4x4))) (
 .seq (.reg [o 4 (.mv (.c (.bool true)))]) (
 .ret))))))))))))⟩
theorem q4 : table Try.prog A0 4 = some c4 := by kernel_rfl

/-! mortise/mortiselaw17.awake -/
def c5 : CFn := ⟨64, [.t 0], .seq (.reg [o 0 (.mv (.c (.bool false)))]) (
 .seq (.reg [o 6 (.build [.int .i64 0, .int .i64 0, .int .i64 0, .nils] [(0, 1, (.c (.int .i64 1))), (1, 1, (.c (.int .i64 2)))]), ⟨(some 7), none, .bslice [.int .i64 0, .int .i64 0, .int .i64 0, .nils] 1 [(0, (.t 6))], [.freeze 6 (some 3) 3], [], 0, 0, []⟩, ⟨(some 8), none, .build [.nils, .nils] [(0, 1, (.t 7))], [.freeze 7 none 4], [], 0, 0, []⟩, o 9 (.call (.c (.fn 7 [])) [.t 8]), o 5 (.mv (.t 9)), o 10 (.extr (.t 5) 0), o 11 (.extr (.t 5) 1), o 1 (.alloc [.bool false, .nils, .nils]), ⟨none, none, .store 3 (.t 1) (.t 10), [.freeze 10 (some 1) 4, .freeze 10 (some 2) 1], [], 0, 0, []⟩, o 2 (.mv (.t 11))]) (
 .seq (.reg [o 13 (.build [.int .i64 0, .int .i64 0, .int .i64 0, .nils] []), ⟨(some 14), none, .bslice [.int .i64 0, .int .i64 0, .int .i64 0, .nils] 1 [(0, (.t 13))], [.freeze 13 (some 3) 3], [], 0, 0, []⟩, ⟨(some 15), none, .build [.nils, .nils] [(0, 1, (.t 14))], [.freeze 14 none 4], [], 0, 0, []⟩, o 16 (.call (.c (.fn 7 [])) [.t 15]), o 12 (.mv (.t 16)), o 17 (.extr (.t 12) 0), o 18 (.extr (.t 12) 1), o 3 (.alloc [.bool false, .nils, .nils]), ⟨none, none, .store 3 (.t 3) (.t 17), [.freeze 17 (some 1) 4, .freeze 17 (some 2) 1], [], 0, 0, []⟩, o 4 (.mv (.t 18))]) (
 .seq (.reg [o 19 (.mv (.t 2)), o 20 (.bin .eql .no (.t 19) (.c (.int .i64 0))), o 21 (.mv (.t 20)), g (some 22) 21 true (.mv (.t 4)), g (some 23) 21 true (.bin .eql .no (.t 22) (.c (.int .i64 92))), o 24 (.pick (.t 21) (.t 23) (.c (.bool false))), o 25 (.mv (.t 24)), g (some 26) 25 true (.faddr 0 (.t 1)), g (some 27) 25 true (.load false 1 (.t 26)), o 28 (.pick (.t 25) (.t 27) (.c (.bool false))), o 29 (.mv (.t 28)), g (some 30) 29 true (.faddr 2 (.t 1)), g (some 31) 29 true (.load false 1 (.t 30)), g (some 32) 29 true (.len .sl (.t 31)), g (some 33) 29 true (.bin .eql .no (.t 32) (.c (.int .i64 1))), o 34 (.pick (.t 29) (.t 33) (.c (.bool false))), o 35 (.mv (.t 34)), g (some 36) 35 true (.faddr 2 (.t 1)), g (some 37) 35 true (.load false 1 (.t 36)), g (some 38) 35 true (.iaddr 1 (.t 37) (.c (.int .i64 0))), g (some 39) 35 true (.load false 1 (.t 38)), g (some 40) 35 true (.bin .eql .no (.t 39) (.c (.int .i64 0))), o 41 (.pick (.t 35) (.t 40) (.c (.bool false))), o 42 (.mv (.t 41)), g (some 43) 42 true (.faddr 1 (.t 1)), g (some 44) 42 true (.load false 1 (.t 43)), g (some 45) 42 true (.len .sl (.t 44)), g (some 46) 42 true (.bin .eql .no (.t 45) (.c (.int .i64 2))), o 47 (.pick (.t 42) (.t 46) (.c (.bool false))), o 48 (.mv (.t 47)), g (some 49) 48 true (.faddr 1 (.t 1)), g (some 50) 48 true (.load false 1 (.t 49)), g (some 51) 48 true (.iaddr 4 (.t 50) (.c (.int .i64 0))), g (some 52) 48 true (.load true 4 (.t 51)), g (some 53) 48 true (.build [.int .i64 0, .int .i64 0, .int .i64 0, .int .i64 0] [(0, 1, (.c (.int .i64 33))), (2, 1, (.c (.int .i64 2)))]), g (some 54) 48 true (.bin .eql (.flat [.int, .int, .int, .int]) (.t 52) (.t 53)), o 55 (.pick (.t 48) (.t 54) (.c (.bool false))), o 56 (.mv (.t 55)), g (some 57) 56 true (.faddr 1 (.t 1)), g (some 58) 56 true (.load false 1 (.t 57)), g (some 59) 56 true (.iaddr 4 (.t 58) (.c (.int .i64 1))), g (some 60) 56 true (.load true 4 (.t 59)), g (some 61) 56 true (.build [.int .i64 0, .int .i64 0, .int .i64 0, .int .i64 0] [(0, 1, (.c (.int .i64 20)))]), g (some 62) 56 true (.bin .eql (.flat [.int, .int, .int, .int]) (.t 60) (.t 61)), o 63 (.pick (.t 56) (.t 62) (.c (.bool false))), o 0 (.mv (.t 63))]) (
 .ret))))⟩
theorem q5 : table Try.prog A0 5 = some c5 := by kernel_rfl

/-! mortise/mortiselaw17.own -/
def b6x0 : CC := .seq (.seq (.reg [o 10 (.mv (.t 4)), o 11 (.mv (.t 3)), o 12 (.len .sl (.t 11)), o 13 (.bin .lss .no (.t 10) (.t 12))]) (
 .cond (.t 13) (.skip) (.exit 0))) (
 .seq (.block 1 (.seq (.reg [o 16 (.bslice [.str [], .int .i64 0, .int .i64 0] 0 []), o 17 (.mv (.t 3)), o 18 (.mv (.t 4)), o 19 (.iaddr 4 (.t 17) (.t 18)), o 20 (.faddr 3 (.t 19)), o 21 (.load false 1 (.t 20)), o 22 (.append 3 32 false (.t 16) (.t 21)), o 23 (.build [.str [], .int .i64 0, .int .i64 0] [(0, 1, (.c (.str [109, 97, 114, 107]))), (1, 1, (.c (.int .i64 7)))]), o 24 (.bslice [.str [], .int .i64 0, .int .i64 0] 1 [(0, (.t 23))]), o 25 (.append 3 32 false (.t 22) (.t 24)), ⟨(some 5), none, .mv (.t 25), [.freeze 25 none 3], [], 0, 0, []⟩]) (
 .reg [o 26 (.mv (.t 3)), o 27 (.mv (.t 4)), o 28 (.mv (.t 5)), o 29 (.mv (.t 3)), o 30 (.mv (.t 4)), o 31 (.iaddr 4 (.t 29) (.t 30)), o 32 (.faddr 3 (.t 31)), o 33 (.load false 1 (.t 32)), o 34 (.len .sl (.t 33)), o 35 (.slice (some 3) (.t 28) none (some (.t 34))), o 36 (.iaddr 4 (.t 26) (.t 27)), o 37 (.faddr 3 (.t 36)), x (.store 1 (.t 37) (.t 35))]))) (
 .reg [o 14 (.mv (.t 4)), o 15 (.bin .add .no (.t 14) (.c (.int .i64 1))), o 4 (.mv (.t 15))]))
def c6 : CFn := ⟨52, [.cell 2 true 2], .seq (.reg [o 1 (.box 2 (.t 0)), o 2 (.alloc [.nils, .nils])]) (
 .seq (.reg [o 6 (.bslice [.int .i64 0, .int .i64 0, .int .i64 0, .nils] 0 []), o 7 (.faddr 0 (.t 1)), o 8 (.load false 1 (.t 7)), o 9 (.append 4 48 false (.t 6) (.t 8)), o 3 (.mv (.t 9))]) (
 .seq (.seq (.reg [o 4 (.mv (.c (.int .i64 0)))]) (
 .block 0 (.loop (some [1, 2, 3, 4]) b6x0))) (
 .seq (.reg [o 38 (.mv (.t 3)), o 39 (.build [.int .i64 0, .int .i64 0, .int .i64 0, .nils] [(0, 1, (.c (.int .i64 77)))]), o 40 (.bslice [.int .i64 0, .int .i64 0, .int .i64 0, .nils] 1 [(0, (.t 39))]), o 41 (.append 4 48 false (.t 38) (.t 40)), o 3 (.mv (.t 41))]) (
 .seq (.drw [⟨(some 42), none, .mv (.t 3), [], [], 0, 1, [3]⟩, ⟨(some 43), none, .faddr 0 (.t 1), [], [], 0, 1, [1]⟩, ⟨(some 44), none, .load false 1 (.t 43), [], [], 0, 1, [43]⟩, ⟨(some 45), none, .len .sl (.t 44), [], [], 0, 1, [44]⟩, ⟨(some 46), none, .slice (some 4) (.t 42) none (some (.t 45)), [], [], 0, 1, [42, 45]⟩, ⟨(some 47), none, .bslice [.str [], .int .i64 0] 0 [], [], [], 0, 0, []⟩, ⟨(some 48), none, .faddr 1 (.t 1), [], [], 0, 0, [1]⟩, ⟨(some 49), none, .load false 1 (.t 48), [], [], 0, 0, [48]⟩, ⟨(some 50), none, .append 2 24 false (.t 47) (.t 49), [], [], 0, 1, [47, 49]⟩, ⟨(some 51), none, .build [.nils, .nils] [(0, 1, (.t 46)), (1, 1, (.t 50))], [], [], 1, 1, [46, 50]⟩, ⟨none, none, .store 2 (.t 2) (.t 51), [], [], 1, 2, [2, 51]⟩]) (
 .ret)))))⟩
theorem q6 : table Try.prog A0 6 = some c6 := by kernel_rfl

/-! mortise/raise.Encoder -/
def b7x0 : CC := .seq (.reg [o 29 (.bin .lss .no (.t 28) (.t 27))]) (
 .seq (.cond (.t 29) (.skip) (.exit 0)) (
 .seq (.block 1 (.seq (.reg [o 30 (.iaddr 4 (.t 26) (.t 28)), o 31 (.load true 4 (.t 30)), o 7 (.alloc [.bool false, .int .i64 0, .int .i64 0, .int .i64 0]), x (.store 4 (.t 7) (.t 31))]) (
 .seq (.reg [o 32 (.faddr 2 (.t 7)), o 33 (.load false 1 (.t 32)), o 34 (.bin .gtr .no (.t 33) (.c (.int .i64 16777216)))]) (
 .cond (.t 34) (.seq (.reg [o 35 (.build [.bool false, .nils, .nils] []), x (.store 3 (.t 2) (.t 35)), o 3 (.mv (.c (.int .i64 91)))]) (
 .ret)) (.skip))))) (
 .reg [o 36 (.bin .add .no (.t 28) (.c (.int .i64 1))), o 28 (.mv (.t 36))])))
def b7x2 : CC := .seq (.reg [o 62 (.bin .lss .no (.t 61) (.t 60))]) (
 .seq (.cond (.t 62) (.skip) (.exit 2)) (
 .seq (.block 3 (.seq (.reg [o 63 (.mv (.t 61)), o 12 (.mv (.t 63))]) (
 .seq (.reg [o 64 (.mv (.t 11)), o 65 (.mv (.t 12)), o 66 (.call (.t 64) [.t 65])]) (
 .seq (.reg [o 67 (.load false 1 (.t 9)), o 68 (.nilchk (.t 67)), o 69 (.faddr 4 (.t 68)), o 70 (.load false 1 (.t 69)), o 71 (.len .sl (.t 70)), o 72 (.bin .gtr .no (.t 71) (.c (.int .i64 1048576)))]) (
 .cond (.t 72) (.seq (.reg [o 73 (.build [.bool false, .nils, .nils] []), x (.store 3 (.t 2) (.t 73)), o 3 (.mv (.c (.int .i64 4)))]) (
 .ret)) (.skip)))))) (
 .reg [o 74 (.bin .add .no (.t 61) (.c (.int .i64 1))), o 61 (.mv (.t 74))])))
def c7 : CFn := ⟨81, [.cell 2 true 3, .t 3], .seq (.reg [o 1 (.box 2 (.t 0)), o 2 (.alloc [.bool false, .nils, .nils]), o 3 (.mv (.c (.int .i64 0)))]) (
 .seq (.seq (.reg [o 13 (.load true 2 (.t 1)), o 14 (.call (.c (.fn 11 [])) [.t 13]), o 15 (.field false 0 1 (.t 14)), o 16 (.bin .neq .no (.t 15) (.c (.int .i64 0)))]) (
 .cond (.t 16) (.seq (.reg [o 17 (.build [.bool false, .nils, .nils] []), x (.store 3 (.t 2) (.t 17)), o 3 (.mv (.c (.int .i64 92)))]) (
 .ret)) (.skip))) (
 .seq (.reg [o 19 (.load true 2 (.t 1)), o 20 (.call (.c (.fn 12 [])) [.t 19]), o 18 (.mv (.t 20)), o 21 (.extr (.t 18) 0), o 22 (.extr (.t 18) 1), o 4 (.mv (.t 21)), o 5 (.mv (.t 22))]) (
 .seq (.seq (.reg [o 23 (.mv (.t 5)), o 24 (.bin .neq .no (.t 23) (.c (.int .i64 0)))]) (
 .cond (.t 24) (.seq (.reg [o 25 (.build [.bool false, .nils, .nils] []), x (.store 3 (.t 2) (.t 25)), o 3 (.mv (.c (.int .i64 92)))]) (
 .ret)) (.skip))) (
 .seq (.seq (.reg [o 26 (.mv (.t 4)), o 27 (.len .sl (.t 26)), o 28 (.mv (.c (.int .i64 0)))]) (
 .block 0 (.loop (some [1, 2, 4, 26, 27, 28]) b7x0))) (
 .seq (.reg [o 38 (.load true 2 (.t 1)), o 39 (.call (.c (.fn 13 [])) [.t 38]), o 37 (.mv (.t 39)), o 40 (.extr (.t 37) 0), o 41 (.extr (.t 37) 1), o 8 (.mv (.t 40)), o 5 (.mv (.t 41))]) (
 .seq (.seq (.reg [o 42 (.mv (.t 5)), o 43 (.bin .neq .no (.t 42) (.c (.int .i64 0)))]) (
 .cond (.t 43) (.seq (.reg [o 44 (.build [.bool false, .nils, .nils] []), o 45 (.mv (.t 5)), x (.store 3 (.t 2) (.t 44)), o 3 (.mv (.t 45))]) (
 .ret)) (.skip))) (
 .seq (.seq (.reg [o 46 (.faddr 0 (.t 1)), o 47 (.load false 1 (.t 46)), o 48 (.len .sl (.t 47)), o 49 (.bin .gtr .no (.t 48) (.c (.int .i64 1048576)))]) (
 .cond (.t 49) (.seq (.reg [o 50 (.build [.bool false, .nils, .nils] []), x (.store 3 (.t 2) (.t 50)), o 3 (.mv (.c (.int .i64 4)))]) (
 .ret)) (.skip))) (
 .seq (.reg [o 51 (.load true 2 (.t 1)), o 52 (.mv (.t 4)), o 53 (.mv (.t 8)), ⟨(some 54), none, .build [.nils, .nils, .nils, .nils, .nils] [(0, 2, (.t 51)), (2, 1, (.t 52)), (3, 1, (.t 53))], [], [(4, 4)], 0, 0, []⟩, o 55 (.box 5 (.t 54)), o 9 (.alloc [.nilp]), x (.store 1 (.t 9) (.t 55))]) (
 .seq (.reg [⟨(some 56), none, .build [.bool false, .nils, .nils] [(0, 1, (.c (.bool true)))], [], [(2, 1)], 0, 0, []⟩, o 10 (.alloc [.bool false, .nils, .nils]), x (.store 3 (.t 10) (.t 56))]) (
 .seq (.reg [o 57 (.mkfn 14 [.t 10, .t 9]), o 11 (.mv (.t 57))]) (
 .seq (.seq (.reg [o 58 (.faddr 0 (.t 1)), o 59 (.load false 1 (.t 58)), o 60 (.len .sl (.t 59)), o 61 (.mv (.c (.int .i64 0)))]) (
 .block 2 (.loop (some [2, 9, 10, 11, 60, 61]) b7x2))) (
 .seq (.reg [o 75 (.load false 1 (.t 9)), o 76 (.nilchk (.t 75)), o 77 (.faddr 4 (.t 76)), o 78 (.load false 1 (.t 77)), o 79 (.faddr 1 (.t 10)), x (.store 1 (.t 79) (.t 78))]) (
 .seq (.reg [o 80 (.load true 3 (.t 10)), x (.store 3 (.t 2) (.t 80)), o 3 (.mv (.c (.int .i64 0)))]) (
 .ret))))))))))))))⟩
theorem q7 : table Try.prog A0 7 = some c7 := by kernel_rfl

/-! mortise/mortiseref17.Encoder -/
def b8x0 : CC := .seq (.seq (.reg [o 23 (.mv (.t 7)), o 24 (.mv (.t 5)), o 25 (.len .sl (.t 24)), o 26 (.bin .lss .no (.t 23) (.t 25))]) (
 .cond (.t 26) (.skip) (.exit 0))) (
 .seq (.block 1 (.seq (.reg [o 29 (.mv (.t 5)), o 30 (.mv (.t 7)), o 31 (.iaddr 4 (.t 29) (.t 30)), o 32 (.faddr 2 (.t 31)), o 33 (.load false 1 (.t 32)), o 34 (.bin .gtr .no (.t 33) (.c (.int .i64 16777216)))]) (
 .cond (.t 34) (.seq (.reg [o 35 (.build [.bool false, .nils, .nils] []), x (.store 3 (.t 2) (.t 35)), o 3 (.mv (.c (.int .i64 91)))]) (
 .ret)) (.skip)))) (
 .reg [o 27 (.mv (.t 7)), o 28 (.bin .add .no (.t 27) (.c (.int .i64 1))), o 7 (.mv (.t 28))]))
def b8x2 : CC := .seq (.seq (.reg [o 47 (.mv (.t 11)), o 48 (.faddr 0 (.t 1)), o 49 (.load false 1 (.t 48)), o 50 (.len .sl (.t 49)), o 51 (.bin .lss .no (.t 47) (.t 50))]) (
 .cond (.t 51) (.skip) (.exit 2))) (
 .seq (.block 3 (.seq (.drw [⟨(some 54), none, .mv (.t 10), [], [], 0, 1, [10]⟩, ⟨(some 55), none, .mv (.t 10), [], [], 0, 0, [10]⟩, ⟨(some 56), none, .nilchk (.t 55), [], [], 0, 0, [55]⟩, ⟨(some 57), none, .faddr 4 (.t 56), [], [], 0, 0, [56]⟩, ⟨(some 58), none, .faddr 2 (.t 57), [], [], 0, 0, [57]⟩, ⟨(some 59), none, .load false 1 (.t 58), [], [], 0, 0, [58]⟩, ⟨(some 60), none, .mv (.t 10), [], [], 0, 0, [10]⟩, ⟨(some 61), none, .nilchk (.t 60), [], [], 0, 0, [60]⟩, ⟨(some 62), none, .faddr 4 (.t 61), [], [], 0, 0, [61]⟩, ⟨(some 63), none, .faddr 1 (.t 62), [], [], 0, 0, [62]⟩, ⟨(some 64), none, .load false 1 (.t 63), [], [], 0, 0, [63]⟩, ⟨(some 65), none, .len .sl (.t 64), [], [], 0, 0, [64]⟩, ⟨(some 66), none, .bslice [.int .i64 0] 1 [(0, (.t 65))], [], [], 0, 0, [65]⟩, ⟨(some 67), none, .append 1 8 false (.t 59) (.t 66), [], [], 0, 1, [59, 66]⟩, ⟨(some 68), none, .nilchk (.t 54), [], [], 1, 1, [54]⟩, ⟨(some 69), none, .faddr 4 (.t 68), [], [], 1, 1, [68]⟩, ⟨(some 70), none, .faddr 2 (.t 69), [], [], 1, 1, [69]⟩, ⟨none, none, .store 1 (.t 70) (.t 67), [], [], 1, 2, [70, 67]⟩]) (
 .reg [o 71 (.mv (.t 10)), o 72 (.mv (.t 11)), o 73 (.call (.c (.fn 19 [])) [.t 71, .t 72])]))) (
 .reg [o 52 (.mv (.t 11)), o 53 (.bin .add .no (.t 52) (.c (.int .i64 1))), o 11 (.mv (.t 53))]))
def c8 : CFn := ⟨95, [.cell 2 true 3, .t 3], .seq (.reg [o 1 (.box 2 (.t 0)), o 2 (.alloc [.bool false, .nils, .nils]), o 3 (.mv (.c (.int .i64 0)))]) (
 .seq (.reg [o 12 (.load true 2 (.t 1)), o 13 (.call (.c (.fn 16 [])) [.t 12]), o 4 (.alloc [.int .i64 0, .int .i64 0]), x (.store 2 (.t 4) (.t 13))]) (
 .seq (.seq (.reg [o 14 (.faddr 0 (.t 4)), o 15 (.load false 1 (.t 14)), o 16 (.bin .neq .no (.t 15) (.c (.int .i64 0)))]) (
 .cond (.t 16) (.seq (.reg [o 17 (.build [.bool false, .nils, .nils] []), x (.store 3 (.t 2) (.t 17)), o 3 (.mv (.c (.int .i64 92)))]) (
 .ret)) (.skip))) (
 .seq (.reg [o 19 (.load true 2 (.t 1)), o 20 (.call (.c (.fn 17 [])) [.t 19]), o 18 (.mv (.t 20)), o 21 (.extr (.t 18) 0), o 22 (.extr (.t 18) 1), o 5 (.mv (.t 21)), o 6 (.mv (.t 22))]) (
 .seq (.seq (.reg [o 7 (.mv (.c (.int .i64 0)))]) (
 .block 0 (.loop (some [1, 2, 5, 7]) b8x0))) (
 .seq (.reg [o 37 (.load true 2 (.t 1)), o 38 (.call (.c (.fn 18 [])) [.t 37]), o 36 (.mv (.t 38)), o 39 (.extr (.t 36) 0), o 40 (.extr (.t 36) 1), o 8 (.mv (.t 39)), o 9 (.mv (.t 40))]) (
 .seq (.reg [o 41 (.load true 2 (.t 1)), o 42 (.mv (.t 5)), o 43 (.mv (.t 8)), ⟨(some 44), none, .build [.bool false, .nils, .nils] [(0, 1, (.c (.bool true)))], [], [(1, 4), (2, 1)], 0, 0, []⟩, o 45 (.build [.nils, .nils, .nils, .nils, .bool false, .nils, .nils] [(0, 2, (.t 41)), (2, 1, (.t 42)), (3, 1, (.t 43)), (4, 3, (.t 44))]), o 46 (.box 7 (.t 45)), o 10 (.mv (.t 46))]) (
 .seq (.seq (.reg [o 11 (.mv (.c (.int .i64 0)))]) (
 .block 2 (.loop (some [1, 2, 10, 11]) b8x2))) (
 .seq (.seq (.reg [o 74 (.mv (.t 10)), o 75 (.nilchk (.t 74)), o 76 (.faddr 4 (.t 75)), o 77 (.faddr 1 (.t 76)), o 78 (.load false 1 (.t 77)), o 79 (.len .sl (.t 78)), o 80 (.bin .gtr .no (.t 79) (.c (.int .i64 1048576))), o 81 (.mv (.t 80)), g (some 82) 81 false (.mv (.t 10)), g (some 83) 81 false (.nilchk (.t 82)), g (some 84) 81 false (.faddr 4 (.t 83)), g (some 85) 81 false (.faddr 2 (.t 84)), g (some 86) 81 false (.load false 1 (.t 85)), g (some 87) 81 false (.len .sl (.t 86)), g (some 88) 81 false (.bin .gtr .no (.t 87) (.c (.int .i64 1048576))), o 89 (.pick (.t 81) (.c (.bool true)) (.t 88))]) (
 .cond (.t 89) (.seq (.reg [o 90 (.build [.bool false, .nils, .nils] []), x (.store 3 (.t 2) (.t 90)), o 3 (.mv (.c (.int .i64 4)))]) (
 .ret)) (.skip))) (
 .seq (.reg [o 91 (.mv (.t 10)), o 92 (.nilchk (.t 91)), o 93 (.faddr 4 (.t 92)), o 94 (.load true 3 (.t 93)), ⟨none, none, .store 3 (.t 2) (.t 94), [.freeze 94 (some 1) 4, .freeze 94 (some 2) 1], [], 0, 0, []⟩, o 3 (.mv (.c (.int .i64 0)))]) (
 .ret))))))))))⟩
theorem q8 : table Try.prog A0 8 = some c8 := by kernel_rfl

/-! mortise/mortiseref17.Same -/
def b9x0 : CC := .seq (.seq (.reg [o 30 (.mv (.t 5)), o 31 (.faddr 1 (.t 2)), o 32 (.load false 1 (.t 31)), o 33 (.len .sl (.t 32)), o 34 (.bin .lss .no (.t 30) (.t 33))]) (
 .cond (.t 34) (.skip) (.exit 0))) (
 .seq (.block 1 (.seq (.drw [⟨(some 37), none, .faddr 1 (.t 2), [], [], 0, 0, [2]⟩, ⟨(some 38), none, .load false 1 (.t 37), [], [], 0, 0, [37]⟩, ⟨(some 39), none, .mv (.t 5), [], [], 0, 0, [5]⟩, ⟨(some 40), none, .iaddr 4 (.t 38) (.t 39), [], [], 0, 0, [38, 39]⟩, ⟨(some 41), none, .load true 4 (.t 40), [], [], 0, 0, [40]⟩, ⟨(some 42), none, .faddr 1 (.t 3), [], [], 0, 0, [3]⟩, ⟨(some 43), none, .load false 1 (.t 42), [], [], 0, 0, [42]⟩, ⟨(some 44), none, .mv (.t 5), [], [], 0, 0, [5]⟩, ⟨(some 45), none, .iaddr 4 (.t 43) (.t 44), [], [], 0, 0, [43, 44]⟩, ⟨(some 46), none, .load true 4 (.t 45), [], [], 0, 0, [45]⟩, ⟨(some 47), none, .bin .neq (.flat [.int, .int, .int, .int]) (.t 41) (.t 46), [], [], 0, 0, [41, 46]⟩]) (
 .cond (.t 47) (.seq (.reg [o 4 (.mv (.c (.bool false)))]) (
 .ret)) (.skip)))) (
 .reg [o 35 (.mv (.t 5)), o 36 (.bin .add .no (.t 35) (.c (.int .i64 1))), o 5 (.mv (.t 36))]))
def b9x2 : CC := .seq (.seq (.reg [o 48 (.mv (.t 6)), o 49 (.faddr 2 (.t 2)), o 50 (.load false 1 (.t 49)), o 51 (.len .sl (.t 50)), o 52 (.bin .lss .no (.t 48) (.t 51))]) (
 .cond (.t 52) (.skip) (.exit 2))) (
 .seq (.block 3 (.seq (.drw [⟨(some 55), none, .faddr 2 (.t 2), [], [], 0, 0, [2]⟩, ⟨(some 56), none, .load false 1 (.t 55), [], [], 0, 0, [55]⟩, ⟨(some 57), none, .mv (.t 6), [], [], 0, 0, [6]⟩, ⟨(some 58), none, .iaddr 1 (.t 56) (.t 57), [], [], 0, 0, [56, 57]⟩, ⟨(some 59), none, .load false 1 (.t 58), [], [], 0, 0, [58]⟩, ⟨(some 60), none, .faddr 2 (.t 3), [], [], 0, 0, [3]⟩, ⟨(some 61), none, .load false 1 (.t 60), [], [], 0, 0, [60]⟩, ⟨(some 62), none, .mv (.t 6), [], [], 0, 0, [6]⟩, ⟨(some 63), none, .iaddr 1 (.t 61) (.t 62), [], [], 0, 0, [61, 62]⟩, ⟨(some 64), none, .load false 1 (.t 63), [], [], 0, 0, [63]⟩, ⟨(some 65), none, .bin .neq .no (.t 59) (.t 64), [], [], 0, 0, [59, 64]⟩]) (
 .cond (.t 65) (.seq (.reg [o 4 (.mv (.c (.bool false)))]) (
 .ret)) (.skip)))) (
 .reg [o 53 (.mv (.t 6)), o 54 (.bin .add .no (.t 53) (.c (.int .i64 1))), o 6 (.mv (.t 54))]))
def c9 : CFn := ⟨66, [.t 4], .seq (.reg [o 2 (.box 3 (.t 0)), o 3 (.box 3 (.t 1)), o 4 (.mv (.c (.bool false)))]) (
 .seq (.seq (.reg [o 7 (.faddr 0 (.t 2)), o 8 (.load false 1 (.t 7)), o 9 (.faddr 0 (.t 3)), o 10 (.load false 1 (.t 9)), o 11 (.bin .neq .bool (.t 8) (.t 10)), o 12 (.mv (.t 11)), g (some 13) 12 false (.faddr 1 (.t 2)), g (some 14) 12 false (.load false 1 (.t 13)), g (some 15) 12 false (.len .sl (.t 14)), g (some 16) 12 false (.faddr 1 (.t 3)), g (some 17) 12 false (.load false 1 (.t 16)), g (some 18) 12 false (.len .sl (.t 17)), g (some 19) 12 false (.bin .neq .no (.t 15) (.t 18)), o 20 (.pick (.t 12) (.c (.bool true)) (.t 19)), o 21 (.mv (.t 20)), g (some 22) 21 false (.faddr 2 (.t 2)), g (some 23) 21 false (.load false 1 (.t 22)), g (some 24) 21 false (.len .sl (.t 23)), g (some 25) 21 false (.faddr 2 (.t 3)), g (some 26) 21 false (.load false 1 (.t 25)), g (some 27) 21 false (.len .sl (.t 26)), g (some 28) 21 false (.bin .neq .no (.t 24) (.t 27)), o 29 (.pick (.t 21) (.c (.bool true)) (.t 28))]) (
 .cond (.t 29) (.seq (.reg [o 4 (.mv (.c (.bool false)))]) (
 .ret)) (.skip))) (
 .seq (.seq (.reg [o 5 (.mv (.c (.int .i64 0)))]) (
 .block 0 (.loop (some [2, 3, 5]) b9x0))) (
 .seq (.seq (.reg [o 6 (.mv (.c (.int .i64 0)))]) (
 .block 2 (.loop (some [2, 3, 6]) b9x2))) (
 .seq (.reg [o 4 (.mv (.c (.bool true)))]) (
 .ret)))))⟩
theorem q9 : table Try.prog A0 9 = some c9 := by kernel_rfl

/-! mortise/mortiselaw17.still -/
def b10x2 : CC := .seq (.seq (.reg [o 100 (.mv (.t 9)), o 101 (.mv (.t 8)), o 102 (.bin .lss .no (.t 100) (.t 101))]) (
 .cond (.t 102) (.skip) (.exit 2))) (
 .seq (.block 3 (.seq (.drw [⟨(some 105), none, .faddr 3 (.t 6), [], [], 0, 0, [6]⟩, ⟨(some 106), none, .load false 1 (.t 105), [], [], 0, 0, [105]⟩, ⟨(some 107), none, .mv (.t 9), [], [], 0, 0, [9]⟩, ⟨(some 108), none, .iaddr 3 (.t 106) (.t 107), [], [], 0, 0, [106, 107]⟩, ⟨(some 109), none, .load true 3 (.t 108), [], [], 0, 0, [108]⟩, ⟨(some 110), none, .faddr 3 (.t 7), [], [], 0, 0, [7]⟩, ⟨(some 111), none, .load false 1 (.t 110), [], [], 0, 0, [110]⟩, ⟨(some 112), none, .mv (.t 9), [], [], 0, 0, [9]⟩, ⟨(some 113), none, .iaddr 3 (.t 111) (.t 112), [], [], 0, 0, [111, 112]⟩, ⟨(some 114), none, .load true 3 (.t 113), [], [], 0, 0, [113]⟩, ⟨(some 115), none, .bin .neq (.flat [.str, .int, .int]) (.t 109) (.t 114), [], [], 0, 0, [109, 114]⟩]) (
 .cond (.t 115) (.seq (.reg [o 4 (.mv (.c (.bool false)))]) (
 .ret)) (.skip)))) (
 .reg [o 103 (.mv (.t 9)), o 104 (.bin .add .no (.t 103) (.c (.int .i64 1))), o 9 (.mv (.t 104))]))
def b10x0 : CC := .seq (.seq (.reg [o 42 (.mv (.t 5)), o 43 (.faddr 0 (.t 2)), o 44 (.load false 1 (.t 43)), o 45 (.len .sl (.t 44)), o 46 (.bin .lss .no (.t 42) (.t 45))]) (
 .cond (.t 46) (.skip) (.exit 0))) (
 .seq (.block 1 (.seq (.reg [o 49 (.faddr 0 (.t 2)), o 50 (.load false 1 (.t 49)), o 51 (.mv (.t 5)), o 52 (.iaddr 4 (.t 50) (.t 51)), o 53 (.load true 4 (.t 52)), o 6 (.alloc [.int .i64 0, .int .i64 0, .int .i64 0, .nils]), x (.store 4 (.t 6) (.t 53))]) (
 .seq (.reg [o 54 (.faddr 0 (.t 3)), o 55 (.load false 1 (.t 54)), o 56 (.mv (.t 5)), o 57 (.iaddr 4 (.t 55) (.t 56)), o 58 (.load true 4 (.t 57)), o 7 (.alloc [.int .i64 0, .int .i64 0, .int .i64 0, .nils]), x (.store 4 (.t 7) (.t 58))]) (
 .seq (.reg [o 59 (.faddr 3 (.t 7)), o 60 (.load false 1 (.t 59)), o 61 (.len .sl (.t 60)), o 8 (.mv (.t 61))]) (
 .seq (.seq (.reg [o 62 (.faddr 0 (.t 6)), o 63 (.load false 1 (.t 62)), o 64 (.faddr 0 (.t 7)), o 65 (.load false 1 (.t 64)), o 66 (.bin .neq .no (.t 63) (.t 65)), o 67 (.mv (.t 66)), g (some 68) 67 false (.faddr 1 (.t 6)), g (some 69) 67 false (.load false 1 (.t 68)), g (some 70) 67 false (.faddr 1 (.t 7)), g (some 71) 67 false (.load false 1 (.t 70)), g (some 72) 67 false (.bin .neq .no (.t 69) (.t 71)), o 73 (.pick (.t 67) (.c (.bool true)) (.t 72)), o 74 (.mv (.t 73)), g (some 75) 74 false (.faddr 2 (.t 6)), g (some 76) 74 false (.load false 1 (.t 75)), g (some 77) 74 false (.faddr 2 (.t 7)), g (some 78) 74 false (.load false 1 (.t 77)), g (some 79) 74 false (.bin .neq .no (.t 76) (.t 78)), o 80 (.pick (.t 74) (.c (.bool true)) (.t 79)), o 81 (.mv (.t 80)), g (some 82) 81 false (.faddr 3 (.t 6)), g (some 83) 81 false (.load false 1 (.t 82)), g (some 84) 81 false (.len .sl (.t 83)), g (some 85) 81 false (.mv (.t 8)), g (some 86) 81 false (.bin .neq .no (.t 84) (.t 85)), o 87 (.pick (.t 81) (.c (.bool true)) (.t 86)), o 88 (.mv (.t 87)), g (some 89) 88 false (.faddr 3 (.t 6)), g (some 90) 88 false (.load false 1 (.t 89)), g (some 91) 88 false (.mv (.t 8)), g (some 92) 88 false (.bin .add .no (.t 91) (.c (.int .i64 1))), g (some 93) 88 false (.slice (some 3) (.t 90) none (some (.t 92))), g (some 94) 88 false (.mv (.t 8)), g (some 95) 88 false (.iaddr 3 (.t 93) (.t 94)), g (some 96) 88 false (.load true 3 (.t 95)), g (some 97) 88 false (.build [.str [], .int .i64 0, .int .i64 0] [(0, 1, (.c (.str [109, 97, 114, 107]))), (1, 1, (.c (.int .i64 7)))]), g (some 98) 88 false (.bin .neq (.flat [.str, .int, .int]) (.t 96) (.t 97)), o 99 (.pick (.t 88) (.c (.bool true)) (.t 98))]) (
 .cond (.t 99) (.seq (.reg [o 4 (.mv (.c (.bool false)))]) (
 .ret)) (.skip))) (
 .seq (.reg [o 9 (.mv (.c (.int .i64 0)))]) (
 .block 2 (.loop (some [2, 3, 5, 6, 7, 8, 9]) b10x2)))))))) (
 .reg [o 47 (.mv (.t 5)), o 48 (.bin .add .no (.t 47) (.c (.int .i64 1))), o 5 (.mv (.t 48))]))
def c10 : CFn := ⟨116, [.t 4], .seq (.reg [o 2 (.box 2 (.t 0)), o 3 (.box 2 (.t 1)), o 4 (.mv (.c (.bool false)))]) (
 .seq (.seq (.drw [⟨(some 10), none, .faddr 0 (.t 2), [], [], 0, 0, [2]⟩, ⟨(some 11), none, .load false 1 (.t 10), [], [], 0, 0, [10]⟩, ⟨(some 12), none, .len .sl (.t 11), [], [], 0, 0, [11]⟩, ⟨(some 13), none, .faddr 0 (.t 3), [], [], 0, 0, [3]⟩, ⟨(some 14), none, .load false 1 (.t 13), [], [], 0, 0, [13]⟩, ⟨(some 15), none, .len .sl (.t 14), [], [], 0, 0, [14]⟩, ⟨(some 16), none, .bin .neq .no (.t 12) (.t 15), [], [], 0, 0, [12, 15]⟩, ⟨(some 17), none, .mv (.t 16), [], [], 0, 0, [16]⟩, ⟨(some 18), (some (17, false)), .faddr 1 (.t 2), [], [], 0, 0, [2]⟩, ⟨(some 19), (some (17, false)), .load false 1 (.t 18), [], [], 0, 0, [18]⟩, ⟨(some 20), (some (17, false)), .len .sl (.t 19), [], [], 0, 0, [19]⟩, ⟨(some 21), (some (17, false)), .faddr 1 (.t 3), [], [], 0, 0, [3]⟩, ⟨(some 22), (some (17, false)), .load false 1 (.t 21), [], [], 0, 0, [21]⟩, ⟨(some 23), (some (17, false)), .len .sl (.t 22), [], [], 0, 0, [22]⟩, ⟨(some 24), (some (17, false)), .bin .neq .no (.t 20) (.t 23), [], [], 0, 0, [20, 23]⟩, ⟨(some 25), none, .pick (.t 17) (.c (.bool true)) (.t 24), [], [], 0, 0, [17, 24]⟩, ⟨(some 26), none, .mv (.t 25), [], [], 0, 0, [25]⟩, ⟨(some 27), (some (26, false)), .faddr 0 (.t 2), [], [], 0, 0, [2]⟩, ⟨(some 28), (some (26, false)), .load false 1 (.t 27), [], [], 0, 0, [27]⟩, ⟨(some 29), (some (26, false)), .faddr 0 (.t 3), [], [], 0, 0, [3]⟩, ⟨(some 30), (some (26, false)), .load false 1 (.t 29), [], [], 0, 0, [29]⟩, ⟨(some 31), (some (26, false)), .len .sl (.t 30), [], [], 0, 0, [30]⟩, ⟨(some 32), (some (26, false)), .bin .add .no (.t 31) (.c (.int .i64 1)), [], [], 0, 0, [31]⟩, ⟨(some 33), (some (26, false)), .slice (some 4) (.t 28) none (some (.t 32)), [], [], 0, 0, [28, 32]⟩, ⟨(some 34), (some (26, false)), .faddr 0 (.t 3), [], [], 0, 0, [3]⟩, ⟨(some 35), (some (26, false)), .load false 1 (.t 34), [], [], 0, 0, [34]⟩, ⟨(some 36), (some (26, false)), .len .sl (.t 35), [], [], 0, 0, [35]⟩, ⟨(some 37), (some (26, false)), .iaddr 4 (.t 33) (.t 36), [], [], 0, 0, [33, 36]⟩, ⟨(some 38), (some (26, false)), .faddr 0 (.t 37), [], [], 0, 0, [37]⟩, ⟨(some 39), (some (26, false)), .load false 1 (.t 38), [], [], 0, 0, [38]⟩, ⟨(some 40), (some (26, false)), .bin .neq .no (.t 39) (.c (.int .i64 77)), [], [], 0, 0, [39]⟩, ⟨(some 41), none, .pick (.t 26) (.c (.bool true)) (.t 40), [], [], 0, 0, [26, 40]⟩]) (
 .cond (.t 41) (.seq (.reg [o 4 (.mv (.c (.bool false)))]) (
 .ret)) (.skip))) (
 .seq (.seq (.reg [o 5 (.mv (.c (.int .i64 0)))]) (
 .block 0 (.loop (some [2, 3, 5]) b10x0))) (
 .seq (.reg [o 4 (.mv (.c (.bool true)))]) (
 .ret))))⟩
theorem q10 : table Try.prog A0 10 = some c10 := by kernel_rfl

/-! mortise/types.Check -/
def b11x0 : CC := .seq (.reg [o 13 (.bin .lss .no (.t 12) (.t 11))]) (
 .seq (.cond (.t 13) (.skip) (.exit 0)) (
 .seq (.block 1 (.seq (.reg [o 14 (.mv (.t 12)), o 15 (.iaddr 4 (.t 10) (.t 12)), o 16 (.load true 4 (.t 15)), o 4 (.alloc [.int .i64 0, .int .i64 0, .int .i64 0, .nils]), o 3 (.mv (.t 14)), x (.store 4 (.t 4) (.t 16))]) (
 .seq (.reg [o 17 (.load true 4 (.t 4)), o 18 (.mv (.t 3)), o 19 (.call (.c (.fn 20 [])) [.t 17, .t 18]), o 20 (.una .not (.t 19))]) (
 .cond (.t 20) (.seq (.reg [o 21 (.mv (.t 3)), o 22 (.build [.int .i64 0, .int .i64 0] [(0, 1, (.c (.int .i64 92))), (1, 1, (.t 21))]), x (.store 2 (.t 2) (.t 22))]) (
 .ret)) (.skip))))) (
 .reg [o 23 (.bin .add .no (.t 12) (.c (.int .i64 1))), o 12 (.mv (.t 23))])))
def b11x2 : CC := .seq (.reg [o 36 (.bin .lss .no (.t 35) (.t 34))]) (
 .seq (.cond (.t 36) (.skip) (.exit 2)) (
 .seq (.block 3 (.seq (.reg [o 37 (.mv (.t 35)), o 38 (.iaddr 2 (.t 33) (.t 35)), o 39 (.load true 2 (.t 38)), o 8 (.alloc [.str [], .int .i64 0]), o 7 (.mv (.t 37)), x (.store 2 (.t 8) (.t 39))]) (
 .seq (.reg [o 40 (.mv (.t 6)), o 41 (.faddr 0 (.t 8)), o 42 (.load false 1 (.t 41)), o 43 (.mv (.t 7)), x (.mapput .str (.t 40) (.t 42) (.t 43))]) (
 .seq (.reg [o 44 (.faddr 0 (.t 8)), o 45 (.load false 1 (.t 44)), o 46 (.call (.c (.fn 22 [])) [.t 45]), o 47 (.una .not (.t 46)), o 48 (.mv (.t 47)), g (some 49) 48 false (.mv (.t 6)), g (some 50) 48 false (.len .mp (.t 49)), g (some 51) 48 false (.mv (.t 7)), g (some 52) 48 false (.bin .add .no (.t 51) (.c (.int .i64 1))), g (some 53) 48 false (.bin .neq .no (.t 50) (.t 52)), o 54 (.pick (.t 48) (.c (.bool true)) (.t 53)), o 55 (.mv (.t 54)), g (some 56) 55 false (.faddr 1 (.t 8)), g (some 57) 55 false (.load false 1 (.t 56)), g (some 58) 55 false (.bin .lss .no (.t 57) (.c (.int .i64 0))), o 59 (.pick (.t 55) (.c (.bool true)) (.t 58)), o 60 (.mv (.t 59)), g (some 61) 60 false (.faddr 1 (.t 8)), g (some 62) 60 false (.load false 1 (.t 61)), g (some 63) 60 false (.faddr 0 (.t 1)), g (some 64) 60 false (.load false 1 (.t 63)), g (some 65) 60 false (.len .sl (.t 64)), g (some 66) 60 false (.bin .geq .no (.t 62) (.t 65)), o 67 (.pick (.t 60) (.c (.bool true)) (.t 66)), o 68 (.mv (.t 67)), g (some 69) 68 false (.mv (.t 7)), g (some 70) 68 false (.bin .geq .no (.t 69) (.c (.int .i64 256))), o 71 (.pick (.t 68) (.c (.bool true)) (.t 70))]) (
 .cond (.t 71) (.seq (.reg [o 72 (.faddr 0 (.t 1)), o 73 (.load false 1 (.t 72)), o 74 (.len .sl (.t 73)), o 75 (.mv (.t 7)), o 76 (.bin .add .no (.t 74) (.t 75)), o 77 (.build [.int .i64 0, .int .i64 0] [(0, 1, (.c (.int .i64 92))), (1, 1, (.t 76))]), x (.store 2 (.t 2) (.t 77))]) (
 .ret)) (.skip)))))) (
 .reg [o 78 (.bin .add .no (.t 35) (.c (.int .i64 1))), o 35 (.mv (.t 78))])))
def c11 : CFn := ⟨80, [.cell 2 true 2], .seq (.reg [o 1 (.box 2 (.t 0)), o 2 (.alloc [.int .i64 0, .int .i64 0])]) (
 .seq (.seq (.reg [o 9 (.faddr 0 (.t 1)), o 10 (.load false 1 (.t 9)), o 11 (.len .sl (.t 10)), o 12 (.mv (.c (.int .i64 0)))]) (
 .block 0 (.loop (some [1, 2, 10, 11, 12]) b11x0))) (
 .seq (.seq (.reg [o 24 (.faddr 0 (.t 1)), o 25 (.load false 1 (.t 24)), o 26 (.call (.c (.fn 21 [])) [.t 25]), o 5 (.alloc [.int .i64 0, .int .i64 0]), x (.store 2 (.t 5) (.t 26))]) (
 .seq (.reg [o 27 (.faddr 0 (.t 5)), o 28 (.load false 1 (.t 27)), o 29 (.bin .neq .no (.t 28) (.c (.int .i64 0)))]) (
 .cond (.t 29) (.seq (.reg [o 30 (.load true 2 (.t 5)), x (.store 2 (.t 2) (.t 30))]) (
 .ret)) (.skip)))) (
 .seq (.reg [o 31 (.mkmap), o 6 (.mv (.t 31))]) (
 .seq (.seq (.reg [o 32 (.faddr 1 (.t 1)), o 33 (.load false 1 (.t 32)), o 34 (.len .sl (.t 33)), o 35 (.mv (.c (.int .i64 0)))]) (
 .block 2 (.loop (some [1, 2, 6, 33, 34, 35]) b11x2))) (
 .seq (.reg [o 79 (.build [.int .i64 0, .int .i64 0] []), x (.store 2 (.t 2) (.t 79))]) (
 .ret))))))⟩
theorem q11 : table Try.prog A0 11 = some c11 := by kernel_rfl

/-! mortise/size.Of -/
def b12x0 : CC := .seq (.reg [o 19 (.bin .lss .no (.t 18) (.t 17))]) (
 .seq (.cond (.t 19) (.skip) (.exit 0)) (
 .seq (.block 1 (.seq (.reg [o 20 (.iaddr 4 (.t 16) (.t 18)), o 21 (.load true 4 (.t 20)), o 7 (.alloc [.int .i64 0, .int .i64 0, .int .i64 0, .nils]), x (.store 4 (.t 7) (.t 21))]) (
 .reg [o 22 (.mv (.t 5)), o 23 (.load true 4 (.t 7)), o 24 (.mv (.t 5)), o 25 (.call (.c (.fn 23 [])) [.t 23, .t 24]), o 26 (.bslice [.bool false, .int .i64 0, .int .i64 0, .int .i64 0] 1 [(0, (.t 25))]), o 27 (.append 4 32 false (.t 22) (.t 26)), o 5 (.mv (.t 27))]))) (
 .reg [o 28 (.bin .add .no (.t 18) (.c (.int .i64 1))), o 18 (.mv (.t 28))])))
def c12 : CFn := ⟨30, [.t 2, .t 3], .seq (.reg [o 1 (.box 2 (.t 0)), o 2 (.mv (.c (.nils))), o 3 (.mv (.c (.int .i64 0)))]) (
 .seq (.seq (.reg [o 8 (.load true 2 (.t 1)), o 9 (.call (.c (.fn 11 [])) [.t 8]), o 4 (.alloc [.int .i64 0, .int .i64 0]), x (.store 2 (.t 4) (.t 9))]) (
 .seq (.reg [o 10 (.faddr 0 (.t 4)), o 11 (.load false 1 (.t 10)), o 12 (.bin .neq .no (.t 11) (.c (.int .i64 0)))]) (
 .cond (.t 12) (.seq (.drw [⟨(some 13), none, .faddr 0 (.t 4), [], [], 0, 0, [4]⟩, ⟨(some 14), none, .load false 1 (.t 13), [], [], 0, 0, [13]⟩, ⟨(some 2), none, .mv (.c (.nils)), [], [], 0, 0, []⟩, ⟨(some 3), none, .mv (.t 14), [], [], 0, 0, [14]⟩]) (
 .ret)) (.skip)))) (
 .seq (.reg [⟨(some 5), none, .mv (.c (.nils)), [], [(0, 4)], 0, 0, []⟩]) (
 .seq (.seq (.reg [o 15 (.faddr 0 (.t 1)), o 16 (.load false 1 (.t 15)), o 17 (.len .sl (.t 16)), o 18 (.mv (.c (.int .i64 0)))]) (
 .block 0 (.loop (some [5, 16, 17, 18]) b12x0))) (
 .seq (.reg [o 29 (.mv (.t 5)), ⟨(some 2), none, .mv (.t 29), [.freeze 29 none 4], [], 0, 0, []⟩, o 3 (.mv (.c (.int .i64 0)))]) (
 .ret)))))⟩
theorem q12 : table Try.prog A0 12 = some c12 := by kernel_rfl

/-! mortise/layout.Of -/
def b13x0 : CC := .seq (.reg [o 24 (.bin .lss .no (.t 23) (.t 22))]) (
 .seq (.cond (.t 24) (.skip) (.exit 0)) (
 .seq (.block 1 (.seq (.reg [o 25 (.iaddr 4 (.t 21) (.t 23)), o 26 (.load true 4 (.t 25)), o 8 (.alloc [.int .i64 0, .int .i64 0, .int .i64 0, .nils]), x (.store 4 (.t 8) (.t 26))]) (
 .reg [o 27 (.mv (.t 6)), o 28 (.load true 4 (.t 8)), o 29 (.mv (.t 4)), o 30 (.call (.c (.fn 24 [])) [.t 28, .t 29]), ⟨(some 31), none, .bslice [.int .i64 0, .nils] 1 [(0, (.t 30))], [.freeze 30 (some 1) 3], [], 0, 0, []⟩, o 32 (.append 2 32 false (.t 27) (.t 31)), o 6 (.mv (.t 32))]))) (
 .reg [o 33 (.bin .add .no (.t 23) (.c (.int .i64 1))), o 23 (.mv (.t 33))])))
def c13 : CFn := ⟨35, [.t 2, .t 3], .seq (.reg [o 1 (.box 2 (.t 0)), o 2 (.mv (.c (.nils))), o 3 (.mv (.c (.int .i64 0)))]) (
 .seq (.seq (.reg [o 9 (.load true 2 (.t 1)), o 10 (.call (.c (.fn 11 [])) [.t 9]), o 11 (.field false 0 1 (.t 10)), o 12 (.bin .neq .no (.t 11) (.c (.int .i64 0)))]) (
 .cond (.t 12) (.seq (.reg [o 2 (.mv (.c (.nils))), o 3 (.mv (.c (.int .i64 92)))]) (
 .ret)) (.skip))) (
 .seq (.reg [o 14 (.load true 2 (.t 1)), o 15 (.call (.c (.fn 12 [])) [.t 14]), o 13 (.mv (.t 15)), o 16 (.extr (.t 13) 0), o 17 (.extr (.t 13) 1), o 4 (.mv (.t 16)), o 5 (.mv (.t 17))]) (
 .seq (.seq (.reg [o 18 (.mv (.t 5)), o 19 (.bin .neq .no (.t 18) (.c (.int .i64 0)))]) (
 .cond (.t 19) (.seq (.reg [o 2 (.mv (.c (.nils))), o 3 (.mv (.c (.int .i64 92)))]) (
 .ret)) (.skip))) (
 .seq (.reg [⟨(some 6), none, .mv (.c (.nils)), [], [(0, 2)], 0, 0, []⟩]) (
 .seq (.seq (.reg [o 20 (.faddr 0 (.t 1)), o 21 (.load false 1 (.t 20)), o 22 (.len .sl (.t 21)), o 23 (.mv (.c (.int .i64 0)))]) (
 .block 0 (.loop (some [4, 6, 21, 22, 23]) b13x0))) (
 .seq (.reg [o 34 (.mv (.t 6)), ⟨(some 2), none, .mv (.t 34), [.freeze 34 none 2], [], 0, 0, []⟩, o 3 (.mv (.c (.int .i64 0)))]) (
 .ret)))))))⟩
theorem q13 : table Try.prog A0 13 = some c13 := by kernel_rfl

/-! mortise/raise.Encoder$1 -/
def c14 : CFn := ⟨17, [], .seq (.drw [⟨(some 4), none, .faddr 2 (.t 1), [], [], 0, 0, [1]⟩, ⟨(some 5), none, .load false 1 (.t 4), [], [], 0, 0, [4]⟩, ⟨(some 6), none, .load false 1 (.t 2), [], [], 0, 0, [2]⟩, ⟨(some 7), none, .nilchk (.t 6), [], [], 0, 0, [6]⟩, ⟨(some 8), none, .faddr 4 (.t 7), [], [], 0, 0, [7]⟩, ⟨(some 9), none, .load false 1 (.t 8), [], [], 0, 0, [8]⟩, ⟨(some 10), none, .len .sl (.t 9), [], [], 0, 0, [9]⟩, ⟨(some 11), none, .bslice [.int .i64 0] 1 [(0, (.t 10))], [], [], 0, 0, [10]⟩, ⟨(some 12), none, .append 1 8 false (.t 5) (.t 11), [], [], 0, 1, [5, 11]⟩, ⟨(some 13), none, .faddr 2 (.t 1), [], [], 1, 1, [1]⟩, ⟨none, none, .store 1 (.t 13) (.t 12), [], [], 1, 2, [13, 12]⟩]) (
 .reg [o 14 (.load false 1 (.t 2)), o 15 (.mv (.t 0)), o 16 (.call (.c (.fn 15 [])) [.t 14, .t 15])])⟩
theorem q14 : table Try.prog A0 14 = some c14 := by kernel_rfl

/-! (*mortise/raise.raiser).routine -/
def c15 : CFn := ⟨82, [], .seq (.seq (.reg [o 7 (.mv (.t 0)), o 8 (.nilchk (.t 7)), o 9 (.faddr 0 (.t 8)), o 10 (.faddr 0 (.t 9)), o 11 (.load false 1 (.t 10)), o 12 (.mv (.t 1)), o 13 (.iaddr 4 (.t 11) (.t 12)), o 14 (.load true 4 (.t 13)), o 4 (.alloc [.int .i64 0, .int .i64 0, .int .i64 0, .nils]), x (.store 4 (.t 4) (.t 14))]) (
 .seq (.reg [o 15 (.faddr 0 (.t 4)), o 16 (.load false 1 (.t 15))]) (
 .block 0 (.seq (.seq (.reg [o 18 (.bin .eql .no (.t 16) (.c (.int .i64 1))), o 17 (.mv (.t 18))]) (
 .cond (.t 17) (.skip) (.reg [o 19 (.bin .eql .no (.t 16) (.c (.int .i64 2))), o 17 (.mv (.t 19))]))) (
 .cond (.t 17) (.reg [o 20 (.mv (.t 0)), o 21 (.mv (.t 1)), o 22 (.call (.c (.fn 25 [])) [.t 20, .t 21, .c (.int .i64 0)])]) (.seq (.reg [o 24 (.bin .eql .no (.t 16) (.c (.int .i64 3))), o 23 (.mv (.t 24))]) (
 .cond (.t 23) (.reg [o 25 (.mv (.t 0)), o 26 (.build [.int .i64 0, .int .i64 0, .int .i64 0, .int .i64 0] [(0, 1, (.c (.int .i64 36)))]), o 27 (.call (.c (.fn 26 [])) [.t 25, .t 26])]) (.seq (.reg [o 29 (.bin .eql .no (.t 16) (.c (.int .i64 4))), o 28 (.mv (.t 29))]) (
 .cond (.t 28) (.seq (.reg [o 30 (.mv (.t 0)), o 31 (.faddr 1 (.t 4)), o 32 (.load false 1 (.t 31)), o 33 (.build [.int .i64 0, .int .i64 0, .int .i64 0, .int .i64 0] [(0, 1, (.c (.int .i64 37))), (1, 1, (.t 32))]), o 34 (.call (.c (.fn 26 [])) [.t 30, .t 33])]) (
 .reg [o 35 (.mv (.t 0)), o 36 (.faddr 2 (.t 4)), o 37 (.load false 1 (.t 36)), o 38 (.call (.c (.fn 27 [])) [.t 35, .t 37, .c (.bool false)])])) (.seq (.reg [o 40 (.bin .eql .no (.t 16) (.c (.int .i64 5))), o 39 (.mv (.t 40))]) (
 .cond (.t 39) (.seq (.reg [o 41 (.mv (.t 0)), o 42 (.faddr 1 (.t 4)), o 43 (.load false 1 (.t 42)), o 44 (.build [.int .i64 0, .int .i64 0, .int .i64 0, .int .i64 0] [(0, 1, (.c (.int .i64 38))), (1, 1, (.t 43))]), o 45 (.call (.c (.fn 26 [])) [.t 41, .t 44])]) (
 .reg [o 46 (.mv (.t 0)), o 47 (.faddr 2 (.t 4)), o 48 (.load false 1 (.t 47)), o 49 (.call (.c (.fn 27 [])) [.t 46, .t 48, .c (.bool true)])])) (.seq (.reg [o 51 (.bin .eql .no (.t 16) (.c (.int .i64 6))), o 50 (.mv (.t 51))]) (
 .cond (.t 50) (.seq (.reg [o 52 (.mv (.t 0)), o 53 (.build [.int .i64 0, .int .i64 0, .int .i64 0, .int .i64 0] [(0, 1, (.c (.int .i64 40)))]), o 54 (.call (.c (.fn 26 [])) [.t 52, .t 53]), o 5 (.mv (.t 54))]) (
 .seq (.reg [o 55 (.mv (.t 0)), o 56 (.faddr 2 (.t 4)), o 57 (.load false 1 (.t 56)), o 58 (.build [.int .i64 0, .int .i64 0, .int .i64 0, .int .i64 0] [(0, 1, (.c (.int .i64 46))), (3, 1, (.t 57))]), o 59 (.call (.c (.fn 26 [])) [.t 55, .t 58]), o 6 (.mv (.t 59))]) (
 .reg [o 60 (.mv (.t 0)), o 61 (.nilchk (.t 60)), o 62 (.faddr 4 (.t 61)), o 63 (.load false 1 (.t 62)), o 64 (.mv (.t 5)), o 65 (.mv (.t 6)), o 66 (.bin .add .no (.t 65) (.c (.int .i64 1))), o 67 (.iaddr 4 (.t 63) (.t 64)), o 68 (.faddr 2 (.t 67)), x (.store 1 (.t 68) (.t 66))]))) (.seq (.reg [o 70 (.bin .eql .no (.t 16) (.c (.int .i64 7))), o 69 (.mv (.t 70))]) (
 .cond (.t 69) (.reg [o 71 (.mv (.t 0)), o 72 (.load true 4 (.t 4)), o 73 (.call (.c (.fn 28 [])) [.t 71, .t 72])]) (.seq (.reg [o 75 (.bin .eql .no (.t 16) (.c (.int .i64 8))), o 74 (.mv (.t 75))]) (
 .cond (.t 74) (.reg [o 76 (.mv (.t 0)), o 77 (.mv (.t 1)), o 78 (.call (.c (.fn 29 [])) [.t 76, .t 77])]) (.skip)))))))))))))))))) (
 .reg [o 79 (.mv (.t 0)), o 80 (.build [.int .i64 0, .int .i64 0, .int .i64 0, .int .i64 0] [(0, 1, (.c (.int .i64 20)))]), o 81 (.call (.c (.fn 26 [])) [.t 79, .t 80])])⟩
theorem q15 : table Try.prog A0 15 = some c15 := by kernel_rfl

/-! mortise/mortiseref09.Check -/
def b16x0 : CC := .seq (.seq (.reg [o 9 (.mv (.t 3)), o 10 (.faddr 0 (.t 1)), o 11 (.load false 1 (.t 10)), o 12 (.len .sl (.t 11)), o 13 (.bin .lss .no (.t 9) (.t 12))]) (
 .cond (.t 13) (.skip) (.exit 0))) (
 .seq (.block 1 (.seq (.reg [o 16 (.faddr 0 (.t 1)), o 17 (.load false 1 (.t 16)), o 18 (.mv (.t 3)), o 19 (.iaddr 4 (.t 17) (.t 18)), o 20 (.load true 4 (.t 19)), o 21 (.mv (.t 3)), o 22 (.call (.c (.fn 30 [])) [.t 20, .t 21]), o 23 (.una .not (.t 22))]) (
 .cond (.t 23) (.seq (.reg [o 24 (.mv (.t 3)), o 25 (.build [.int .i64 0, .int .i64 0] [(0, 1, (.c (.int .i64 92))), (1, 1, (.t 24))]), x (.store 2 (.t 2) (.t 25))]) (
 .ret)) (.skip)))) (
 .reg [o 14 (.mv (.t 3)), o 15 (.bin .add .no (.t 14) (.c (.int .i64 1))), o 3 (.mv (.t 15))]))
def b16x2 : CC := .seq (.seq (.reg [o 28 (.mv (.t 5)), o 29 (.mv (.t 4)), o 30 (.len .sl (.t 29)), o 31 (.bin .lss .no (.t 28) (.t 30))]) (
 .cond (.t 31) (.skip) (.exit 2))) (
 .seq (.block 3 (.seq (.reg [o 34 (.mv (.t 4)), o 35 (.mv (.t 5)), o 36 (.iaddr 1 (.t 34) (.t 35)), o 37 (.load false 1 (.t 36)), o 38 (.bin .gtr .no (.t 37) (.c (.int .i64 64)))]) (
 .cond (.t 38) (.seq (.reg [o 39 (.mv (.t 5)), o 40 (.build [.int .i64 0, .int .i64 0] [(0, 1, (.c (.int .i64 83))), (1, 1, (.t 39))]), x (.store 2 (.t 2) (.t 40))]) (
 .ret)) (.skip)))) (
 .reg [o 32 (.mv (.t 5)), o 33 (.bin .add .no (.t 32) (.c (.int .i64 1))), o 5 (.mv (.t 33))]))
def b16x6 : CC := .seq (.seq (.reg [o 72 (.mv (.t 8)), o 73 (.mv (.t 6)), o 74 (.bin .lss .no (.t 72) (.t 73))]) (
 .cond (.t 74) (.skip) (.exit 6))) (
 .seq (.block 7 (.drw [⟨(some 77), none, .mv (.t 7), [], [], 0, 0, [7]⟩, ⟨(some 78), none, .mv (.t 77), [], [], 0, 0, [77]⟩, ⟨(some 79), (some (78, true)), .faddr 1 (.t 1), [], [], 0, 0, [1]⟩, ⟨(some 80), (some (78, true)), .load false 1 (.t 79), [], [], 0, 0, [79]⟩, ⟨(some 81), (some (78, true)), .mv (.t 8), [], [], 0, 0, [8]⟩, ⟨(some 82), (some (78, true)), .iaddr 2 (.t 80) (.t 81), [], [], 0, 0, [80, 81]⟩, ⟨(some 83), (some (78, true)), .faddr 0 (.t 82), [], [], 0, 0, [82]⟩, ⟨(some 84), (some (78, true)), .load false 1 (.t 83), [], [], 0, 0, [83]⟩, ⟨(some 85), (some (78, true)), .faddr 1 (.t 1), [], [], 0, 0, [1]⟩, ⟨(some 86), (some (78, true)), .load false 1 (.t 85), [], [], 0, 0, [85]⟩, ⟨(some 87), (some (78, true)), .mv (.t 6), [], [], 0, 0, [6]⟩, ⟨(some 88), (some (78, true)), .iaddr 2 (.t 86) (.t 87), [], [], 0, 0, [86, 87]⟩, ⟨(some 89), (some (78, true)), .faddr 0 (.t 88), [], [], 0, 0, [88]⟩, ⟨(some 90), (some (78, true)), .load false 1 (.t 89), [], [], 0, 0, [89]⟩, ⟨(some 91), (some (78, true)), .bin .neq .no (.t 84) (.t 90), [], [], 0, 0, [84, 90]⟩, ⟨(some 92), none, .pick (.t 78) (.t 91) (.c (.bool false)), [], [], 0, 0, [78, 91]⟩, ⟨(some 7), none, .mv (.t 92), [], [], 0, 0, [92]⟩])) (
 .reg [o 75 (.mv (.t 8)), o 76 (.bin .add .no (.t 75) (.c (.int .i64 1))), o 8 (.mv (.t 76))]))
def b16x4 : CC := .seq (.seq (.reg [o 41 (.mv (.t 6)), o 42 (.faddr 1 (.t 1)), o 43 (.load false 1 (.t 42)), o 44 (.len .sl (.t 43)), o 45 (.bin .lss .no (.t 41) (.t 44))]) (
 .cond (.t 45) (.skip) (.exit 4))) (
 .seq (.block 5 (.seq (.drw [⟨(some 48), none, .mv (.t 6), [], [], 0, 0, [6]⟩, ⟨(some 49), none, .bin .lss .no (.t 48) (.c (.int .i64 256)), [], [], 0, 0, [48]⟩, ⟨(some 50), none, .mv (.t 49), [], [], 0, 0, [49]⟩, ⟨(some 51), (some (50, true)), .faddr 1 (.t 1), [], [], 0, 0, [1]⟩, ⟨(some 52), (some (50, true)), .load false 1 (.t 51), [], [], 0, 0, [51]⟩, ⟨(some 53), (some (50, true)), .mv (.t 6), [], [], 0, 0, [6]⟩, ⟨(some 54), (some (50, true)), .iaddr 2 (.t 52) (.t 53), [], [], 0, 0, [52, 53]⟩, ⟨(some 55), (some (50, true)), .faddr 0 (.t 54), [], [], 0, 0, [54]⟩, ⟨(some 56), (some (50, true)), .load false 1 (.t 55), [], [], 0, 0, [55]⟩, ⟨(some 57), (some (50, true)), .call (.c (.fn 32 [])) [.t 56], [], [], 0, 1, [56]⟩, ⟨(some 58), none, .pick (.t 50) (.t 57) (.c (.bool false)), [], [], 1, 1, [50, 57]⟩, ⟨(some 59), none, .mv (.t 58), [], [], 1, 1, [58]⟩, ⟨(some 60), (some (59, true)), .faddr 1 (.t 1), [], [], 1, 1, [1]⟩, ⟨(some 61), (some (59, true)), .load false 1 (.t 60), [], [], 1, 1, [60]⟩, ⟨(some 62), (some (59, true)), .mv (.t 6), [], [], 1, 1, [6]⟩, ⟨(some 63), (some (59, true)), .iaddr 2 (.t 61) (.t 62), [], [], 1, 1, [61, 62]⟩, ⟨(some 64), (some (59, true)), .faddr 1 (.t 63), [], [], 1, 1, [63]⟩, ⟨(some 65), (some (59, true)), .load false 1 (.t 64), [], [], 1, 1, [64]⟩, ⟨(some 66), (some (59, true)), .faddr 0 (.t 1), [], [], 1, 1, [1]⟩, ⟨(some 67), (some (59, true)), .load false 1 (.t 66), [], [], 1, 1, [66]⟩, ⟨(some 68), (some (59, true)), .len .sl (.t 67), [], [], 1, 1, [67]⟩, ⟨(some 69), (some (59, true)), .bin .sub .no (.t 68) (.c (.int .i64 1)), [], [], 1, 1, [68]⟩, ⟨(some 70), (some (59, true)), .call (.c (.fn 33 [])) [.t 65, .c (.int .i64 0), .t 69], [], [], 1, 2, [65, 69]⟩, ⟨(some 71), none, .pick (.t 59) (.t 70) (.c (.bool false)), [], [], 2, 2, [59, 70]⟩, ⟨(some 7), none, .mv (.t 71), [], [], 2, 2, [71]⟩]) (
 .seq (.seq (.reg [o 8 (.mv (.c (.int .i64 0)))]) (
 .block 6 (.loop (some [1, 2, 6, 7, 8]) b16x6))) (
 .seq (.reg [o 93 (.mv (.t 7)), o 94 (.una .not (.t 93))]) (
 .cond (.t 94) (.seq (.reg [o 95 (.faddr 0 (.t 1)), o 96 (.load false 1 (.t 95)), o 97 (.len .sl (.t 96)), o 98 (.mv (.t 6)), o 99 (.bin .add .no (.t 97) (.t 98)), o 100 (.build [.int .i64 0, .int .i64 0] [(0, 1, (.c (.int .i64 92))), (1, 1, (.t 99))]), x (.store 2 (.t 2) (.t 100))]) (
 .ret)) (.skip)))))) (
 .reg [o 46 (.mv (.t 6)), o 47 (.bin .add .no (.t 46) (.c (.int .i64 1))), o 6 (.mv (.t 47))]))
def c16 : CFn := ⟨102, [.cell 2 true 2], .seq (.reg [o 1 (.box 2 (.t 0)), o 2 (.alloc [.int .i64 0, .int .i64 0])]) (
 .seq (.seq (.reg [o 3 (.mv (.c (.int .i64 0)))]) (
 .block 0 (.loop (some [1, 2, 3]) b16x0))) (
 .seq (.reg [o 26 (.load true 2 (.t 1)), o 27 (.call (.c (.fn 31 [])) [.t 26]), o 4 (.mv (.t 27))]) (
 .seq (.seq (.reg [o 5 (.mv (.c (.int .i64 0)))]) (
 .block 2 (.loop (some [1, 2, 4, 5]) b16x2))) (
 .seq (.seq (.reg [o 6 (.mv (.c (.int .i64 0)))]) (
 .block 4 (.loop (some [1, 2, 6]) b16x4))) (
 .seq (.reg [o 101 (.build [.int .i64 0, .int .i64 0] []), x (.store 2 (.t 2) (.t 101))]) (
 .ret))))))⟩
theorem q16 : table Try.prog A0 16 = some c16 := by kernel_rfl

/-! mortise/mortiseref10.Of -/
def b17x0 : CC := .seq (.seq (.reg [o 14 (.mv (.t 6)), o 15 (.faddr 0 (.t 1)), o 16 (.load false 1 (.t 15)), o 17 (.len .sl (.t 16)), o 18 (.bin .lss .no (.t 14) (.t 17))]) (
 .cond (.t 18) (.skip) (.exit 0))) (
 .seq (.block 1 (.reg [o 21 (.mv (.t 5)), o 22 (.faddr 0 (.t 1)), o 23 (.load false 1 (.t 22)), o 24 (.mv (.t 6)), o 25 (.iaddr 4 (.t 23) (.t 24)), o 26 (.load true 4 (.t 25)), o 27 (.mv (.t 5)), o 28 (.call (.c (.fn 34 [])) [.t 26, .t 27]), o 29 (.bslice [.bool false, .int .i64 0, .int .i64 0, .int .i64 0] 1 [(0, (.t 28))]), o 30 (.append 4 32 false (.t 21) (.t 29)), o 5 (.mv (.t 30))])) (
 .reg [o 19 (.mv (.t 6)), o 20 (.bin .add .no (.t 19) (.c (.int .i64 1))), o 6 (.mv (.t 20))]))
def c17 : CFn := ⟨32, [.t 2, .t 3], .seq (.reg [o 1 (.box 2 (.t 0)), o 2 (.mv (.c (.nils))), o 3 (.mv (.c (.int .i64 0)))]) (
 .seq (.reg [o 7 (.load true 2 (.t 1)), o 8 (.call (.c (.fn 16 [])) [.t 7]), o 4 (.alloc [.int .i64 0, .int .i64 0]), x (.store 2 (.t 4) (.t 8))]) (
 .seq (.seq (.reg [o 9 (.faddr 0 (.t 4)), o 10 (.load false 1 (.t 9)), o 11 (.bin .neq .no (.t 10) (.c (.int .i64 0)))]) (
 .cond (.t 11) (.seq (.drw [⟨(some 12), none, .faddr 0 (.t 4), [], [], 0, 0, [4]⟩, ⟨(some 13), none, .load false 1 (.t 12), [], [], 0, 0, [12]⟩, ⟨(some 2), none, .mv (.c (.nils)), [], [], 0, 0, []⟩, ⟨(some 3), none, .mv (.t 13), [], [], 0, 0, [13]⟩]) (
 .ret)) (.skip))) (
 .seq (.reg [⟨(some 5), none, .mv (.c (.nils)), [], [(0, 4)], 0, 0, []⟩]) (
 .seq (.seq (.reg [o 6 (.mv (.c (.int .i64 0)))]) (
 .block 0 (.loop (some [1, 5, 6]) b17x0))) (
 .seq (.reg [o 31 (.mv (.t 5)), ⟨(some 2), none, .mv (.t 31), [.freeze 31 none 4], [], 0, 0, []⟩, o 3 (.mv (.c (.int .i64 0)))]) (
 .ret))))))⟩
theorem q17 : table Try.prog A0 17 = some c17 := by kernel_rfl

/-! mortise/mortiseref13.Of -/
def b18x3 : CC := .seq (.seq (.reg [o 41 (.mv (.t 11)), o 42 (.faddr 3 (.t 9)), o 43 (.load false 1 (.t 42)), o 44 (.len .sl (.t 43)), o 45 (.bin .lss .no (.t 41) (.t 44))]) (
 .cond (.t 45) (.skip) (.exit 3))) (
 .seq (.block 4 (.seq (.drw [⟨(some 48), none, .mv (.t 5), [], [], 0, 0, [5]⟩, ⟨(some 49), none, .faddr 3 (.t 9), [], [], 0, 0, [9]⟩, ⟨(some 50), none, .load false 1 (.t 49), [], [], 0, 0, [49]⟩, ⟨(some 51), none, .mv (.t 11), [], [], 0, 0, [11]⟩, ⟨(some 52), none, .iaddr 3 (.t 50) (.t 51), [], [], 0, 0, [50, 51]⟩, ⟨(some 53), none, .faddr 2 (.t 52), [], [], 0, 0, [52]⟩, ⟨(some 54), none, .load false 1 (.t 53), [], [], 0, 0, [53]⟩, ⟨(some 55), none, .iaddr 4 (.t 48) (.t 54), [], [], 0, 0, [48, 54]⟩, ⟨(some 56), none, .load true 4 (.t 55), [], [], 0, 0, [55]⟩, ⟨(some 57), none, .faddr 0 (.t 10), [], [], 0, 0, [10]⟩, ⟨(some 58), none, .load false 1 (.t 57), [], [], 0, 0, [57]⟩, ⟨(some 59), none, .call (.c (.fn 35 [])) [.t 56, .t 58], [], [], 0, 1, [56, 58]⟩, ⟨(some 12), none, .alloc [.int .i64 0, .bool false, .int .i64 0], [], [], 0, 1, []⟩, ⟨none, none, .store 3 (.t 12) (.t 59), [], [], 1, 2, [12, 59]⟩]) (
 .seq (.reg [o 60 (.faddr 1 (.t 10)), o 61 (.load false 1 (.t 60)), o 62 (.load true 3 (.t 12)), o 63 (.bslice [.int .i64 0, .bool false, .int .i64 0] 1 [(0, (.t 62))]), o 64 (.append 3 24 false (.t 61) (.t 63)), o 65 (.faddr 1 (.t 10)), x (.store 1 (.t 65) (.t 64))]) (
 .reg [o 66 (.faddr 0 (.t 10)), o 67 (.load false 1 (.t 66)), o 68 (.faddr 2 (.t 12)), o 69 (.load false 1 (.t 68)), o 70 (.call (.c (.fn 36 [])) [.t 67, .t 69]), o 71 (.faddr 0 (.t 10)), x (.store 1 (.t 71) (.t 70))])))) (
 .reg [o 46 (.mv (.t 11)), o 47 (.bin .add .no (.t 46) (.c (.int .i64 1))), o 11 (.mv (.t 47))]))
def b18x0 : CC := .seq (.seq (.reg [o 24 (.mv (.t 8)), o 25 (.faddr 0 (.t 1)), o 26 (.load false 1 (.t 25)), o 27 (.len .sl (.t 26)), o 28 (.bin .lss .no (.t 24) (.t 27))]) (
 .cond (.t 28) (.skip) (.exit 0))) (
 .seq (.block 1 (.seq (.reg [o 31 (.faddr 0 (.t 1)), o 32 (.load false 1 (.t 31)), o 33 (.mv (.t 8)), o 34 (.iaddr 4 (.t 32) (.t 33)), o 35 (.load true 4 (.t 34)), o 9 (.alloc [.int .i64 0, .int .i64 0, .int .i64 0, .nils]), x (.store 4 (.t 9) (.t 35))]) (
 .seq (.reg [⟨(some 36), none, .build [.int .i64 0, .nils] [], [], [(1, 3)], 0, 0, []⟩, o 10 (.alloc [.int .i64 0, .nils]), x (.store 2 (.t 10) (.t 36))]) (
 .seq (.seq (.reg [o 37 (.faddr 0 (.t 9)), o 38 (.load false 1 (.t 37))]) (
 .block 2 (.seq (.reg [o 40 (.bin .eql .no (.t 38) (.c (.int .i64 8))), o 39 (.mv (.t 40))]) (
 .cond (.t 39) (.seq (.reg [o 11 (.mv (.c (.int .i64 0)))]) (
 .block 3 (.loop (some [1, 5, 7, 8, 9, 10, 11]) b18x3))) (.seq (.reg [o 73 (.bin .eql .no (.t 38) (.c (.int .i64 4))), o 72 (.mv (.t 73))]) (
 .cond (.t 72) (.seq (.reg [o 74 (.mv (.t 5)), o 75 (.faddr 2 (.t 9)), o 76 (.load false 1 (.t 75)), o 77 (.iaddr 4 (.t 74) (.t 76)), o 78 (.load true 4 (.t 77)), o 79 (.call (.c (.fn 35 [])) [.t 78, .c (.int .i64 0)]), o 13 (.alloc [.int .i64 0, .bool false, .int .i64 0]), x (.store 3 (.t 13) (.t 79))]) (
 .seq (.reg [o 80 (.faddr 1 (.t 10)), o 81 (.load false 1 (.t 80)), o 82 (.load true 3 (.t 13)), o 83 (.bslice [.int .i64 0, .bool false, .int .i64 0] 1 [(0, (.t 82))]), o 84 (.append 3 24 false (.t 81) (.t 83)), o 85 (.faddr 1 (.t 10)), x (.store 1 (.t 85) (.t 84))]) (
 .reg [o 86 (.faddr 1 (.t 9)), o 87 (.load false 1 (.t 86)), o 88 (.faddr 2 (.t 13)), o 89 (.load false 1 (.t 88)), o 90 (.call (.c (.fn 37 [])) [.t 87, .t 89]), o 91 (.faddr 0 (.t 10)), x (.store 1 (.t 91) (.t 90))]))) (.seq (.reg [o 93 (.bin .eql .no (.t 38) (.c (.int .i64 5))), o 92 (.mv (.t 93))]) (
 .cond (.t 92) (.drw [⟨(some 94), none, .faddr 1 (.t 10), [], [], 0, 1, [10]⟩, ⟨(some 95), none, .load false 1 (.t 94), [], [], 0, 1, [94]⟩, ⟨(some 96), none, .mv (.t 5), [], [], 0, 0, [5]⟩, ⟨(some 97), none, .faddr 2 (.t 9), [], [], 0, 0, [9]⟩, ⟨(some 98), none, .load false 1 (.t 97), [], [], 0, 0, [97]⟩, ⟨(some 99), none, .iaddr 4 (.t 96) (.t 98), [], [], 0, 0, [96, 98]⟩, ⟨(some 100), none, .load true 4 (.t 99), [], [], 0, 0, [99]⟩, ⟨(some 101), none, .call (.c (.fn 35 [])) [.t 100, .c (.int .i64 0)], [], [], 0, 1, [100]⟩, ⟨(some 102), none, .bslice [.int .i64 0, .bool false, .int .i64 0] 1 [(0, (.t 101))], [], [], 1, 1, [101]⟩, ⟨(some 103), none, .append 3 24 false (.t 95) (.t 102), [], [], 1, 2, [95, 102]⟩, ⟨(some 104), none, .faddr 1 (.t 10), [], [], 2, 2, [10]⟩, ⟨none, none, .store 1 (.t 104) (.t 103), [], [], 2, 3, [104, 103]⟩]) (.skip))))))))) (
 .reg [o 105 (.mv (.t 7)), o 106 (.load true 2 (.t 10)), ⟨(some 107), none, .bslice [.int .i64 0, .nils] 1 [(0, (.t 106))], [.freeze 106 (some 1) 3], [], 0, 0, []⟩, o 108 (.append 2 32 false (.t 105) (.t 107)), o 7 (.mv (.t 108))]))))) (
 .reg [o 29 (.mv (.t 8)), o 30 (.bin .add .no (.t 29) (.c (.int .i64 1))), o 8 (.mv (.t 30))]))
def c18 : CFn := ⟨110, [.t 2, .t 3], .seq (.reg [o 1 (.box 2 (.t 0)), o 2 (.mv (.c (.nils))), o 3 (.mv (.c (.int .i64 0)))]) (
 .seq (.reg [o 14 (.load true 2 (.t 1)), o 15 (.call (.c (.fn 16 [])) [.t 14]), o 4 (.alloc [.int .i64 0, .int .i64 0]), x (.store 2 (.t 4) (.t 15))]) (
 .seq (.seq (.reg [o 16 (.faddr 0 (.t 4)), o 17 (.load false 1 (.t 16)), o 18 (.bin .neq .no (.t 17) (.c (.int .i64 0)))]) (
 .cond (.t 18) (.seq (.reg [o 2 (.mv (.c (.nils))), o 3 (.mv (.c (.int .i64 92)))]) (
 .ret)) (.skip))) (
 .seq (.reg [o 20 (.load true 2 (.t 1)), o 21 (.call (.c (.fn 17 [])) [.t 20]), o 19 (.mv (.t 21)), o 22 (.extr (.t 19) 0), o 23 (.extr (.t 19) 1), o 5 (.mv (.t 22)), o 6 (.mv (.t 23))]) (
 .seq (.reg [⟨(some 7), none, .mv (.c (.nils)), [], [(0, 2)], 0, 0, []⟩]) (
 .seq (.seq (.reg [o 8 (.mv (.c (.int .i64 0)))]) (
 .block 0 (.loop (some [1, 5, 7, 8]) b18x0))) (
 .seq (.reg [o 109 (.mv (.t 7)), ⟨(some 2), none, .mv (.t 109), [.freeze 109 none 2], [], 0, 0, []⟩, o 3 (.mv (.c (.int .i64 0)))]) (
 .ret)))))))⟩
theorem q18 : table Try.prog A0 18 = some c18 := by kernel_rfl

/-! (*mortise/mortiseref17.maker).routine -/
def b19x1 : CC := .seq (.seq (.reg [o 80 (.mv (.t 7)), o 81 (.mv (.t 5)), o 82 (.bin .lss .no (.t 80) (.t 81))]) (
 .cond (.t 82) (.skip) (.exit 1))) (
 .seq (.block 2 (.reg [o 85 (.mv (.t 0)), o 86 (.faddr 3 (.t 4)), o 87 (.load false 1 (.t 86)), o 88 (.mv (.t 7)), o 89 (.iaddr 3 (.t 87) (.t 88)), o 90 (.faddr 1 (.t 89)), o 91 (.load false 1 (.t 90)), o 92 (.mv (.t 6)), o 93 (.mv (.t 7)), o 94 (.bin .mul .no (.c (.int .i64 2)) (.t 93)), o 95 (.bin .add .no (.t 92) (.t 94)), o 96 (.call (.c (.fn 38 [])) [.t 85, .c (.int .i64 9), .t 91, .t 95, .c (.int .i64 0)])])) (
 .reg [o 83 (.mv (.t 7)), o 84 (.bin .add .no (.t 83) (.c (.int .i64 1))), o 7 (.mv (.t 84))]))
def b19x3 : CC := .seq (.seq (.reg [o 97 (.mv (.t 8)), o 98 (.mv (.t 5)), o 99 (.bin .lss .no (.t 97) (.t 98))]) (
 .cond (.t 99) (.skip) (.exit 3))) (
 .seq (.block 4 (.seq (.reg [o 102 (.mv (.t 0)), o 103 (.faddr 3 (.t 4)), o 104 (.load false 1 (.t 103)), o 105 (.mv (.t 8)), o 106 (.iaddr 3 (.t 104) (.t 105)), o 107 (.faddr 2 (.t 106)), o 108 (.load false 1 (.t 107)), o 109 (.call (.c (.fn 38 [])) [.t 102, .c (.int .i64 46), .c (.int .i64 0), .c (.int .i64 0), .t 108])]) (
 .reg [o 110 (.mv (.t 0)), o 111 (.call (.c (.fn 38 [])) [.t 110, .c (.int .i64 20), .c (.int .i64 0), .c (.int .i64 0), .c (.int .i64 0)])]))) (
 .reg [o 100 (.mv (.t 8)), o 101 (.bin .add .no (.t 100) (.c (.int .i64 1))), o 8 (.mv (.t 101))]))
def b19x5 : CC := .seq (.seq (.reg [o 138 (.mv (.t 9)), o 139 (.faddr 3 (.t 4)), o 140 (.load false 1 (.t 139)), o 141 (.len .sl (.t 140)), o 142 (.bin .lss .no (.t 138) (.t 141))]) (
 .cond (.t 142) (.skip) (.exit 5))) (
 .seq (.block 6 (.seq (.reg [o 145 (.mv (.t 0)), o 146 (.nilchk (.t 145)), o 147 (.faddr 3 (.t 146)), o 148 (.load false 1 (.t 147)), o 149 (.mv (.t 1)), o 150 (.iaddr 2 (.t 148) (.t 149)), o 151 (.faddr 1 (.t 150)), o 152 (.load false 1 (.t 151)), o 153 (.mv (.t 9)), o 154 (.iaddr 3 (.t 152) (.t 153)), o 155 (.load true 3 (.t 154)), o 10 (.alloc [.int .i64 0, .bool false, .int .i64 0]), x (.store 3 (.t 10) (.t 155))]) (
 .seq (.seq (.reg [o 156 (.faddr 1 (.t 10)), o 157 (.load false 1 (.t 156)), o 158 (.una .not (.t 157))]) (
 .cond (.t 158) (.seq (.drw [⟨(some 159), none, .mv (.t 0), [], [], 0, 0, [0]⟩, ⟨(some 160), none, .faddr 3 (.t 4), [], [], 0, 0, [4]⟩, ⟨(some 161), none, .load false 1 (.t 160), [], [], 0, 0, [160]⟩, ⟨(some 162), none, .mv (.t 9), [], [], 0, 0, [9]⟩, ⟨(some 163), none, .iaddr 3 (.t 161) (.t 162), [], [], 0, 0, [161, 162]⟩, ⟨(some 164), none, .faddr 2 (.t 163), [], [], 0, 0, [163]⟩, ⟨(some 165), none, .load false 1 (.t 164), [], [], 0, 0, [164]⟩, ⟨(some 166), none, .faddr 0 (.t 10), [], [], 0, 0, [10]⟩, ⟨(some 167), none, .load false 1 (.t 166), [], [], 0, 0, [166]⟩, ⟨(some 168), none, .call (.c (.fn 40 [])) [.t 159, .t 165, .t 167], [], [], 0, 1, [159, 165, 167]⟩]) (
 .exit 6)) (.skip))) (
 .seq (.reg [o 169 (.mv (.t 0)), o 170 (.faddr 0 (.t 10)), o 171 (.load false 1 (.t 170)), o 172 (.call (.c (.fn 38 [])) [.t 169, .c (.int .i64 43), .t 171, .c (.int .i64 0), .c (.int .i64 0)])]) (
 .reg [o 173 (.mv (.t 0)), o 174 (.faddr 3 (.t 4)), o 175 (.load false 1 (.t 174)), o 176 (.mv (.t 9)), o 177 (.iaddr 3 (.t 175) (.t 176)), o 178 (.faddr 2 (.t 177)), o 179 (.load false 1 (.t 178)), o 180 (.call (.c (.fn 38 [])) [.t 173, .c (.int .i64 46), .c (.int .i64 0), .c (.int .i64 0), .t 179])]))))) (
 .reg [o 143 (.mv (.t 9)), o 144 (.bin .add .no (.t 143) (.c (.int .i64 1))), o 9 (.mv (.t 144))]))
def c19 : CFn := ⟨183, [], .seq (.reg [o 11 (.mv (.t 0)), o 12 (.nilchk (.t 11)), o 13 (.faddr 0 (.t 12)), o 14 (.faddr 0 (.t 13)), o 15 (.load false 1 (.t 14)), o 16 (.mv (.t 1)), o 17 (.iaddr 4 (.t 15) (.t 16)), o 18 (.load true 4 (.t 17)), o 4 (.alloc [.int .i64 0, .int .i64 0, .int .i64 0, .nils]), x (.store 4 (.t 4) (.t 18))]) (
 .seq (.reg [o 19 (.faddr 0 (.t 4)), o 20 (.load false 1 (.t 19))]) (
 .block 0 (.seq (.reg [o 22 (.bin .eql .no (.t 20) (.c (.int .i64 1))), o 21 (.mv (.t 22))]) (
 .cond (.t 21) (.seq (.reg [o 23 (.mv (.t 0)), o 24 (.faddr 1 (.t 4)), o 25 (.load false 1 (.t 24)), o 26 (.call (.c (.fn 38 [])) [.t 23, .c (.int .i64 33), .c (.int .i64 0), .t 25, .c (.int .i64 0)])]) (
 .reg [o 27 (.mv (.t 0)), o 28 (.call (.c (.fn 38 [])) [.t 27, .c (.int .i64 20), .c (.int .i64 0), .c (.int .i64 0), .c (.int .i64 0)])])) (.seq (.reg [o 30 (.bin .eql .no (.t 20) (.c (.int .i64 2))), o 29 (.mv (.t 30))]) (
 .cond (.t 29) (.seq (.reg [o 31 (.mv (.t 0)), o 32 (.call (.c (.fn 38 [])) [.t 31, .c (.int .i64 35), .c (.int .i64 0), .c (.int .i64 0), .c (.int .i64 0)])]) (
 .reg [o 33 (.mv (.t 0)), o 34 (.call (.c (.fn 38 [])) [.t 33, .c (.int .i64 20), .c (.int .i64 0), .c (.int .i64 0), .c (.int .i64 0)])])) (.seq (.reg [o 36 (.bin .eql .no (.t 20) (.c (.int .i64 3))), o 35 (.mv (.t 36))]) (
 .cond (.t 35) (.seq (.reg [o 37 (.mv (.t 0)), o 38 (.call (.c (.fn 38 [])) [.t 37, .c (.int .i64 36), .c (.int .i64 0), .c (.int .i64 0), .c (.int .i64 0)])]) (
 .reg [o 39 (.mv (.t 0)), o 40 (.call (.c (.fn 38 [])) [.t 39, .c (.int .i64 20), .c (.int .i64 0), .c (.int .i64 0), .c (.int .i64 0)])])) (.seq (.seq (.reg [o 42 (.bin .eql .no (.t 20) (.c (.int .i64 4))), o 41 (.mv (.t 42))]) (
 .cond (.t 41) (.skip) (.reg [o 43 (.bin .eql .no (.t 20) (.c (.int .i64 5))), o 41 (.mv (.t 43))]))) (
 .cond (.t 41) (.reg [o 44 (.mv (.t 0)), o 45 (.load true 4 (.t 4)), o 46 (.call (.c (.fn 39 [])) [.t 44, .t 45])]) (.seq (.reg [o 48 (.bin .eql .no (.t 20) (.c (.int .i64 6))), o 47 (.mv (.t 48))]) (
 .cond (.t 47) (.seq (.reg [o 49 (.mv (.t 0)), o 50 (.mv (.t 0)), o 51 (.nilchk (.t 50)), o 52 (.faddr 4 (.t 51)), o 53 (.faddr 1 (.t 52)), o 54 (.load false 1 (.t 53)), o 55 (.len .sl (.t 54)), o 56 (.bin .add .no (.t 55) (.c (.int .i64 2))), o 57 (.call (.c (.fn 38 [])) [.t 49, .c (.int .i64 40), .c (.int .i64 0), .t 56, .c (.int .i64 0)])]) (
 .seq (.reg [o 58 (.mv (.t 0)), o 59 (.faddr 2 (.t 4)), o 60 (.load false 1 (.t 59)), o 61 (.call (.c (.fn 38 [])) [.t 58, .c (.int .i64 46), .c (.int .i64 0), .c (.int .i64 0), .t 60])]) (
 .reg [o 62 (.mv (.t 0)), o 63 (.call (.c (.fn 38 [])) [.t 62, .c (.int .i64 20), .c (.int .i64 0), .c (.int .i64 0), .c (.int .i64 0)])]))) (.seq (.reg [o 65 (.bin .eql .no (.t 20) (.c (.int .i64 7))), o 64 (.mv (.t 65))]) (
 .cond (.t 64) (.seq (.reg [o 66 (.faddr 3 (.t 4)), o 67 (.load false 1 (.t 66)), o 68 (.len .sl (.t 67)), o 5 (.mv (.t 68))]) (
 .seq (.reg [o 69 (.mv (.t 0)), o 70 (.mv (.t 5)), o 71 (.call (.c (.fn 38 [])) [.t 69, .c (.int .i64 41), .t 70, .c (.int .i64 0), .c (.int .i64 0)])]) (
 .seq (.reg [o 72 (.mv (.t 0)), o 73 (.nilchk (.t 72)), o 74 (.faddr 4 (.t 73)), o 75 (.faddr 1 (.t 74)), o 76 (.load false 1 (.t 75)), o 77 (.len .sl (.t 76)), o 78 (.mv (.t 5)), o 79 (.bin .add .no (.t 77) (.t 78)), o 6 (.mv (.t 79))]) (
 .seq (.seq (.reg [o 7 (.mv (.c (.int .i64 0)))]) (
 .block 1 (.loop (some [0, 4, 5, 6, 7]) b19x1))) (
 .seq (.reg [o 8 (.mv (.c (.int .i64 0)))]) (
 .block 3 (.loop (some [0, 4, 5, 8]) b19x3))))))) (.seq (.reg [o 113 (.bin .eql .no (.t 20) (.c (.int .i64 8))), o 112 (.mv (.t 113))]) (
 .cond (.t 112) (.seq (.reg [o 114 (.mv (.t 0)), o 115 (.faddr 3 (.t 4)), o 116 (.load false 1 (.t 115)), o 117 (.len .sl (.t 116)), o 118 (.call (.c (.fn 38 [])) [.t 114, .c (.int .i64 39), .t 117, .c (.int .i64 0), .c (.int .i64 0)])]) (
 .seq (.seq (.reg [o 119 (.mv (.t 0)), o 120 (.nilchk (.t 119)), o 121 (.faddr 2 (.t 120)), o 122 (.load false 1 (.t 121)), o 123 (.mv (.t 1)), o 124 (.iaddr 4 (.t 122) (.t 123)), o 125 (.faddr 0 (.t 124)), o 126 (.load false 1 (.t 125)), o 127 (.una .not (.t 126))]) (
 .cond (.t 127) (.reg [o 128 (.mv (.t 0)), o 129 (.mv (.t 0)), o 130 (.nilchk (.t 129)), o 131 (.faddr 3 (.t 130)), o 132 (.load false 1 (.t 131)), o 133 (.mv (.t 1)), o 134 (.iaddr 2 (.t 132) (.t 133)), o 135 (.faddr 0 (.t 134)), o 136 (.load false 1 (.t 135)), o 137 (.call (.c (.fn 38 [])) [.t 128, .c (.int .i64 42), .t 136, .c (.int .i64 0), .c (.int .i64 0)])]) (.skip))) (
 .seq (.seq (.reg [o 9 (.mv (.c (.int .i64 0)))]) (
 .block 5 (.loop (some [0, 1, 4, 9]) b19x5))) (
 .reg [o 181 (.mv (.t 0)), o 182 (.call (.c (.fn 38 [])) [.t 181, .c (.int .i64 20), .c (.int .i64 0), .c (.int .i64 0), .c (.int .i64 0)])])))) (.skip)))))))))))))))))⟩
theorem q19 : table Try.prog A0 19 = some c19 := by kernel_rfl

/-! mortise/types.right -/
def c20 : CFn := ⟨67, [.t 4], .seq (.reg [o 2 (.box 4 (.t 0)), o 4 (.mv (.c (.bool false)))]) (
 .seq (.seq (.reg [o 6 (.faddr 0 (.t 2)), o 7 (.load false 1 (.t 6)), o 8 (.faddr 1 (.t 2)), o 9 (.load false 1 (.t 8)), o 10 (.call (.c (.fn 41 [])) [.t 7, .t 9]), o 11 (.una .not (.t 10))]) (
 .cond (.t 11) (.seq (.reg [o 4 (.mv (.c (.bool false)))]) (
 .ret)) (.skip))) (
 .seq (.reg [o 12 (.faddr 2 (.t 2)), o 13 (.load false 1 (.t 12)), o 14 (.bin .geq .no (.t 13) (.c (.int .i64 0))), o 15 (.mv (.t 14)), g (some 16) 15 true (.faddr 2 (.t 2)), g (some 17) 15 true (.load false 1 (.t 16)), g (some 18) 15 true (.mv (.t 1)), g (some 19) 15 true (.bin .lss .no (.t 17) (.t 18)), o 20 (.pick (.t 15) (.t 19) (.c (.bool false))), o 5 (.mv (.t 20))]) (
 .seq (.seq (.reg [o 21 (.faddr 0 (.t 2)), o 22 (.load false 1 (.t 21))]) (
 .block 0 (.seq (.seq (.reg [o 24 (.bin .eql .no (.t 22) (.c (.int .i64 1))), o 23 (.mv (.t 24))]) (
 .cond (.t 23) (.skip) (.seq (.reg [o 25 (.bin .eql .no (.t 22) (.c (.int .i64 2))), o 23 (.mv (.t 25))]) (
 .cond (.t 23) (.skip) (.reg [o 26 (.bin .eql .no (.t 22) (.c (.int .i64 3))), o 23 (.mv (.t 26))]))))) (
 .cond (.t 23) (.seq (.reg [o 27 (.faddr 2 (.t 2)), o 28 (.load false 1 (.t 27)), o 29 (.bin .eql .no (.t 28) (.c (.int .i64 0))), o 30 (.mv (.t 29)), g (some 31) 30 true (.faddr 3 (.t 2)), g (some 32) 30 true (.load false 1 (.t 31)), g (some 33) 30 true (.len .sl (.t 32)), g (some 34) 30 true (.bin .eql .no (.t 33) (.c (.int .i64 0))), o 35 (.pick (.t 30) (.t 34) (.c (.bool false))), o 4 (.mv (.t 35))]) (
 .ret)) (.seq (.seq (.reg [o 37 (.bin .eql .no (.t 22) (.c (.int .i64 4))), o 36 (.mv (.t 37))]) (
 .cond (.t 36) (.skip) (.seq (.reg [o 38 (.bin .eql .no (.t 22) (.c (.int .i64 5))), o 36 (.mv (.t 38))]) (
 .cond (.t 36) (.skip) (.reg [o 39 (.bin .eql .no (.t 22) (.c (.int .i64 6))), o 36 (.mv (.t 39))]))))) (
 .cond (.t 36) (.seq (.reg [o 40 (.mv (.t 5)), o 41 (.mv (.t 40)), g (some 42) 41 true (.faddr 3 (.t 2)), g (some 43) 41 true (.load false 1 (.t 42)), g (some 44) 41 true (.len .sl (.t 43)), g (some 45) 41 true (.bin .eql .no (.t 44) (.c (.int .i64 0))), o 46 (.pick (.t 41) (.t 45) (.c (.bool false))), o 4 (.mv (.t 46))]) (
 .ret)) (.seq (.reg [o 48 (.bin .eql .no (.t 22) (.c (.int .i64 8))), o 47 (.mv (.t 48))]) (
 .cond (.t 47) (.seq (.reg [o 49 (.faddr 2 (.t 2)), o 50 (.load false 1 (.t 49)), o 51 (.bin .eql .no (.t 50) (.c (.int .i64 0))), o 52 (.mv (.t 51)), g (some 53) 52 true (.load true 4 (.t 2)), g (some 54) 52 true (.mv (.t 1)), g (some 55) 52 true (.call (.c (.fn 42 [])) [.t 53, .t 54, .c (.int .i64 64)]), o 56 (.pick (.t 52) (.t 55) (.c (.bool false))), o 4 (.mv (.t 56))]) (
 .ret)) (.seq (.reg [o 58 (.bin .eql .no (.t 22) (.c (.int .i64 7))), o 57 (.mv (.t 58))]) (
 .cond (.t 57) (.seq (.reg [o 59 (.faddr 2 (.t 2)), o 60 (.load false 1 (.t 59)), o 61 (.bin .eql .no (.t 60) (.c (.int .i64 0))), o 62 (.mv (.t 61)), g (some 63) 62 true (.load true 4 (.t 2)), g (some 64) 62 true (.mv (.t 1)), g (some 65) 62 true (.call (.c (.fn 42 [])) [.t 63, .t 64, .c (.int .i64 64)]), o 66 (.pick (.t 62) (.t 65) (.c (.bool false))), o 4 (.mv (.t 66))]) (
 .ret)) (.skip))))))))))) (
 .seq (.reg [o 4 (.mv (.c (.bool false)))]) (
 .ret)))))⟩
theorem q20 : table Try.prog A0 20 = some c20 := by kernel_rfl

/-! mortise/types.deep -/
def b21x3 : CC := .seq (.reg [o 36 (.bin .lss .no (.t 35) (.t 34))]) (
 .seq (.cond (.t 36) (.skip) (.exit 3)) (
 .seq (.block 4 (.seq (.reg [o 37 (.iaddr 3 (.t 33) (.t 35)), o 38 (.load true 3 (.t 37)), o 7 (.alloc [.str [], .int .i64 0, .int .i64 0]), x (.store 3 (.t 7) (.t 38))]) (
 .drw [⟨(some 39), none, .mv (.t 3), [], [], 0, 0, [3]⟩, ⟨(some 40), none, .mv (.t 4), [], [], 0, 0, [4]⟩, ⟨(some 41), none, .mv (.t 3), [], [], 0, 0, [3]⟩, ⟨(some 42), none, .mv (.t 4), [], [], 0, 0, [4]⟩, ⟨(some 43), none, .iaddr 1 (.t 41) (.t 42), [], [], 0, 0, [41, 42]⟩, ⟨(some 44), none, .load false 1 (.t 43), [], [], 0, 0, [43]⟩, ⟨(some 45), none, .mv (.t 3), [], [], 0, 0, [3]⟩, ⟨(some 46), none, .faddr 2 (.t 7), [], [], 0, 0, [7]⟩, ⟨(some 47), none, .load false 1 (.t 46), [], [], 0, 0, [46]⟩, ⟨(some 48), none, .iaddr 1 (.t 45) (.t 47), [], [], 0, 0, [45, 47]⟩, ⟨(some 49), none, .load false 1 (.t 48), [], [], 0, 0, [48]⟩, ⟨(some 50), none, .max [.t 44, .t 49], [], [], 0, 0, [44, 49]⟩, ⟨(some 51), none, .iaddr 1 (.t 39) (.t 40), [], [], 0, 0, [39, 40]⟩, ⟨none, none, .store 1 (.t 51) (.t 50), [], [], 0, 1, [51, 50]⟩]))) (
 .reg [o 52 (.bin .add .no (.t 35) (.c (.int .i64 1))), o 35 (.mv (.t 52))])))
def b21x0 : CC := .seq (.reg [o 14 (.bin .lss .no (.t 13) (.t 12))]) (
 .seq (.cond (.t 14) (.skip) (.exit 0)) (
 .seq (.block 1 (.seq (.reg [o 15 (.mv (.t 13)), o 16 (.iaddr 4 (.t 11) (.t 13)), o 17 (.load true 4 (.t 16)), o 5 (.alloc [.int .i64 0, .int .i64 0, .int .i64 0, .nils]), o 4 (.mv (.t 15)), x (.store 4 (.t 5) (.t 17))]) (
 .seq (.seq (.reg [o 18 (.faddr 0 (.t 5)), o 19 (.load false 1 (.t 18))]) (
 .block 2 (.seq (.seq (.reg [o 21 (.bin .eql .no (.t 19) (.c (.int .i64 4))), o 20 (.mv (.t 21))]) (
 .cond (.t 20) (.skip) (.seq (.reg [o 22 (.bin .eql .no (.t 19) (.c (.int .i64 5))), o 20 (.mv (.t 22))]) (
 .cond (.t 20) (.skip) (.reg [o 23 (.bin .eql .no (.t 19) (.c (.int .i64 6))), o 20 (.mv (.t 23))]))))) (
 .cond (.t 20) (.reg [o 24 (.mv (.t 3)), o 25 (.mv (.t 4)), o 26 (.mv (.t 3)), o 27 (.faddr 2 (.t 5)), o 28 (.load false 1 (.t 27)), o 29 (.iaddr 1 (.t 26) (.t 28)), o 30 (.load false 1 (.t 29)), o 31 (.iaddr 1 (.t 24) (.t 25)), x (.store 1 (.t 31) (.t 30))]) (.skip))))) (
 .seq (.seq (.reg [o 32 (.faddr 3 (.t 5)), o 33 (.load false 1 (.t 32)), o 34 (.len .sl (.t 33)), o 35 (.mv (.c (.int .i64 0)))]) (
 .block 3 (.loop (some [2, 3, 4, 11, 12, 13, 33, 34, 35]) b21x3))) (
 .seq (.reg [o 53 (.mv (.t 3)), o 54 (.mv (.t 4)), o 55 (.iaddr 1 (.t 53) (.t 54)), o 56 (.load false 1 (.t 55)), o 57 (.bin .add .no (.t 56) (.c (.int .i64 1))), o 58 (.iaddr 1 (.t 53) (.t 54)), x (.store 1 (.t 58) (.t 57))]) (
 .seq (.reg [o 59 (.mv (.t 3)), o 60 (.mv (.t 4)), o 61 (.iaddr 1 (.t 59) (.t 60)), o 62 (.load false 1 (.t 61)), o 63 (.bin .gtr .no (.t 62) (.c (.int .i64 64)))]) (
 .cond (.t 63) (.seq (.reg [o 64 (.mv (.t 4)), o 65 (.build [.int .i64 0, .int .i64 0] [(0, 1, (.c (.int .i64 83))), (1, 1, (.t 64))]), x (.store 2 (.t 2) (.t 65))]) (
 .ret)) (.skip)))))))) (
 .reg [o 66 (.bin .add .no (.t 13) (.c (.int .i64 1))), o 13 (.mv (.t 66))])))
def c21 : CFn := ⟨68, [.cell 2 true 2], .seq (.reg [o 2 (.alloc [.int .i64 0, .int .i64 0])]) (
 .seq (.reg [o 8 (.mv (.t 0)), o 9 (.len .sl (.t 8)), o 10 (.mkslice [.int .i64 0] 8 (.t 9) (.t 9)), o 3 (.mv (.t 10))]) (
 .seq (.seq (.reg [o 11 (.mv (.t 0)), o 12 (.len .sl (.t 11)), o 13 (.mv (.c (.int .i64 0)))]) (
 .block 0 (.loop (some [2, 3, 11, 12, 13]) b21x0))) (
 .seq (.reg [o 67 (.build [.int .i64 0, .int .i64 0] []), x (.store 2 (.t 2) (.t 67))]) (
 .ret))))⟩
theorem q21 : table Try.prog A0 21 = some c21 := by kernel_rfl

/-! mortise/tokens.Name -/
def c22 : CFn := ⟨27, [.t 2], .seq (.reg [o 2 (.mv (.c (.bool false)))]) (
 .seq (.reg [o 3 (.mv (.t 0)), o 4 (.bin .neq .no (.t 3) (.c (.str []))), o 5 (.mv (.t 4)), g (some 6) 5 true (.mv (.t 0)), g (some 7) 5 true (.len .str (.t 6)), g (some 8) 5 true (.bin .leq .no (.t 7) (.c (.int .i64 32))), o 9 (.pick (.t 5) (.t 8) (.c (.bool false))), o 10 (.mv (.t 9)), g (some 11) 10 true (.mv (.t 0)), g (some 12) 10 true (.index (.t 11) (.c (.int .i64 0))), g (some 13) 10 true (.call (.c (.fn 43 [])) [.t 12]), o 14 (.pick (.t 10) (.t 13) (.c (.bool false))), o 15 (.mv (.t 14)), g (some 16) 15 true (.mv (.t 0)), g (some 17) 15 true (.call (.c (.fn 44 [])) [.t 16, .c (.int .i64 0), .c (.fn 45 [])]), g (some 18) 15 true (.mv (.t 0)), g (some 19) 15 true (.len .str (.t 18)), g (some 20) 15 true (.bin .eql .no (.t 17) (.t 19)), o 21 (.pick (.t 15) (.t 20) (.c (.bool false))), o 22 (.mv (.t 21)), g (some 23) 22 true (.mv (.t 0)), g (some 24) 22 true (.call (.c (.fn 46 [])) [.t 23]), g (some 25) 22 true (.una .not (.t 24)), o 26 (.pick (.t 22) (.t 25) (.c (.bool false))), o 2 (.mv (.t 26))]) (
 .ret))⟩
theorem q22 : table Try.prog A0 22 = some c22 := by kernel_rfl

/-! mortise/size.extent -/
def b23x9 : CC := .seq (.reg [o 99 (.bin .lss .no (.t 98) (.t 97))]) (
 .seq (.cond (.t 99) (.skip) (.exit 9)) (
 .seq (.block 10 (.seq (.reg [o 100 (.iaddr 3 (.t 96) (.t 98)), o 101 (.load true 3 (.t 100)), o 11 (.alloc [.str [], .int .i64 0, .int .i64 0]), x (.store 3 (.t 11) (.t 101))]) (
 .seq (.reg [o 102 (.mv (.t 1)), o 103 (.faddr 2 (.t 11)), o 104 (.load false 1 (.t 103)), o 105 (.iaddr 4 (.t 102) (.t 104)), o 106 (.load true 4 (.t 105)), o 12 (.alloc [.bool false, .int .i64 0, .int .i64 0, .int .i64 0]), x (.store 4 (.t 12) (.t 106))]) (
 .seq (.reg [o 107 (.mv (.t 9)), o 108 (.faddr 1 (.t 12)), o 109 (.load false 1 (.t 108)), o 110 (.min [.t 107, .t 109]), o 9 (.mv (.t 110))]) (
 .drw [⟨(some 111), none, .faddr 2 (.t 5), [], [], 0, 1, [5]⟩, ⟨(some 112), none, .load false 1 (.t 111), [], [], 0, 1, [111]⟩, ⟨(some 113), none, .faddr 2 (.t 12), [], [], 0, 0, [12]⟩, ⟨(some 114), none, .load false 1 (.t 113), [], [], 0, 0, [113]⟩, ⟨(some 115), none, .bslice [.int .i64 0] 2 [(0, (.c (.int .i64 1))), (1, (.t 114))], [], [], 0, 0, [114]⟩, ⟨(some 116), none, .call (.c (.fn 49 [])) [.t 115], [], [], 0, 1, [115]⟩, ⟨(some 117), none, .max [.t 112, .t 116], [], [], 1, 1, [112, 116]⟩, ⟨(some 118), none, .faddr 3 (.t 5), [], [], 0, 1, [5]⟩, ⟨(some 119), none, .load false 1 (.t 118), [], [], 0, 1, [118]⟩, ⟨(some 120), none, .faddr 3 (.t 12), [], [], 0, 2, [12]⟩, ⟨(some 121), none, .load false 1 (.t 120), [], [], 0, 2, [120]⟩, ⟨(some 122), none, .bin .add .no (.c (.int .i64 1)) (.t 121), [], [], 0, 2, [121]⟩, ⟨(some 123), none, .max [.t 119, .t 122], [], [], 0, 2, [119, 122]⟩, ⟨(some 124), none, .faddr 2 (.t 5), [], [], 1, 1, [5]⟩, ⟨none, none, .store 1 (.t 124) (.t 117), [], [], 1, 2, [124, 117]⟩, ⟨(some 125), none, .faddr 3 (.t 5), [], [], 2, 2, [5]⟩, ⟨none, none, .store 1 (.t 125) (.t 123), [], [], 2, 3, [125, 123]⟩]))))) (
 .reg [o 126 (.bin .add .no (.t 98) (.c (.int .i64 1))), o 98 (.mv (.t 126))])))
def b23x11 : CC := .seq (.reg [o 136 (.bin .lss .no (.t 135) (.t 134))]) (
 .seq (.cond (.t 136) (.skip) (.exit 11)) (
 .seq (.block 12 (.seq (.reg [o 137 (.iaddr 3 (.t 133) (.t 135)), o 138 (.load true 3 (.t 137)), o 14 (.alloc [.str [], .int .i64 0, .int .i64 0]), x (.store 3 (.t 14) (.t 138))]) (
 .seq (.reg [o 139 (.mv (.t 1)), o 140 (.faddr 2 (.t 14)), o 141 (.load false 1 (.t 140)), o 142 (.iaddr 4 (.t 139) (.t 141)), o 143 (.load true 4 (.t 142)), o 15 (.alloc [.bool false, .int .i64 0, .int .i64 0, .int .i64 0]), x (.store 4 (.t 15) (.t 143))]) (
 .seq (.reg [o 144 (.faddr 0 (.t 5)), o 145 (.load false 1 (.t 144)), o 146 (.mv (.t 145)), g (some 147) 146 true (.faddr 0 (.t 15)), g (some 148) 146 true (.load false 1 (.t 147)), o 149 (.pick (.t 146) (.t 148) (.c (.bool false))), o 150 (.faddr 0 (.t 5)), x (.store 1 (.t 150) (.t 149))]) (
 .seq (.drw [⟨(some 151), none, .faddr 1 (.t 5), [], [], 0, 1, [5]⟩, ⟨(some 152), none, .load false 1 (.t 151), [], [], 0, 1, [151]⟩, ⟨(some 153), none, .load true 4 (.t 15), [], [], 0, 0, [15]⟩, ⟨(some 154), none, .faddr 1 (.t 15), [], [], 0, 0, [15]⟩, ⟨(some 155), none, .load false 1 (.t 154), [], [], 0, 0, [154]⟩, ⟨(some 156), none, .call (.c (.fn 48 [])) [.t 153, .t 155], [], [], 0, 1, [153, 155]⟩, ⟨(some 157), none, .bslice [.int .i64 0] 2 [(0, (.t 152)), (1, (.t 156))], [], [], 1, 1, [152, 156]⟩, ⟨(some 158), none, .call (.c (.fn 49 [])) [.t 157], [], [], 1, 2, [157]⟩, ⟨(some 159), none, .faddr 2 (.t 5), [], [], 0, 3, [5]⟩, ⟨(some 160), none, .load false 1 (.t 159), [], [], 0, 3, [159]⟩, ⟨(some 161), none, .load true 4 (.t 15), [], [], 0, 2, [15]⟩, ⟨(some 162), none, .faddr 2 (.t 15), [], [], 0, 2, [15]⟩, ⟨(some 163), none, .load false 1 (.t 162), [], [], 0, 2, [162]⟩, ⟨(some 164), none, .call (.c (.fn 48 [])) [.t 161, .t 163], [], [], 2, 3, [161, 163]⟩, ⟨(some 165), none, .bslice [.int .i64 0] 2 [(0, (.t 160)), (1, (.t 164))], [], [], 3, 3, [160, 164]⟩, ⟨(some 166), none, .call (.c (.fn 49 [])) [.t 165], [], [], 3, 4, [165]⟩, ⟨(some 167), none, .faddr 1 (.t 5), [], [], 2, 4, [5]⟩, ⟨none, none, .store 1 (.t 167) (.t 158), [], [], 4, 5, [167, 158]⟩, ⟨(some 168), none, .faddr 2 (.t 5), [], [], 5, 5, [5]⟩, ⟨none, none, .store 1 (.t 168) (.t 166), [], [], 5, 6, [168, 166]⟩]) (
 .reg [o 169 (.faddr 3 (.t 5)), o 170 (.load false 1 (.t 169)), o 171 (.faddr 3 (.t 15)), o 172 (.load false 1 (.t 171)), o 173 (.bin .add .no (.c (.int .i64 1)) (.t 172)), o 174 (.max [.t 170, .t 173]), o 175 (.faddr 3 (.t 5)), x (.store 1 (.t 175) (.t 174))])))))) (
 .reg [o 176 (.bin .add .no (.t 135) (.c (.int .i64 1))), o 135 (.mv (.t 176))])))
def c23 : CFn := ⟨178, [.cell 4 true 4], .seq (.reg [o 2 (.box 4 (.t 0)), o 4 (.alloc [.bool false, .int .i64 0, .int .i64 0, .int .i64 0])]) (
 .seq (.reg [o 16 (.build [.bool false, .int .i64 0, .int .i64 0, .int .i64 0] [(3, 1, (.c (.int .i64 1)))]), o 5 (.alloc [.bool false, .int .i64 0, .int .i64 0, .int .i64 0]), x (.store 4 (.t 5) (.t 16))]) (
 .seq (.seq (.reg [o 17 (.faddr 0 (.t 2)), o 18 (.load false 1 (.t 17))]) (
 .block 0 (.seq (.block 8 (.seq (.block 7 (.seq (.block 6 (.seq (.block 5 (.seq (.block 4 (.seq (.block 3 (.seq (.block 2 (.seq (.block 1 (.seq (.seq (.seq (.reg [o 20 (.bin .eql .no (.t 18) (.c (.int .i64 1))), o 19 (.mv (.t 20))]) (
 .cond (.t 19) (.exit 1) (.skip))) (
 .seq (.seq (.reg [o 22 (.bin .eql .no (.t 18) (.c (.int .i64 2))), o 21 (.mv (.t 22))]) (
 .cond (.t 21) (.exit 2) (.skip))) (
 .seq (.seq (.reg [o 24 (.bin .eql .no (.t 18) (.c (.int .i64 3))), o 23 (.mv (.t 24))]) (
 .cond (.t 23) (.exit 3) (.skip))) (
 .seq (.seq (.reg [o 26 (.bin .eql .no (.t 18) (.c (.int .i64 4))), o 25 (.mv (.t 26))]) (
 .cond (.t 25) (.exit 4) (.skip))) (
 .seq (.seq (.reg [o 28 (.bin .eql .no (.t 18) (.c (.int .i64 5))), o 27 (.mv (.t 28))]) (
 .cond (.t 27) (.exit 5) (.skip))) (
 .seq (.seq (.reg [o 30 (.bin .eql .no (.t 18) (.c (.int .i64 6))), o 29 (.mv (.t 30))]) (
 .cond (.t 29) (.exit 6) (.skip))) (
 .seq (.seq (.reg [o 32 (.bin .eql .no (.t 18) (.c (.int .i64 7))), o 31 (.mv (.t 32))]) (
 .cond (.t 31) (.exit 7) (.skip))) (
 .seq (.reg [o 34 (.bin .eql .no (.t 18) (.c (.int .i64 8))), o 33 (.mv (.t 34))]) (
 .cond (.t 33) (.exit 8) (.skip)))))))))) (
 .exit 0))) (
 .seq (.drw [⟨(some 35), none, .faddr 1 (.t 2), [], [], 0, 1, [2]⟩, ⟨(some 36), none, .load false 1 (.t 35), [], [], 0, 1, [35]⟩, ⟨(some 37), none, .faddr 1 (.t 2), [], [], 0, 2, [2]⟩, ⟨(some 38), none, .load false 1 (.t 37), [], [], 0, 2, [37]⟩, ⟨(some 39), none, .faddr 0 (.t 5), [], [], 0, 0, [5]⟩, ⟨none, none, .store 1 (.t 39) (.c (.bool true)), [], [], 0, 1, [39]⟩, ⟨(some 40), none, .faddr 1 (.t 5), [], [], 1, 1, [5]⟩, ⟨none, none, .store 1 (.t 40) (.t 36), [], [], 1, 2, [40, 36]⟩, ⟨(some 41), none, .faddr 2 (.t 5), [], [], 2, 2, [5]⟩, ⟨none, none, .store 1 (.t 41) (.t 38), [], [], 2, 3, [41, 38]⟩]) (
 .exit 0)))) (
 .seq (.reg [o 42 (.faddr 0 (.t 5)), x (.store 1 (.t 42) (.c (.bool true))), o 43 (.faddr 1 (.t 5)), x (.store 1 (.t 43) (.c (.int .i64 1))), o 44 (.faddr 2 (.t 5)), x (.store 1 (.t 44) (.c (.int .i64 1)))]) (
 .exit 0)))) (
 .seq (.reg [o 45 (.faddr 1 (.t 5)), x (.store 1 (.t 45) (.c (.int .i64 1))), o 46 (.faddr 2 (.t 5)), x (.store 1 (.t 46) (.c (.int .i64 10)))]) (
 .exit 0)))) (
 .seq (.reg [o 47 (.mv (.t 1)), o 48 (.faddr 2 (.t 2)), o 49 (.load false 1 (.t 48)), o 50 (.iaddr 4 (.t 47) (.t 49)), o 51 (.load true 4 (.t 50)), o 6 (.alloc [.bool false, .int .i64 0, .int .i64 0, .int .i64 0]), x (.store 4 (.t 6) (.t 51))]) (
 .drw [⟨(some 52), none, .faddr 0 (.t 6), [], [], 0, 2, [6]⟩, ⟨(some 53), none, .load false 1 (.t 52), [], [], 0, 2, [52]⟩, ⟨(some 54), none, .faddr 1 (.t 2), [], [], 0, 1, [2]⟩, ⟨(some 55), none, .load false 1 (.t 54), [], [], 0, 1, [54]⟩, ⟨(some 56), none, .load true 4 (.t 6), [], [], 0, 0, [6]⟩, ⟨(some 57), none, .faddr 1 (.t 6), [], [], 0, 0, [6]⟩, ⟨(some 58), none, .load false 1 (.t 57), [], [], 0, 0, [57]⟩, ⟨(some 59), none, .call (.c (.fn 48 [])) [.t 56, .t 58], [], [], 0, 1, [56, 58]⟩, ⟨(some 60), none, .call (.c (.fn 47 [])) [.t 55, .t 59], [], [], 1, 2, [55, 59]⟩, ⟨(some 61), none, .faddr 0 (.t 5), [], [], 0, 2, [5]⟩, ⟨none, none, .store 1 (.t 61) (.t 53), [], [], 2, 3, [61, 53]⟩, ⟨(some 62), none, .faddr 1 (.t 5), [], [], 3, 3, [5]⟩, ⟨none, none, .store 1 (.t 62) (.t 60), [], [], 3, 4, [62, 60]⟩])))) (
 .seq (.seq (.reg [o 63 (.mv (.t 1)), o 64 (.faddr 2 (.t 2)), o 65 (.load false 1 (.t 64)), o 66 (.iaddr 4 (.t 63) (.t 65)), o 67 (.load true 4 (.t 66)), o 7 (.alloc [.bool false, .int .i64 0, .int .i64 0, .int .i64 0]), x (.store 4 (.t 7) (.t 67))]) (
 .drw [⟨(some 68), none, .faddr 1 (.t 2), [], [], 0, 1, [2]⟩, ⟨(some 69), none, .load false 1 (.t 68), [], [], 0, 1, [68]⟩, ⟨(some 70), none, .load true 4 (.t 7), [], [], 0, 0, [7]⟩, ⟨(some 71), none, .faddr 2 (.t 7), [], [], 0, 0, [7]⟩, ⟨(some 72), none, .load false 1 (.t 71), [], [], 0, 0, [71]⟩, ⟨(some 73), none, .call (.c (.fn 48 [])) [.t 70, .t 72], [], [], 0, 1, [70, 72]⟩, ⟨(some 74), none, .call (.c (.fn 47 [])) [.t 69, .t 73], [], [], 1, 2, [69, 73]⟩, ⟨(some 75), none, .faddr 3 (.t 7), [], [], 0, 3, [7]⟩, ⟨(some 76), none, .load false 1 (.t 75), [], [], 0, 3, [75]⟩, ⟨(some 77), none, .bin .add .no (.c (.int .i64 1)) (.t 76), [], [], 0, 3, [76]⟩, ⟨(some 78), none, .faddr 2 (.t 5), [], [], 2, 2, [5]⟩, ⟨none, none, .store 1 (.t 78) (.t 74), [], [], 2, 3, [78, 74]⟩, ⟨(some 79), none, .faddr 3 (.t 5), [], [], 3, 3, [5]⟩, ⟨none, none, .store 1 (.t 79) (.t 77), [], [], 3, 4, [79, 77]⟩])) (
 .exit 0)))) (
 .seq (.seq (.reg [o 80 (.mv (.t 1)), o 81 (.faddr 2 (.t 2)), o 82 (.load false 1 (.t 81)), o 83 (.iaddr 4 (.t 80) (.t 82)), o 84 (.load true 4 (.t 83)), o 8 (.alloc [.bool false, .int .i64 0, .int .i64 0, .int .i64 0]), x (.store 4 (.t 8) (.t 84))]) (
 .drw [⟨(some 85), none, .faddr 2 (.t 8), [], [], 0, 0, [8]⟩, ⟨(some 86), none, .load false 1 (.t 85), [], [], 0, 0, [85]⟩, ⟨(some 87), none, .bslice [.int .i64 0] 2 [(0, (.c (.int .i64 1))), (1, (.t 86))], [], [], 0, 0, [86]⟩, ⟨(some 88), none, .call (.c (.fn 49 [])) [.t 87], [], [], 0, 1, [87]⟩, ⟨(some 89), none, .faddr 3 (.t 8), [], [], 0, 3, [8]⟩, ⟨(some 90), none, .load false 1 (.t 89), [], [], 0, 3, [89]⟩, ⟨(some 91), none, .bin .add .no (.c (.int .i64 1)) (.t 90), [], [], 0, 3, [90]⟩, ⟨(some 92), none, .faddr 1 (.t 5), [], [], 0, 1, [5]⟩, ⟨none, none, .store 1 (.t 92) (.c (.int .i64 1)), [], [], 1, 2, [92]⟩, ⟨(some 93), none, .faddr 2 (.t 5), [], [], 2, 2, [5]⟩, ⟨none, none, .store 1 (.t 93) (.t 88), [], [], 2, 3, [93, 88]⟩, ⟨(some 94), none, .faddr 3 (.t 5), [], [], 3, 3, [5]⟩, ⟨none, none, .store 1 (.t 94) (.t 91), [], [], 3, 4, [94, 91]⟩])) (
 .exit 0)))) (
 .seq (.seq (.reg [o 9 (.mv (.c (.int .i64 4611686018427387904)))]) (
 .seq (.seq (.reg [o 95 (.faddr 3 (.t 2)), o 96 (.load false 1 (.t 95)), o 97 (.len .sl (.t 96)), o 98 (.mv (.c (.int .i64 0)))]) (
 .block 9 (.loop (some [1, 4, 5, 9, 96, 97, 98]) b23x9))) (
 .reg [o 127 (.mv (.t 9)), o 128 (.bslice [.int .i64 0] 2 [(0, (.c (.int .i64 1))), (1, (.t 127))]), o 129 (.call (.c (.fn 49 [])) [.t 128]), o 130 (.faddr 1 (.t 5)), x (.store 1 (.t 130) (.t 129))]))) (
 .exit 0)))) (
 .seq (.seq (.reg [o 131 (.faddr 0 (.t 5)), x (.store 1 (.t 131) (.c (.bool true)))]) (
 .seq (.reg [o 132 (.faddr 3 (.t 2)), o 133 (.load false 1 (.t 132)), o 134 (.len .sl (.t 133)), o 135 (.mv (.c (.int .i64 0)))]) (
 .block 11 (.loop (some [1, 4, 5, 133, 134, 135]) b23x11)))) (
 .exit 0))))) (
 .seq (.reg [o 177 (.load true 4 (.t 5)), x (.store 4 (.t 4) (.t 177))]) (
 .ret))))⟩
theorem q23 : table Try.prog A0 23 = some c23 := by kernel_rfl

/-! mortise/layout.one -/
def b24x1 : CC := .seq (.reg [o 18 (.bin .lss .no (.t 17) (.t 16))]) (
 .seq (.cond (.t 18) (.skip) (.exit 1)) (
 .seq (.block 2 (.seq (.reg [o 19 (.iaddr 3 (.t 15) (.t 17)), o 20 (.load true 3 (.t 19)), o 7 (.alloc [.str [], .int .i64 0, .int .i64 0]), x (.store 3 (.t 7) (.t 20))]) (
 .seq (.drw [⟨(some 21), none, .mv (.t 1), [], [], 0, 0, [1]⟩, ⟨(some 22), none, .faddr 2 (.t 7), [], [], 0, 0, [7]⟩, ⟨(some 23), none, .load false 1 (.t 22), [], [], 0, 0, [22]⟩, ⟨(some 24), none, .iaddr 4 (.t 21) (.t 23), [], [], 0, 0, [21, 23]⟩, ⟨(some 25), none, .load true 4 (.t 24), [], [], 0, 0, [24]⟩, ⟨(some 26), none, .faddr 0 (.t 5), [], [], 0, 0, [5]⟩, ⟨(some 27), none, .load false 1 (.t 26), [], [], 0, 0, [26]⟩, ⟨(some 28), none, .call (.c (.fn 50 [])) [.t 25, .t 27], [], [], 0, 1, [25, 27]⟩, ⟨(some 8), none, .alloc [.int .i64 0, .bool false, .int .i64 0], [], [], 0, 1, []⟩, ⟨none, none, .store 3 (.t 8) (.t 28), [], [], 1, 2, [8, 28]⟩]) (
 .seq (.reg [o 29 (.faddr 1 (.t 5)), o 30 (.load false 1 (.t 29)), o 31 (.load true 3 (.t 8)), o 32 (.bslice [.int .i64 0, .bool false, .int .i64 0] 1 [(0, (.t 31))]), o 33 (.append 3 24 false (.t 30) (.t 32)), o 34 (.faddr 1 (.t 5)), x (.store 1 (.t 34) (.t 33))]) (
 .reg [o 35 (.faddr 0 (.t 5)), o 36 (.load false 1 (.t 35)), o 37 (.faddr 2 (.t 8)), o 38 (.load false 1 (.t 37)), o 39 (.bslice [.int .i64 0] 2 [(0, (.t 36)), (1, (.t 38))]), o 40 (.call (.c (.fn 49 [])) [.t 39]), o 41 (.faddr 0 (.t 5)), x (.store 1 (.t 41) (.t 40))]))))) (
 .reg [o 42 (.bin .add .no (.t 17) (.c (.int .i64 1))), o 17 (.mv (.t 42))])))
def c24 : CFn := ⟨71, [.cell 4 true 2], .seq (.reg [o 2 (.box 4 (.t 0)), o 4 (.alloc [.int .i64 0, .nils])]) (
 .seq (.seq (.reg [o 10 (.faddr 0 (.t 2)), o 11 (.load false 1 (.t 10))]) (
 .block 0 (.seq (.reg [o 13 (.bin .eql .no (.t 11) (.c (.int .i64 8))), o 12 (.mv (.t 13))]) (
 .cond (.t 12) (.seq (.reg [⟨(some 5), none, .alloc [.int .i64 0, .nils], [], [(1, 3)], 0, 0, []⟩]) (
 .seq (.seq (.reg [o 14 (.faddr 3 (.t 2)), o 15 (.load false 1 (.t 14)), o 16 (.len .sl (.t 15)), o 17 (.mv (.c (.int .i64 0)))]) (
 .block 1 (.loop (some [1, 4, 5, 15, 16, 17]) b24x1))) (
 .seq (.reg [o 43 (.load true 2 (.t 5)), ⟨none, none, .store 2 (.t 4) (.t 43), [.freeze 43 (some 1) 3], [], 0, 0, []⟩]) (
 .ret)))) (.seq (.reg [o 45 (.bin .eql .no (.t 11) (.c (.int .i64 4))), o 44 (.mv (.t 45))]) (
 .cond (.t 44) (.seq (.reg [o 46 (.mv (.t 1)), o 47 (.faddr 2 (.t 2)), o 48 (.load false 1 (.t 47)), o 49 (.iaddr 4 (.t 46) (.t 48)), o 50 (.load true 4 (.t 49)), o 51 (.call (.c (.fn 50 [])) [.t 50, .c (.int .i64 0)]), o 9 (.alloc [.int .i64 0, .bool false, .int .i64 0]), x (.store 3 (.t 9) (.t 51))]) (
 .seq (.drw [⟨(some 52), none, .faddr 1 (.t 2), [], [], 0, 0, [2]⟩, ⟨(some 53), none, .load false 1 (.t 52), [], [], 0, 0, [52]⟩, ⟨(some 54), none, .faddr 2 (.t 9), [], [], 0, 0, [9]⟩, ⟨(some 55), none, .load false 1 (.t 54), [], [], 0, 0, [54]⟩, ⟨(some 56), none, .call (.c (.fn 47 [])) [.t 53, .t 55], [], [], 0, 1, [53, 55]⟩, ⟨(some 57), none, .load true 3 (.t 9), [], [], 0, 1, [9]⟩, ⟨(some 58), none, .bslice [.int .i64 0, .bool false, .int .i64 0] 1 [(0, (.t 57))], [], [], 0, 1, [57]⟩, ⟨(some 59), none, .build [.int .i64 0, .nils] [(0, 1, (.t 56)), (1, 1, (.t 58))], [], [], 1, 1, [56, 58]⟩, ⟨none, none, .store 2 (.t 4) (.t 59), [], [], 1, 2, [4, 59]⟩]) (
 .ret))) (.seq (.reg [o 61 (.bin .eql .no (.t 11) (.c (.int .i64 5))), o 60 (.mv (.t 61))]) (
 .cond (.t 60) (.seq (.reg [o 62 (.mv (.t 1)), o 63 (.faddr 2 (.t 2)), o 64 (.load false 1 (.t 63)), o 65 (.iaddr 4 (.t 62) (.t 64)), o 66 (.load true 4 (.t 65)), o 67 (.call (.c (.fn 50 [])) [.t 66, .c (.int .i64 0)]), o 68 (.bslice [.int .i64 0, .bool false, .int .i64 0] 1 [(0, (.t 67))]), ⟨(some 69), none, .build [.int .i64 0, .nils] [(1, 1, (.t 68))], [.freeze 68 none 3], [], 0, 0, []⟩, x (.store 2 (.t 4) (.t 69))]) (
 .ret)) (.skip))))))))) (
 .seq (.reg [o 70 (.build [.int .i64 0, .nils] []), x (.store 2 (.t 4) (.t 70))]) (
 .ret)))⟩
theorem q24 : table Try.prog A0 24 = some c24 := by kernel_rfl

/-! (*mortise/raise.raiser).fixed -/
def c25 : CFn := ⟨36, [], .seq (.reg [o 7 (.mv (.t 0)), o 8 (.nilchk (.t 7)), o 9 (.faddr 0 (.t 8)), o 10 (.faddr 0 (.t 9)), o 11 (.load false 1 (.t 10)), o 12 (.mv (.t 1)), o 13 (.iaddr 4 (.t 11) (.t 12)), o 14 (.load true 4 (.t 13)), o 6 (.alloc [.int .i64 0, .int .i64 0, .int .i64 0, .nils]), x (.store 4 (.t 6) (.t 14))]) (
 .seq (.reg [o 15 (.faddr 0 (.t 6)), o 16 (.load false 1 (.t 15))]) (
 .block 0 (.seq (.reg [o 23 (.bin .eql .no (.t 16) (.c (.int .i64 1))), o 22 (.mv (.t 23))]) (
 .cond (.t 22) (.reg [o 24 (.mv (.t 0)), o 25 (.mv (.t 2)), o 26 (.faddr 1 (.t 6)), o 27 (.load false 1 (.t 26)), o 28 (.build [.int .i64 0, .int .i64 0, .int .i64 0, .int .i64 0] [(0, 1, (.c (.int .i64 33))), (1, 1, (.t 25)), (2, 1, (.t 27))]), o 29 (.call (.c (.fn 26 [])) [.t 24, .t 28])]) (.seq (.reg [o 31 (.bin .eql .no (.t 16) (.c (.int .i64 2))), o 30 (.mv (.t 31))]) (
 .cond (.t 30) (.reg [o 32 (.mv (.t 0)), o 33 (.mv (.t 2)), o 34 (.build [.int .i64 0, .int .i64 0, .int .i64 0, .int .i64 0] [(0, 1, (.c (.int .i64 35))), (1, 1, (.t 33))]), o 35 (.call (.c (.fn 26 [])) [.t 32, .t 34])]) (.reg [o 17 (.mv (.t 0)), o 18 (.mv (.t 2)), o 19 (.mv (.t 1)), o 20 (.build [.int .i64 0, .int .i64 0, .int .i64 0, .int .i64 0] [(0, 1, (.c (.int .i64 44))), (1, 1, (.t 18)), (3, 1, (.t 19))]), o 21 (.call (.c (.fn 26 [])) [.t 17, .t 20])])))))))⟩
theorem q25 : table Try.prog A0 25 = some c25 := by kernel_rfl

/-! (*mortise/raise.raiser).lay -/
def c26 : CFn := ⟨21, [.t 4], .seq (.reg [o 3 (.box 4 (.t 1)), o 4 (.mv (.c (.int .i64 0)))]) (
 .seq (.drw [⟨(some 5), none, .mv (.t 0), [], [], 0, 1, [0]⟩, ⟨(some 6), none, .mv (.t 0), [], [], 0, 0, [0]⟩, ⟨(some 7), none, .nilchk (.t 6), [], [], 0, 0, [6]⟩, ⟨(some 8), none, .faddr 4 (.t 7), [], [], 0, 0, [7]⟩, ⟨(some 9), none, .load false 1 (.t 8), [], [], 0, 0, [8]⟩, ⟨(some 10), none, .load true 4 (.t 3), [], [], 0, 0, [3]⟩, ⟨(some 11), none, .bslice [.int .i64 0, .int .i64 0, .int .i64 0, .int .i64 0] 1 [(0, (.t 10))], [], [], 0, 0, [10]⟩, ⟨(some 12), none, .append 4 32 false (.t 9) (.t 11), [], [], 0, 1, [9, 11]⟩, ⟨(some 13), none, .nilchk (.t 5), [], [], 1, 1, [5]⟩, ⟨(some 14), none, .faddr 4 (.t 13), [], [], 1, 1, [13]⟩, ⟨none, none, .store 1 (.t 14) (.t 12), [], [], 1, 2, [14, 12]⟩]) (
 .seq (.reg [o 15 (.mv (.t 0)), o 16 (.nilchk (.t 15)), o 17 (.faddr 4 (.t 16)), o 18 (.load false 1 (.t 17)), o 19 (.len .sl (.t 18)), o 20 (.bin .sub .no (.t 19) (.c (.int .i64 1))), o 4 (.mv (.t 20))]) (
 .ret)))⟩
theorem q26 : table Try.prog A0 26 = some c26 := by kernel_rfl

/-! (*mortise/raise.raiser).items -/
def c27 : CFn := ⟨51, [], .seq (.reg [o 10 (.mv (.t 0)), o 11 (.nilchk (.t 10)), o 12 (.faddr 2 (.t 11)), o 13 (.load false 1 (.t 12)), o 14 (.mv (.t 1)), o 15 (.iaddr 4 (.t 13) (.t 14)), o 16 (.faddr 0 (.t 15)), o 17 (.load false 1 (.t 16)), o 18 (.una .not (.t 17)), o 6 (.mv (.t 18))]) (
 .seq (.seq (.reg [o 19 (.mv (.t 6))]) (
 .cond (.t 19) (.reg [o 20 (.mv (.t 0)), o 21 (.build [.int .i64 0, .int .i64 0, .int .i64 0, .int .i64 0] [(0, 1, (.c (.int .i64 42))), (1, 1, (.c (.int .i64 (-1))))]), o 22 (.call (.c (.fn 26 [])) [.t 20, .t 21])]) (.skip))) (
 .seq (.reg [o 7 (.mv (.c (.int .i64 (-1))))]) (
 .seq (.seq (.reg [o 23 (.mv (.t 2))]) (
 .cond (.t 23) (.reg [o 24 (.mv (.t 0)), o 25 (.build [.int .i64 0, .int .i64 0, .int .i64 0, .int .i64 0] [(0, 1, (.c (.int .i64 19)))]), o 26 (.call (.c (.fn 26 [])) [.t 24, .t 25]), o 7 (.mv (.t 26))]) (.skip))) (
 .seq (.reg [o 8 (.mv (.c (.int .i64 0)))]) (
 .seq (.seq (.reg [o 27 (.mv (.t 6))]) (
 .cond (.t 27) (.seq (.reg [o 28 (.mv (.t 0)), o 29 (.build [.int .i64 0, .int .i64 0, .int .i64 0, .int .i64 0] [(0, 1, (.c (.int .i64 43))), (1, 1, (.c (.int .i64 (-1))))]), o 30 (.call (.c (.fn 26 [])) [.t 28, .t 29]), o 8 (.mv (.t 30))]) (
 .reg [o 31 (.mv (.t 0)), o 32 (.mv (.t 1)), o 33 (.build [.int .i64 0, .int .i64 0, .int .i64 0, .int .i64 0] [(0, 1, (.c (.int .i64 46))), (3, 1, (.t 32))]), o 34 (.call (.c (.fn 26 [])) [.t 31, .t 33])])) (.reg [o 35 (.mv (.t 0)), o 36 (.mv (.t 1)), o 37 (.call (.c (.fn 51 [])) [.t 35, .t 36]), o 8 (.mv (.t 37))]))) (
 .seq (.reg [o 38 (.mv (.t 0)), o 39 (.mv (.t 8)), o 40 (.build [.int .i64 0, .int .i64 0, .int .i64 0, .int .i64 0] [(0, 1, (.c (.int .i64 47))), (2, 1, (.t 39))]), o 41 (.call (.c (.fn 26 [])) [.t 38, .t 40]), o 9 (.mv (.t 41))]) (
 .seq (.reg [o 42 (.mv (.t 2))]) (
 .cond (.t 42) (.reg [o 43 (.mv (.t 0)), o 44 (.nilchk (.t 43)), o 45 (.faddr 4 (.t 44)), o 46 (.load false 1 (.t 45)), o 47 (.mv (.t 7)), o 48 (.mv (.t 9)), o 49 (.iaddr 4 (.t 46) (.t 47)), o 50 (.faddr 2 (.t 49)), x (.store 1 (.t 50) (.t 48))]) (.skip)))))))))⟩
theorem q27 : table Try.prog A0 27 = some c27 := by kernel_rfl

/-! (*mortise/raise.raiser).arms -/
def b28x0 : CC := .seq (.reg [o 25 (.bin .lss .no (.t 24) (.t 23))]) (
 .seq (.cond (.t 25) (.skip) (.exit 0)) (
 .seq (.block 1 (.seq (.reg [o 26 (.iaddr 3 (.t 22) (.t 24)), o 27 (.load true 3 (.t 26)), o 6 (.alloc [.str [], .int .i64 0, .int .i64 0]), x (.store 3 (.t 6) (.t 27))]) (
 .reg [o 28 (.mv (.t 0)), o 29 (.faddr 1 (.t 6)), o 30 (.load false 1 (.t 29)), o 31 (.build [.int .i64 0, .int .i64 0, .int .i64 0, .int .i64 0] [(0, 1, (.c (.int .i64 9))), (1, 1, (.t 30))]), o 32 (.call (.c (.fn 26 [])) [.t 28, .t 31])]))) (
 .reg [o 33 (.bin .add .no (.t 24) (.c (.int .i64 1))), o 24 (.mv (.t 33))])))
def b28x2 : CC := .seq (.reg [o 38 (.bin .lss .no (.t 37) (.t 36))]) (
 .seq (.cond (.t 38) (.skip) (.exit 2)) (
 .seq (.block 3 (.seq (.reg [o 39 (.mv (.t 37)), o 40 (.iaddr 3 (.t 35) (.t 37)), o 41 (.load true 3 (.t 40)), o 8 (.alloc [.str [], .int .i64 0, .int .i64 0]), o 7 (.mv (.t 39)), x (.store 3 (.t 8) (.t 41))]) (
 .seq (.reg [o 42 (.mv (.t 0)), o 43 (.faddr 2 (.t 8)), o 44 (.load false 1 (.t 43)), o 45 (.build [.int .i64 0, .int .i64 0, .int .i64 0, .int .i64 0] [(0, 1, (.c (.int .i64 46))), (3, 1, (.t 44))]), o 46 (.call (.c (.fn 26 [])) [.t 42, .t 45]), o 9 (.mv (.t 46))]) (
 .seq (.reg [o 47 (.mv (.t 0)), o 48 (.nilchk (.t 47)), o 49 (.faddr 4 (.t 48)), o 50 (.load false 1 (.t 49)), o 51 (.mv (.t 4)), o 52 (.mv (.t 7)), o 53 (.bin .add .no (.t 51) (.t 52)), o 54 (.mv (.t 9)), o 55 (.iaddr 4 (.t 50) (.t 53)), o 56 (.faddr 2 (.t 55)), x (.store 1 (.t 56) (.t 54))]) (
 .seq (.reg [o 57 (.mv (.t 7)), o 58 (.bin .add .no (.t 57) (.c (.int .i64 1))), o 59 (.faddr 3 (.t 3)), o 60 (.load false 1 (.t 59)), o 61 (.len .sl (.t 60)), o 62 (.bin .lss .no (.t 58) (.t 61))]) (
 .cond (.t 62) (.reg [o 63 (.mv (.t 0)), o 64 (.build [.int .i64 0, .int .i64 0, .int .i64 0, .int .i64 0] [(0, 1, (.c (.int .i64 20)))]), o 65 (.call (.c (.fn 26 [])) [.t 63, .t 64])]) (.skip))))))) (
 .reg [o 66 (.bin .add .no (.t 37) (.c (.int .i64 1))), o 37 (.mv (.t 66))])))
def c28 : CFn := ⟨67, [], .seq (.reg [o 3 (.box 4 (.t 1))]) (
 .seq (.reg [o 10 (.mv (.t 0)), o 11 (.faddr 3 (.t 3)), o 12 (.load false 1 (.t 11)), o 13 (.len .sl (.t 12)), o 14 (.build [.int .i64 0, .int .i64 0, .int .i64 0, .int .i64 0] [(0, 1, (.c (.int .i64 41))), (1, 1, (.t 13))]), o 15 (.call (.c (.fn 26 [])) [.t 10, .t 14])]) (
 .seq (.reg [o 16 (.mv (.t 0)), o 17 (.nilchk (.t 16)), o 18 (.faddr 4 (.t 17)), o 19 (.load false 1 (.t 18)), o 20 (.len .sl (.t 19)), o 4 (.mv (.t 20))]) (
 .seq (.seq (.reg [o 21 (.faddr 3 (.t 3)), o 22 (.load false 1 (.t 21)), o 23 (.len .sl (.t 22)), o 24 (.mv (.c (.int .i64 0)))]) (
 .block 0 (.loop (some [0, 3, 4, 22, 23, 24]) b28x0))) (
 .seq (.reg [o 34 (.faddr 3 (.t 3)), o 35 (.load false 1 (.t 34)), o 36 (.len .sl (.t 35)), o 37 (.mv (.c (.int .i64 0)))]) (
 .block 2 (.loop (some [0, 3, 4, 35, 36, 37]) b28x2))))))⟩
theorem q28 : table Try.prog A0 28 = some c28 := by kernel_rfl

/-! (*mortise/raise.raiser).fields -/
def b29x0 : CC := .seq (.reg [o 46 (.bin .lss .no (.t 45) (.t 44))]) (
 .seq (.cond (.t 46) (.skip) (.exit 0)) (
 .seq (.block 1 (.seq (.reg [o 47 (.mv (.t 45)), o 48 (.iaddr 3 (.t 43) (.t 45)), o 49 (.load true 3 (.t 48)), o 6 (.alloc [.str [], .int .i64 0, .int .i64 0]), o 5 (.mv (.t 47)), x (.store 3 (.t 6) (.t 49))]) (
 .seq (.reg [o 50 (.mv (.t 0)), o 51 (.nilchk (.t 50)), o 52 (.faddr 3 (.t 51)), o 53 (.load false 1 (.t 52)), o 54 (.mv (.t 1)), o 55 (.iaddr 2 (.t 53) (.t 54)), o 56 (.faddr 1 (.t 55)), o 57 (.load false 1 (.t 56)), o 58 (.mv (.t 5)), o 59 (.iaddr 3 (.t 57) (.t 58)), o 60 (.load true 3 (.t 59)), o 7 (.alloc [.int .i64 0, .bool false, .int .i64 0]), x (.store 3 (.t 7) (.t 60))]) (
 .seq (.seq (.reg [o 61 (.faddr 1 (.t 7)), o 62 (.load false 1 (.t 61)), o 63 (.una .not (.t 62))]) (
 .cond (.t 63) (.seq (.reg [o 64 (.mv (.t 0)), o 65 (.faddr 2 (.t 6)), o 66 (.load false 1 (.t 65)), o 67 (.faddr 0 (.t 7)), o 68 (.load false 1 (.t 67)), o 69 (.call (.c (.fn 25 [])) [.t 64, .t 66, .t 68])]) (
 .exit 1)) (.skip))) (
 .seq (.reg [o 70 (.mv (.t 0)), o 71 (.faddr 0 (.t 7)), o 72 (.load false 1 (.t 71)), o 73 (.build [.int .i64 0, .int .i64 0, .int .i64 0, .int .i64 0] [(0, 1, (.c (.int .i64 43))), (1, 1, (.t 72))]), o 74 (.call (.c (.fn 26 [])) [.t 70, .t 73])]) (
 .reg [o 75 (.mv (.t 0)), o 76 (.faddr 2 (.t 6)), o 77 (.load false 1 (.t 76)), o 78 (.build [.int .i64 0, .int .i64 0, .int .i64 0, .int .i64 0] [(0, 1, (.c (.int .i64 46))), (3, 1, (.t 77))]), o 79 (.call (.c (.fn 26 [])) [.t 75, .t 78])])))))) (
 .reg [o 80 (.bin .add .no (.t 45) (.c (.int .i64 1))), o 45 (.mv (.t 80))])))
def c29 : CFn := ⟨81, [], .seq (.reg [o 8 (.mv (.t 0)), o 9 (.nilchk (.t 8)), o 10 (.faddr 0 (.t 9)), o 11 (.faddr 0 (.t 10)), o 12 (.load false 1 (.t 11)), o 13 (.mv (.t 1)), o 14 (.iaddr 4 (.t 12) (.t 13)), o 15 (.load true 4 (.t 14)), o 4 (.alloc [.int .i64 0, .int .i64 0, .int .i64 0, .nils]), x (.store 4 (.t 4) (.t 15))]) (
 .seq (.reg [o 16 (.mv (.t 0)), o 17 (.faddr 3 (.t 4)), o 18 (.load false 1 (.t 17)), o 19 (.len .sl (.t 18)), o 20 (.build [.int .i64 0, .int .i64 0, .int .i64 0, .int .i64 0] [(0, 1, (.c (.int .i64 39))), (1, 1, (.t 19))]), o 21 (.call (.c (.fn 26 [])) [.t 16, .t 20])]) (
 .seq (.seq (.reg [o 22 (.mv (.t 0)), o 23 (.nilchk (.t 22)), o 24 (.faddr 2 (.t 23)), o 25 (.load false 1 (.t 24)), o 26 (.mv (.t 1)), o 27 (.iaddr 4 (.t 25) (.t 26)), o 28 (.faddr 0 (.t 27)), o 29 (.load false 1 (.t 28)), o 30 (.una .not (.t 29))]) (
 .cond (.t 30) (.reg [o 31 (.mv (.t 0)), o 32 (.mv (.t 0)), o 33 (.nilchk (.t 32)), o 34 (.faddr 3 (.t 33)), o 35 (.load false 1 (.t 34)), o 36 (.mv (.t 1)), o 37 (.iaddr 2 (.t 35) (.t 36)), o 38 (.faddr 0 (.t 37)), o 39 (.load false 1 (.t 38)), o 40 (.build [.int .i64 0, .int .i64 0, .int .i64 0, .int .i64 0] [(0, 1, (.c (.int .i64 42))), (1, 1, (.t 39))]), o 41 (.call (.c (.fn 26 [])) [.t 31, .t 40])]) (.skip))) (
 .seq (.reg [o 42 (.faddr 3 (.t 4)), o 43 (.load false 1 (.t 42)), o 44 (.len .sl (.t 43)), o 45 (.mv (.c (.int .i64 0)))]) (
 .block 0 (.loop (some [0, 1, 43, 44, 45]) b29x0)))))⟩
theorem q29 : table Try.prog A0 29 = some c29 := by kernel_rfl

/-! mortise/mortiseref09.right -/
def c30 : CFn := ⟨108, [.t 4], .seq (.reg [o 2 (.box 4 (.t 0)), o 4 (.mv (.c (.bool false)))]) (
 .seq (.seq (.reg [o 5 (.faddr 0 (.t 2)), o 6 (.load false 1 (.t 5))]) (
 .block 0 (.seq (.reg [o 8 (.bin .eql .no (.t 6) (.c (.int .i64 1))), o 7 (.mv (.t 8))]) (
 .cond (.t 7) (.seq (.reg [o 9 (.faddr 1 (.t 2)), o 10 (.load false 1 (.t 9)), o 11 (.bin .eql .no (.t 10) (.c (.int .i64 1))), o 12 (.mv (.t 11)), g (some 13) 12 false (.faddr 1 (.t 2)), g (some 14) 12 false (.load false 1 (.t 13)), g (some 15) 12 false (.bin .eql .no (.t 14) (.c (.int .i64 2))), o 16 (.pick (.t 12) (.c (.bool true)) (.t 15)), o 17 (.mv (.t 16)), g (some 18) 17 false (.faddr 1 (.t 2)), g (some 19) 17 false (.load false 1 (.t 18)), g (some 20) 17 false (.bin .eql .no (.t 19) (.c (.int .i64 4))), o 21 (.pick (.t 17) (.c (.bool true)) (.t 20)), o 22 (.mv (.t 21)), g (some 23) 22 false (.faddr 1 (.t 2)), g (some 24) 22 false (.load false 1 (.t 23)), g (some 25) 22 false (.bin .eql .no (.t 24) (.c (.int .i64 8))), o 26 (.pick (.t 22) (.c (.bool true)) (.t 25)), o 27 (.mv (.t 26)), g (some 28) 27 true (.faddr 2 (.t 2)), g (some 29) 27 true (.load false 1 (.t 28)), g (some 30) 27 true (.bin .eql .no (.t 29) (.c (.int .i64 0))), o 31 (.pick (.t 27) (.t 30) (.c (.bool false))), o 32 (.mv (.t 31)), g (some 33) 32 true (.faddr 3 (.t 2)), g (some 34) 32 true (.load false 1 (.t 33)), g (some 35) 32 true (.len .sl (.t 34)), g (some 36) 32 true (.bin .eql .no (.t 35) (.c (.int .i64 0))), o 37 (.pick (.t 32) (.t 36) (.c (.bool false))), o 4 (.mv (.t 37))]) (
 .ret)) (.seq (.seq (.reg [o 39 (.bin .eql .no (.t 6) (.c (.int .i64 2))), o 38 (.mv (.t 39))]) (
 .cond (.t 38) (.skip) (.reg [o 40 (.bin .eql .no (.t 6) (.c (.int .i64 3))), o 38 (.mv (.t 40))]))) (
 .cond (.t 38) (.seq (.reg [o 41 (.faddr 1 (.t 2)), o 42 (.load false 1 (.t 41)), o 43 (.bin .eql .no (.t 42) (.c (.int .i64 0))), o 44 (.mv (.t 43)), g (some 45) 44 true (.faddr 2 (.t 2)), g (some 46) 44 true (.load false 1 (.t 45)), g (some 47) 44 true (.bin .eql .no (.t 46) (.c (.int .i64 0))), o 48 (.pick (.t 44) (.t 47) (.c (.bool false))), o 49 (.mv (.t 48)), g (some 50) 49 true (.faddr 3 (.t 2)), g (some 51) 49 true (.load false 1 (.t 50)), g (some 52) 49 true (.len .sl (.t 51)), g (some 53) 49 true (.bin .eql .no (.t 52) (.c (.int .i64 0))), o 54 (.pick (.t 49) (.t 53) (.c (.bool false))), o 4 (.mv (.t 54))]) (
 .ret)) (.seq (.seq (.reg [o 56 (.bin .eql .no (.t 6) (.c (.int .i64 4))), o 55 (.mv (.t 56))]) (
 .cond (.t 55) (.skip) (.reg [o 57 (.bin .eql .no (.t 6) (.c (.int .i64 5))), o 55 (.mv (.t 57))]))) (
 .cond (.t 55) (.seq (.reg [o 58 (.faddr 1 (.t 2)), o 59 (.load false 1 (.t 58)), o 60 (.call (.c (.fn 33 [])) [.t 59, .c (.int .i64 1), .c (.int .i64 1048576)]), o 61 (.mv (.t 60)), g (some 62) 61 true (.faddr 2 (.t 2)), g (some 63) 61 true (.load false 1 (.t 62)), g (some 64) 61 true (.mv (.t 1)), g (some 65) 61 true (.bin .sub .no (.t 64) (.c (.int .i64 1))), g (some 66) 61 true (.call (.c (.fn 33 [])) [.t 63, .c (.int .i64 0), .t 65]), o 67 (.pick (.t 61) (.t 66) (.c (.bool false))), o 68 (.mv (.t 67)), g (some 69) 68 true (.faddr 3 (.t 2)), g (some 70) 68 true (.load false 1 (.t 69)), g (some 71) 68 true (.len .sl (.t 70)), g (some 72) 68 true (.bin .eql .no (.t 71) (.c (.int .i64 0))), o 73 (.pick (.t 68) (.t 72) (.c (.bool false))), o 4 (.mv (.t 73))]) (
 .ret)) (.seq (.reg [o 75 (.bin .eql .no (.t 6) (.c (.int .i64 6))), o 74 (.mv (.t 75))]) (
 .cond (.t 74) (.seq (.reg [o 76 (.faddr 1 (.t 2)), o 77 (.load false 1 (.t 76)), o 78 (.bin .eql .no (.t 77) (.c (.int .i64 0))), o 79 (.mv (.t 78)), g (some 80) 79 true (.faddr 2 (.t 2)), g (some 81) 79 true (.load false 1 (.t 80)), g (some 82) 79 true (.mv (.t 1)), g (some 83) 79 true (.bin .sub .no (.t 82) (.c (.int .i64 1))), g (some 84) 79 true (.call (.c (.fn 33 [])) [.t 81, .c (.int .i64 0), .t 83]), o 85 (.pick (.t 79) (.t 84) (.c (.bool false))), o 86 (.mv (.t 85)), g (some 87) 86 true (.faddr 3 (.t 2)), g (some 88) 86 true (.load false 1 (.t 87)), g (some 89) 86 true (.len .sl (.t 88)), g (some 90) 86 true (.bin .eql .no (.t 89) (.c (.int .i64 0))), o 91 (.pick (.t 86) (.t 90) (.c (.bool false))), o 4 (.mv (.t 91))]) (
 .ret)) (.seq (.seq (.reg [o 93 (.bin .eql .no (.t 6) (.c (.int .i64 7))), o 92 (.mv (.t 93))]) (
 .cond (.t 92) (.skip) (.reg [o 94 (.bin .eql .no (.t 6) (.c (.int .i64 8))), o 92 (.mv (.t 94))]))) (
 .cond (.t 92) (.seq (.reg [o 95 (.faddr 1 (.t 2)), o 96 (.load false 1 (.t 95)), o 97 (.bin .eql .no (.t 96) (.c (.int .i64 0))), o 98 (.mv (.t 97)), g (some 99) 98 true (.faddr 2 (.t 2)), g (some 100) 98 true (.load false 1 (.t 99)), g (some 101) 98 true (.bin .eql .no (.t 100) (.c (.int .i64 0))), o 102 (.pick (.t 98) (.t 101) (.c (.bool false))), o 103 (.mv (.t 102)), g (some 104) 103 true (.load true 4 (.t 2)), g (some 105) 103 true (.mv (.t 1)), g (some 106) 103 true (.call (.c (.fn 52 [])) [.t 104, .t 105]), o 107 (.pick (.t 103) (.t 106) (.c (.bool false))), o 4 (.mv (.t 107))]) (
 .ret)) (.skip))))))))))))) (
 .seq (.reg [o 4 (.mv (.c (.bool false)))]) (
 .ret)))⟩
theorem q30 : table Try.prog A0 30 = some c30 := by kernel_rfl

/-! mortise/mortiseref09.Depths -/
def b31x2 : CC := .seq (.seq (.reg [o 38 (.mv (.t 7)), o 39 (.faddr 3 (.t 5)), o 40 (.load false 1 (.t 39)), o 41 (.len .sl (.t 40)), o 42 (.bin .lss .no (.t 38) (.t 41))]) (
 .cond (.t 42) (.skip) (.exit 2))) (
 .seq (.block 3 (.reg [o 45 (.mv (.t 6)), o 46 (.mv (.t 3)), o 47 (.faddr 3 (.t 5)), o 48 (.load false 1 (.t 47)), o 49 (.mv (.t 7)), o 50 (.iaddr 3 (.t 48) (.t 49)), o 51 (.faddr 2 (.t 50)), o 52 (.load false 1 (.t 51)), o 53 (.iaddr 1 (.t 46) (.t 52)), o 54 (.load false 1 (.t 53)), o 55 (.max [.t 45, .t 54]), o 6 (.mv (.t 55))])) (
 .reg [o 43 (.mv (.t 7)), o 44 (.bin .add .no (.t 43) (.c (.int .i64 1))), o 7 (.mv (.t 44))]))
def b31x0 : CC := .seq (.seq (.reg [o 8 (.mv (.t 4)), o 9 (.faddr 0 (.t 1)), o 10 (.load false 1 (.t 9)), o 11 (.len .sl (.t 10)), o 12 (.bin .lss .no (.t 8) (.t 11))]) (
 .cond (.t 12) (.skip) (.exit 0))) (
 .seq (.block 1 (.seq (.reg [o 15 (.faddr 0 (.t 1)), o 16 (.load false 1 (.t 15)), o 17 (.mv (.t 4)), o 18 (.iaddr 4 (.t 16) (.t 17)), o 19 (.load true 4 (.t 18)), o 5 (.alloc [.int .i64 0, .int .i64 0, .int .i64 0, .nils]), x (.store 4 (.t 5) (.t 19))]) (
 .seq (.reg [o 6 (.mv (.c (.int .i64 0)))]) (
 .seq (.seq (.reg [o 20 (.faddr 0 (.t 5)), o 21 (.load false 1 (.t 20)), o 22 (.bin .eql .no (.t 21) (.c (.int .i64 4))), o 23 (.mv (.t 22)), g (some 24) 23 false (.faddr 0 (.t 5)), g (some 25) 23 false (.load false 1 (.t 24)), g (some 26) 23 false (.bin .eql .no (.t 25) (.c (.int .i64 5))), o 27 (.pick (.t 23) (.c (.bool true)) (.t 26)), o 28 (.mv (.t 27)), g (some 29) 28 false (.faddr 0 (.t 5)), g (some 30) 28 false (.load false 1 (.t 29)), g (some 31) 28 false (.bin .eql .no (.t 30) (.c (.int .i64 6))), o 32 (.pick (.t 28) (.c (.bool true)) (.t 31))]) (
 .cond (.t 32) (.reg [o 33 (.mv (.t 3)), o 34 (.faddr 2 (.t 5)), o 35 (.load false 1 (.t 34)), o 36 (.iaddr 1 (.t 33) (.t 35)), o 37 (.load false 1 (.t 36)), o 6 (.mv (.t 37))]) (.skip))) (
 .seq (.seq (.reg [o 7 (.mv (.c (.int .i64 0)))]) (
 .block 2 (.loop (some [1, 3, 4, 5, 6, 7]) b31x2))) (
 .reg [o 56 (.mv (.t 3)), o 57 (.mv (.t 6)), o 58 (.bin .add .no (.t 57) (.c (.int .i64 1))), o 59 (.bslice [.int .i64 0] 1 [(0, (.t 58))]), o 60 (.append 1 8 false (.t 56) (.t 59)), o 3 (.mv (.t 60))])))))) (
 .reg [o 13 (.mv (.t 4)), o 14 (.bin .add .no (.t 13) (.c (.int .i64 1))), o 4 (.mv (.t 14))]))
def c31 : CFn := ⟨62, [.t 2], .seq (.reg [o 1 (.box 2 (.t 0)), o 2 (.mv (.c (.nils)))]) (
 .seq (.reg [⟨(some 3), none, .mv (.c (.nils)), [], [(0, 1)], 0, 0, []⟩]) (
 .seq (.seq (.reg [o 4 (.mv (.c (.int .i64 0)))]) (
 .block 0 (.loop (some [1, 3, 4]) b31x0))) (
 .seq (.reg [o 61 (.mv (.t 3)), ⟨(some 2), none, .mv (.t 61), [.freeze 61 none 1], [], 0, 0, []⟩]) (
 .ret))))⟩
theorem q31 : table Try.prog A0 31 = some c31 := by kernel_rfl

/-! mortise/mortiseref05.Name -/
def b32x0 : CC := .seq (.seq (.reg [o 21 (.mv (.t 3)), o 22 (.mv (.t 0)), o 23 (.len .str (.t 22)), o 24 (.bin .lss .no (.t 21) (.t 23))]) (
 .cond (.t 24) (.skip) (.exit 0))) (
 .seq (.block 1 (.seq (.reg [o 27 (.mv (.t 0)), o 28 (.mv (.t 3)), o 29 (.index (.t 27) (.t 28)), o 30 (.call (.c (.fn 55 [])) [.t 29]), o 31 (.una .not (.t 30))]) (
 .cond (.t 31) (.seq (.reg [o 2 (.mv (.c (.bool false)))]) (
 .ret)) (.skip)))) (
 .reg [o 25 (.mv (.t 3)), o 26 (.bin .add .no (.t 25) (.c (.int .i64 1))), o 3 (.mv (.t 26))]))
def c32 : CFn := ⟨32, [.t 2], .seq (.reg [o 2 (.mv (.c (.bool false)))]) (
 .seq (.seq (.reg [o 4 (.mv (.t 0)), o 5 (.bin .eql .no (.t 4) (.c (.str []))), o 6 (.mv (.t 5)), g (some 7) 6 false (.mv (.t 0)), g (some 8) 6 false (.len .str (.t 7)), g (some 9) 6 false (.bin .gtr .no (.t 8) (.c (.int .i64 32))), o 10 (.pick (.t 6) (.c (.bool true)) (.t 9)), o 11 (.mv (.t 10)), g (some 12) 11 false (.mv (.t 0)), g (some 13) 11 false (.index (.t 12) (.c (.int .i64 0))), g (some 14) 11 false (.call (.c (.fn 53 [])) [.t 13]), g (some 15) 11 false (.una .not (.t 14)), o 16 (.pick (.t 11) (.c (.bool true)) (.t 15)), o 17 (.mv (.t 16)), g (some 18) 17 false (.mv (.t 0)), g (some 19) 17 false (.call (.c (.fn 54 [])) [.t 18]), o 20 (.pick (.t 17) (.c (.bool true)) (.t 19))]) (
 .cond (.t 20) (.seq (.reg [o 2 (.mv (.c (.bool false)))]) (
 .ret)) (.skip))) (
 .seq (.seq (.reg [o 3 (.mv (.c (.int .i64 0)))]) (
 .block 0 (.loop (some [0, 3]) b32x0))) (
 .seq (.reg [o 2 (.mv (.c (.bool true)))]) (
 .ret))))⟩
theorem q32 : table Try.prog A0 32 = some c32 := by kernel_rfl

/-! mortise/mortiseref09.in -/
def c33 : CFn := ⟨15, [.t 6], .seq (.reg [o 6 (.mv (.c (.bool false)))]) (
 .seq (.reg [o 7 (.mv (.t 0)), o 8 (.mv (.t 1)), o 9 (.bin .geq .no (.t 7) (.t 8)), o 10 (.mv (.t 9)), g (some 11) 10 true (.mv (.t 0)), g (some 12) 10 true (.mv (.t 2)), g (some 13) 10 true (.bin .leq .no (.t 11) (.t 12)), o 14 (.pick (.t 10) (.t 13) (.c (.bool false))), o 6 (.mv (.t 14))]) (
 .ret))⟩
theorem q33 : table Try.prog A0 33 = some c33 := by kernel_rfl

/-! mortise/mortiseref10.one -/
def b34x1 : CC := .seq (.seq (.reg [o 102 (.mv (.t 10)), o 103 (.faddr 3 (.t 2)), o 104 (.load false 1 (.t 103)), o 105 (.len .sl (.t 104)), o 106 (.bin .lss .no (.t 102) (.t 105))]) (
 .cond (.t 106) (.skip) (.exit 1))) (
 .seq (.block 2 (.seq (.reg [o 109 (.mv (.t 1)), o 110 (.faddr 3 (.t 2)), o 111 (.load false 1 (.t 110)), o 112 (.mv (.t 10)), o 113 (.iaddr 3 (.t 111) (.t 112)), o 114 (.faddr 2 (.t 113)), o 115 (.load false 1 (.t 114)), o 116 (.iaddr 4 (.t 109) (.t 115)), o 117 (.load true 4 (.t 116)), o 11 (.alloc [.bool false, .int .i64 0, .int .i64 0, .int .i64 0]), x (.store 4 (.t 11) (.t 117))]) (
 .reg [o 118 (.faddr 1 (.t 9)), o 119 (.load false 1 (.t 118)), o 120 (.faddr 1 (.t 11)), o 121 (.load false 1 (.t 120)), o 122 (.min [.t 119, .t 121]), o 123 (.faddr 2 (.t 9)), o 124 (.load false 1 (.t 123)), o 125 (.faddr 2 (.t 11)), o 126 (.load false 1 (.t 125)), o 127 (.max [.t 124, .t 126]), o 128 (.faddr 3 (.t 9)), o 129 (.load false 1 (.t 128)), o 130 (.faddr 3 (.t 11)), o 131 (.load false 1 (.t 130)), o 132 (.max [.t 129, .t 131]), o 133 (.build [.bool false, .int .i64 0, .int .i64 0, .int .i64 0] [(1, 1, (.t 122)), (2, 1, (.t 127)), (3, 1, (.t 132))]), x (.store 4 (.t 9) (.t 133))]))) (
 .reg [o 107 (.mv (.t 10)), o 108 (.bin .add .no (.t 107) (.c (.int .i64 1))), o 10 (.mv (.t 108))]))
def b34x3 : CC := .seq (.seq (.reg [o 147 (.mv (.t 13)), o 148 (.faddr 3 (.t 2)), o 149 (.load false 1 (.t 148)), o 150 (.len .sl (.t 149)), o 151 (.bin .lss .no (.t 147) (.t 150))]) (
 .cond (.t 151) (.skip) (.exit 3))) (
 .seq (.block 4 (.seq (.reg [o 154 (.mv (.t 1)), o 155 (.faddr 3 (.t 2)), o 156 (.load false 1 (.t 155)), o 157 (.mv (.t 13)), o 158 (.iaddr 3 (.t 156) (.t 157)), o 159 (.faddr 2 (.t 158)), o 160 (.load false 1 (.t 159)), o 161 (.iaddr 4 (.t 154) (.t 160)), o 162 (.load true 4 (.t 161)), o 14 (.alloc [.bool false, .int .i64 0, .int .i64 0, .int .i64 0]), x (.store 4 (.t 14) (.t 162))]) (
 .seq (.reg [o 164 (.load true 4 (.t 14)), o 165 (.call (.c (.fn 56 [])) [.t 164]), o 163 (.mv (.t 165)), o 166 (.extr (.t 163) 0), o 167 (.extr (.t 163) 1), o 15 (.mv (.t 166)), o 16 (.mv (.t 167))]) (
 .drw [⟨(some 168), none, .faddr 0 (.t 12), [], [], 0, 0, [12]⟩, ⟨(some 169), none, .load false 1 (.t 168), [], [], 0, 0, [168]⟩, ⟨(some 170), none, .mv (.t 169), [], [], 0, 0, [169]⟩, ⟨(some 171), (some (170, true)), .faddr 0 (.t 14), [], [], 0, 2, [14]⟩, ⟨(some 172), (some (170, true)), .load false 1 (.t 171), [], [], 0, 2, [171]⟩, ⟨(some 173), none, .pick (.t 170) (.t 172) (.c (.bool false)), [], [], 0, 2, [170, 172]⟩, ⟨(some 174), none, .faddr 1 (.t 12), [], [], 0, 0, [12]⟩, ⟨(some 175), none, .load false 1 (.t 174), [], [], 0, 0, [174]⟩, ⟨(some 176), none, .mv (.t 15), [], [], 0, 0, [15]⟩, ⟨(some 177), none, .call (.c (.fn 58 [])) [.t 175, .t 176], [], [], 0, 1, [175, 176]⟩, ⟨(some 178), none, .faddr 2 (.t 12), [], [], 0, 1, [12]⟩, ⟨(some 179), none, .load false 1 (.t 178), [], [], 0, 1, [178]⟩, ⟨(some 180), none, .mv (.t 16), [], [], 0, 1, [16]⟩, ⟨(some 181), none, .call (.c (.fn 58 [])) [.t 179, .t 180], [], [], 1, 2, [179, 180]⟩, ⟨(some 182), none, .faddr 3 (.t 12), [], [], 0, 2, [12]⟩, ⟨(some 183), none, .load false 1 (.t 182), [], [], 0, 2, [182]⟩, ⟨(some 184), none, .faddr 3 (.t 14), [], [], 0, 2, [14]⟩, ⟨(some 185), none, .load false 1 (.t 184), [], [], 0, 2, [184]⟩, ⟨(some 186), none, .max [.t 183, .t 185], [], [], 0, 2, [183, 185]⟩, ⟨(some 187), none, .build [.bool false, .int .i64 0, .int .i64 0, .int .i64 0] [(0, 1, (.t 173)), (1, 1, (.t 177)), (2, 1, (.t 181)), (3, 1, (.t 186))], [], [], 2, 2, [173, 177, 181, 186]⟩, ⟨none, none, .store 4 (.t 12) (.t 187), [], [], 2, 3, [12, 187]⟩])))) (
 .reg [o 152 (.mv (.t 13)), o 153 (.bin .add .no (.t 152) (.c (.int .i64 1))), o 13 (.mv (.t 153))]))
def c34 : CFn := ⟨195, [.cell 4 true 4], .seq (.reg [o 2 (.box 4 (.t 0)), o 4 (.alloc [.bool false, .int .i64 0, .int .i64 0, .int .i64 0])]) (
 .seq (.seq (.reg [o 17 (.faddr 0 (.t 2)), o 18 (.load false 1 (.t 17))]) (
 .block 0 (.seq (.reg [o 20 (.bin .eql .no (.t 18) (.c (.int .i64 4))), o 19 (.mv (.t 20))]) (
 .cond (.t 19) (.seq (.reg [o 22 (.mv (.t 1)), o 23 (.faddr 2 (.t 2)), o 24 (.load false 1 (.t 23)), o 25 (.iaddr 4 (.t 22) (.t 24)), o 26 (.load true 4 (.t 25)), o 27 (.call (.c (.fn 56 [])) [.t 26]), o 21 (.mv (.t 27)), o 28 (.extr (.t 21) 0), o 29 (.extr (.t 21) 1), o 5 (.mv (.t 28)), o 6 (.mv (.t 29))]) (
 .seq (.drw [⟨(some 30), none, .mv (.t 1), [], [], 0, 2, [1]⟩, ⟨(some 31), none, .faddr 2 (.t 2), [], [], 0, 2, [2]⟩, ⟨(some 32), none, .load false 1 (.t 31), [], [], 0, 2, [31]⟩, ⟨(some 33), none, .iaddr 4 (.t 30) (.t 32), [], [], 0, 2, [30, 32]⟩, ⟨(some 34), none, .faddr 0 (.t 33), [], [], 0, 2, [33]⟩, ⟨(some 35), none, .load false 1 (.t 34), [], [], 0, 2, [34]⟩, ⟨(some 36), none, .faddr 1 (.t 2), [], [], 0, 0, [2]⟩, ⟨(some 37), none, .load false 1 (.t 36), [], [], 0, 0, [36]⟩, ⟨(some 38), none, .mv (.t 5), [], [], 0, 0, [5]⟩, ⟨(some 39), none, .call (.c (.fn 57 [])) [.t 37, .t 38], [], [], 0, 1, [37, 38]⟩, ⟨(some 40), none, .faddr 1 (.t 2), [], [], 0, 1, [2]⟩, ⟨(some 41), none, .load false 1 (.t 40), [], [], 0, 1, [40]⟩, ⟨(some 42), none, .mv (.t 6), [], [], 0, 1, [6]⟩, ⟨(some 43), none, .call (.c (.fn 57 [])) [.t 41, .t 42], [], [], 1, 2, [41, 42]⟩, ⟨(some 44), none, .mv (.t 1), [], [], 0, 2, [1]⟩, ⟨(some 45), none, .faddr 2 (.t 2), [], [], 0, 2, [2]⟩, ⟨(some 46), none, .load false 1 (.t 45), [], [], 0, 2, [45]⟩, ⟨(some 47), none, .iaddr 4 (.t 44) (.t 46), [], [], 0, 2, [44, 46]⟩, ⟨(some 48), none, .faddr 3 (.t 47), [], [], 0, 2, [47]⟩, ⟨(some 49), none, .load false 1 (.t 48), [], [], 0, 2, [48]⟩, ⟨(some 50), none, .bin .add .no (.c (.int .i64 1)) (.t 49), [], [], 0, 2, [49]⟩, ⟨(some 51), none, .build [.bool false, .int .i64 0, .int .i64 0, .int .i64 0] [(0, 1, (.t 35)), (1, 1, (.t 39)), (2, 1, (.t 43)), (3, 1, (.t 50))], [], [], 2, 2, [35, 39, 43, 50]⟩, ⟨none, none, .store 4 (.t 4) (.t 51), [], [], 2, 3, [4, 51]⟩]) (
 .ret))) (.seq (.reg [o 53 (.bin .eql .no (.t 18) (.c (.int .i64 5))), o 52 (.mv (.t 53))]) (
 .cond (.t 52) (.seq (.reg [o 55 (.mv (.t 1)), o 56 (.faddr 2 (.t 2)), o 57 (.load false 1 (.t 56)), o 58 (.iaddr 4 (.t 55) (.t 57)), o 59 (.load true 4 (.t 58)), o 60 (.call (.c (.fn 56 [])) [.t 59]), o 54 (.mv (.t 60)), o 61 (.extr (.t 54) 0), o 62 (.extr (.t 54) 1), o 7 (.mv (.t 61)), o 8 (.mv (.t 62))]) (
 .seq (.drw [⟨(some 63), none, .faddr 1 (.t 2), [], [], 0, 0, [2]⟩, ⟨(some 64), none, .load false 1 (.t 63), [], [], 0, 0, [63]⟩, ⟨(some 65), none, .mv (.t 8), [], [], 0, 0, [8]⟩, ⟨(some 66), none, .call (.c (.fn 57 [])) [.t 64, .t 65], [], [], 0, 1, [64, 65]⟩, ⟨(some 67), none, .mv (.t 1), [], [], 0, 1, [1]⟩, ⟨(some 68), none, .faddr 2 (.t 2), [], [], 0, 1, [2]⟩, ⟨(some 69), none, .load false 1 (.t 68), [], [], 0, 1, [68]⟩, ⟨(some 70), none, .iaddr 4 (.t 67) (.t 69), [], [], 0, 1, [67, 69]⟩, ⟨(some 71), none, .faddr 3 (.t 70), [], [], 0, 1, [70]⟩, ⟨(some 72), none, .load false 1 (.t 71), [], [], 0, 1, [71]⟩, ⟨(some 73), none, .bin .add .no (.c (.int .i64 1)) (.t 72), [], [], 0, 1, [72]⟩, ⟨(some 74), none, .build [.bool false, .int .i64 0, .int .i64 0, .int .i64 0] [(1, 1, (.c (.int .i64 0))), (2, 1, (.t 66)), (3, 1, (.t 73))], [], [], 1, 1, [66, 73]⟩, ⟨none, none, .store 4 (.t 4) (.t 74), [], [], 1, 2, [4, 74]⟩]) (
 .ret))) (.seq (.reg [o 76 (.bin .eql .no (.t 18) (.c (.int .i64 6))), o 75 (.mv (.t 76))]) (
 .cond (.t 75) (.seq (.drw [⟨(some 77), none, .mv (.t 1), [], [], 0, 0, [1]⟩, ⟨(some 78), none, .faddr 2 (.t 2), [], [], 0, 0, [2]⟩, ⟨(some 79), none, .load false 1 (.t 78), [], [], 0, 0, [78]⟩, ⟨(some 80), none, .iaddr 4 (.t 77) (.t 79), [], [], 0, 0, [77, 79]⟩, ⟨(some 81), none, .faddr 2 (.t 80), [], [], 0, 0, [80]⟩, ⟨(some 82), none, .load false 1 (.t 81), [], [], 0, 0, [81]⟩, ⟨(some 83), none, .call (.c (.fn 58 [])) [.c (.int .i64 1), .t 82], [], [], 0, 1, [82]⟩, ⟨(some 84), none, .mv (.t 1), [], [], 0, 1, [1]⟩, ⟨(some 85), none, .faddr 2 (.t 2), [], [], 0, 1, [2]⟩, ⟨(some 86), none, .load false 1 (.t 85), [], [], 0, 1, [85]⟩, ⟨(some 87), none, .iaddr 4 (.t 84) (.t 86), [], [], 0, 1, [84, 86]⟩, ⟨(some 88), none, .faddr 3 (.t 87), [], [], 0, 1, [87]⟩, ⟨(some 89), none, .load false 1 (.t 88), [], [], 0, 1, [88]⟩, ⟨(some 90), none, .bin .add .no (.c (.int .i64 1)) (.t 89), [], [], 0, 1, [89]⟩, ⟨(some 91), none, .build [.bool false, .int .i64 0, .int .i64 0, .int .i64 0] [(1, 1, (.c (.int .i64 1))), (2, 1, (.t 83)), (3, 1, (.t 90))], [], [], 1, 1, [83, 90]⟩, ⟨none, none, .store 4 (.t 4) (.t 91), [], [], 1, 2, [4, 91]⟩]) (
 .ret)) (.seq (.reg [o 93 (.bin .eql .no (.t 18) (.c (.int .i64 7))), o 92 (.mv (.t 93))]) (
 .cond (.t 92) (.seq (.reg [o 94 (.mv (.t 1)), o 95 (.faddr 3 (.t 2)), o 96 (.load false 1 (.t 95)), o 97 (.iaddr 3 (.t 96) (.c (.int .i64 0))), o 98 (.faddr 2 (.t 97)), o 99 (.load false 1 (.t 98)), o 100 (.iaddr 4 (.t 94) (.t 99)), o 101 (.load true 4 (.t 100)), o 9 (.alloc [.bool false, .int .i64 0, .int .i64 0, .int .i64 0]), x (.store 4 (.t 9) (.t 101))]) (
 .seq (.seq (.reg [o 10 (.mv (.c (.int .i64 1)))]) (
 .block 1 (.loop (some [1, 2, 4, 9, 10]) b34x1))) (
 .seq (.drw [⟨(some 134), none, .faddr 1 (.t 9), [], [], 0, 0, [9]⟩, ⟨(some 135), none, .load false 1 (.t 134), [], [], 0, 0, [134]⟩, ⟨(some 136), none, .call (.c (.fn 58 [])) [.c (.int .i64 1), .t 135], [], [], 0, 1, [135]⟩, ⟨(some 137), none, .faddr 2 (.t 9), [], [], 0, 1, [9]⟩, ⟨(some 138), none, .load false 1 (.t 137), [], [], 0, 1, [137]⟩, ⟨(some 139), none, .call (.c (.fn 58 [])) [.c (.int .i64 1), .t 138], [], [], 1, 2, [138]⟩, ⟨(some 140), none, .faddr 3 (.t 9), [], [], 0, 2, [9]⟩, ⟨(some 141), none, .load false 1 (.t 140), [], [], 0, 2, [140]⟩, ⟨(some 142), none, .bin .add .no (.c (.int .i64 1)) (.t 141), [], [], 0, 2, [141]⟩, ⟨(some 143), none, .build [.bool false, .int .i64 0, .int .i64 0, .int .i64 0] [(1, 1, (.t 136)), (2, 1, (.t 139)), (3, 1, (.t 142))], [], [], 2, 2, [136, 139, 142]⟩, ⟨none, none, .store 4 (.t 4) (.t 143), [], [], 2, 3, [4, 143]⟩]) (
 .ret)))) (.seq (.reg [o 145 (.bin .eql .no (.t 18) (.c (.int .i64 8))), o 144 (.mv (.t 145))]) (
 .cond (.t 144) (.seq (.reg [o 146 (.build [.bool false, .int .i64 0, .int .i64 0, .int .i64 0] [(0, 1, (.c (.bool true)))]), o 12 (.alloc [.bool false, .int .i64 0, .int .i64 0, .int .i64 0]), x (.store 4 (.t 12) (.t 146))]) (
 .seq (.seq (.reg [o 13 (.mv (.c (.int .i64 0)))]) (
 .block 3 (.loop (some [1, 2, 4, 12, 13]) b34x3))) (
 .seq (.reg [o 188 (.faddr 3 (.t 12)), o 189 (.load false 1 (.t 188)), o 190 (.bin .add .no (.t 189) (.c (.int .i64 1))), o 191 (.faddr 3 (.t 12)), x (.store 1 (.t 191) (.t 190))]) (
 .seq (.reg [o 192 (.load true 4 (.t 12)), x (.store 4 (.t 4) (.t 192))]) (
 .ret))))) (.skip))))))))))))) (
 .seq (.reg [o 193 (.load true 4 (.t 2)), o 194 (.call (.c (.fn 59 [])) [.t 193]), x (.store 4 (.t 4) (.t 194))]) (
 .ret)))⟩
theorem q34 : table Try.prog A0 34 = some c34 := by kernel_rfl

/-! mortise/mortiseref13.slot -/
def c35 : CFn := ⟨13, [.cell 4 true 3], .seq (.reg [o 2 (.box 4 (.t 0)), o 4 (.alloc [.int .i64 0, .bool false, .int .i64 0])]) (
 .seq (.seq (.reg [o 5 (.faddr 0 (.t 2)), o 6 (.load false 1 (.t 5))]) (
 .cond (.t 6) (.seq (.reg [o 7 (.mv (.t 1)), o 8 (.faddr 1 (.t 2)), o 9 (.load false 1 (.t 8)), o 10 (.build [.int .i64 0, .bool false, .int .i64 0] [(0, 1, (.t 7)), (2, 1, (.t 9))]), x (.store 3 (.t 4) (.t 10))]) (
 .ret)) (.skip))) (
 .seq (.reg [o 11 (.mv (.t 1)), o 12 (.build [.int .i64 0, .bool false, .int .i64 0] [(0, 1, (.t 11)), (1, 1, (.c (.bool true))), (2, 1, (.c (.int .i64 4)))]), x (.store 3 (.t 4) (.t 12))]) (
 .ret)))⟩
theorem q35 : table Try.prog A0 35 = some c35 := by kernel_rfl

/-! mortise/mortiseref13.plus -/
def c36 : CFn := ⟨12, [.t 4], .seq (.reg [o 4 (.mv (.c (.int .i64 0)))]) (
 .seq (.seq (.reg [o 5 (.mv (.t 0)), o 6 (.mv (.t 1)), o 7 (.bin .sub .no (.c (.int .i64 4611686018427387904)) (.t 6)), o 8 (.bin .gtr .no (.t 5) (.t 7))]) (
 .cond (.t 8) (.seq (.reg [o 4 (.mv (.c (.int .i64 4611686018427387904)))]) (
 .ret)) (.skip))) (
 .seq (.reg [o 9 (.mv (.t 0)), o 10 (.mv (.t 1)), o 11 (.bin .add .no (.t 9) (.t 10)), o 4 (.mv (.t 11))]) (
 .ret)))⟩
theorem q36 : table Try.prog A0 36 = some c36 := by kernel_rfl

/-! mortise/mortiseref13.times -/
def c37 : CFn := ⟨16, [.t 4], .seq (.reg [o 4 (.mv (.c (.int .i64 0)))]) (
 .seq (.seq (.reg [o 5 (.mv (.t 0)), o 6 (.bin .gtr .no (.t 5) (.c (.int .i64 0))), o 7 (.mv (.t 6)), g (some 8) 7 true (.mv (.t 1)), g (some 9) 7 true (.mv (.t 0)), g (some 10) 7 true (.bin .quo .no (.c (.int .i64 4611686018427387904)) (.t 9)), g (some 11) 7 true (.bin .gtr .no (.t 8) (.t 10)), o 12 (.pick (.t 7) (.t 11) (.c (.bool false)))]) (
 .cond (.t 12) (.seq (.reg [o 4 (.mv (.c (.int .i64 4611686018427387904)))]) (
 .ret)) (.skip))) (
 .seq (.reg [o 13 (.mv (.t 0)), o 14 (.mv (.t 1)), o 15 (.bin .mul .no (.t 13) (.t 14)), o 4 (.mv (.t 15))]) (
 .ret)))⟩
theorem q37 : table Try.prog A0 37 = some c37 := by kernel_rfl

/-! (*mortise/mortiseref17.maker).lay -/
def c38 : CFn := ⟨26, [], .reg [o 10 (.mv (.t 0)), o 11 (.mv (.t 0)), o 12 (.nilchk (.t 11)), o 13 (.faddr 4 (.t 12)), o 14 (.faddr 1 (.t 13)), o 15 (.load false 1 (.t 14)), o 16 (.mv (.t 1)), o 17 (.mv (.t 2)), o 18 (.mv (.t 3)), o 19 (.mv (.t 4)), o 20 (.build [.int .i64 0, .int .i64 0, .int .i64 0, .int .i64 0] [(0, 1, (.t 16)), (1, 1, (.t 17)), (2, 1, (.t 18)), (3, 1, (.t 19))]), o 21 (.bslice [.int .i64 0, .int .i64 0, .int .i64 0, .int .i64 0] 1 [(0, (.t 20))]), o 22 (.append 4 32 false (.t 15) (.t 21)), o 23 (.nilchk (.t 10)), o 24 (.faddr 4 (.t 23)), o 25 (.faddr 1 (.t 24)), x (.store 1 (.t 25) (.t 22))]⟩
theorem q38 : table Try.prog A0 38 = some c38 := by kernel_rfl

/-! (*mortise/mortiseref17.maker).row -/
def c39 : CFn := ⟨69, [], .seq (.reg [o 3 (.box 4 (.t 1))]) (
 .seq (.drw [⟨(some 7), none, .mv (.t 0), [], [], 0, 0, [0]⟩, ⟨(some 8), none, .nilchk (.t 7), [], [], 0, 0, [7]⟩, ⟨(some 9), none, .faddr 2 (.t 8), [], [], 0, 0, [8]⟩, ⟨(some 10), none, .load false 1 (.t 9), [], [], 0, 0, [9]⟩, ⟨(some 11), none, .faddr 2 (.t 3), [], [], 0, 0, [3]⟩, ⟨(some 12), none, .load false 1 (.t 11), [], [], 0, 0, [11]⟩, ⟨(some 13), none, .iaddr 4 (.t 10) (.t 12), [], [], 0, 0, [10, 12]⟩, ⟨(some 14), none, .faddr 0 (.t 13), [], [], 0, 0, [13]⟩, ⟨(some 15), none, .load false 1 (.t 14), [], [], 0, 0, [14]⟩, ⟨(some 4), none, .mv (.t 15), [], [], 0, 0, [15]⟩]) (
 .seq (.seq (.reg [o 16 (.faddr 0 (.t 3)), o 17 (.load false 1 (.t 16)), o 18 (.bin .eql .no (.t 17) (.c (.int .i64 4)))]) (
 .cond (.t 18) (.reg [o 19 (.mv (.t 0)), o 20 (.faddr 1 (.t 3)), o 21 (.load false 1 (.t 20)), o 22 (.call (.c (.fn 38 [])) [.t 19, .c (.int .i64 37), .t 21, .c (.int .i64 0), .c (.int .i64 0)])]) (.reg [o 23 (.mv (.t 0)), o 24 (.faddr 1 (.t 3)), o 25 (.load false 1 (.t 24)), o 26 (.call (.c (.fn 38 [])) [.t 23, .c (.int .i64 38), .t 25, .c (.int .i64 0), .c (.int .i64 0)])]))) (
 .seq (.seq (.reg [o 27 (.mv (.t 4)), o 28 (.una .not (.t 27))]) (
 .cond (.t 28) (.reg [o 29 (.mv (.t 0)), o 30 (.call (.c (.fn 38 [])) [.t 29, .c (.int .i64 42), .c (.int .i64 (-1)), .c (.int .i64 0), .c (.int .i64 0)])]) (.skip))) (
 .seq (.reg [o 5 (.mv (.c (.int .i64 1)))]) (
 .seq (.seq (.reg [o 31 (.mv (.t 4)), o 32 (.una .not (.t 31))]) (
 .cond (.t 32) (.reg [o 5 (.mv (.c (.int .i64 2)))]) (.skip))) (
 .seq (.seq (.reg [o 33 (.faddr 0 (.t 3)), o 34 (.load false 1 (.t 33)), o 35 (.bin .eql .no (.t 34) (.c (.int .i64 5)))]) (
 .cond (.t 35) (.reg [o 36 (.mv (.t 0)), o 37 (.mv (.t 0)), o 38 (.nilchk (.t 37)), o 39 (.faddr 4 (.t 38)), o 40 (.faddr 1 (.t 39)), o 41 (.load false 1 (.t 40)), o 42 (.len .sl (.t 41)), o 43 (.bin .add .no (.t 42) (.c (.int .i64 1))), o 44 (.mv (.t 5)), o 45 (.bin .add .no (.t 43) (.t 44)), o 46 (.call (.c (.fn 38 [])) [.t 36, .c (.int .i64 19), .c (.int .i64 0), .t 45, .c (.int .i64 0)])]) (.skip))) (
 .seq (.reg [o 47 (.mv (.t 0)), o 48 (.nilchk (.t 47)), o 49 (.faddr 4 (.t 48)), o 50 (.faddr 1 (.t 49)), o 51 (.load false 1 (.t 50)), o 52 (.len .sl (.t 51)), o 6 (.mv (.t 52))]) (
 .seq (.seq (.reg [o 53 (.mv (.t 4))]) (
 .cond (.t 53) (.reg [o 54 (.mv (.t 0)), o 55 (.faddr 2 (.t 3)), o 56 (.load false 1 (.t 55)), o 57 (.call (.c (.fn 60 [])) [.t 54, .t 56])]) (.seq (.reg [o 58 (.mv (.t 0)), o 59 (.call (.c (.fn 38 [])) [.t 58, .c (.int .i64 43), .c (.int .i64 (-1)), .c (.int .i64 0), .c (.int .i64 0)])]) (
 .reg [o 60 (.mv (.t 0)), o 61 (.faddr 2 (.t 3)), o 62 (.load false 1 (.t 61)), o 63 (.call (.c (.fn 38 [])) [.t 60, .c (.int .i64 46), .c (.int .i64 0), .c (.int .i64 0), .t 62])])))) (
 .seq (.reg [o 64 (.mv (.t 0)), o 65 (.mv (.t 6)), o 66 (.call (.c (.fn 38 [])) [.t 64, .c (.int .i64 47), .c (.int .i64 0), .t 65, .c (.int .i64 0)])]) (
 .reg [o 67 (.mv (.t 0)), o 68 (.call (.c (.fn 38 [])) [.t 67, .c (.int .i64 20), .c (.int .i64 0), .c (.int .i64 0), .c (.int .i64 0)])]))))))))))⟩
theorem q39 : table Try.prog A0 39 = some c39 := by kernel_rfl

/-! (*mortise/mortiseref17.maker).at -/
def c40 : CFn := ⟨38, [], .seq (.reg [o 6 (.mv (.t 0)), o 7 (.nilchk (.t 6)), o 8 (.faddr 0 (.t 7)), o 9 (.faddr 0 (.t 8)), o 10 (.load false 1 (.t 9)), o 11 (.mv (.t 1)), o 12 (.iaddr 4 (.t 10) (.t 11)), o 13 (.faddr 0 (.t 12)), o 14 (.load false 1 (.t 13))]) (
 .block 0 (.seq (.reg [o 20 (.bin .eql .no (.t 14) (.c (.int .i64 1))), o 19 (.mv (.t 20))]) (
 .cond (.t 19) (.reg [o 21 (.mv (.t 0)), o 22 (.mv (.t 2)), o 23 (.mv (.t 0)), o 24 (.nilchk (.t 23)), o 25 (.faddr 0 (.t 24)), o 26 (.faddr 0 (.t 25)), o 27 (.load false 1 (.t 26)), o 28 (.mv (.t 1)), o 29 (.iaddr 4 (.t 27) (.t 28)), o 30 (.faddr 1 (.t 29)), o 31 (.load false 1 (.t 30)), o 32 (.call (.c (.fn 38 [])) [.t 21, .c (.int .i64 33), .t 22, .t 31, .c (.int .i64 0)])]) (.seq (.reg [o 34 (.bin .eql .no (.t 14) (.c (.int .i64 2))), o 33 (.mv (.t 34))]) (
 .cond (.t 33) (.reg [o 35 (.mv (.t 0)), o 36 (.mv (.t 2)), o 37 (.call (.c (.fn 38 [])) [.t 35, .c (.int .i64 35), .t 36, .c (.int .i64 0), .c (.int .i64 0)])]) (.reg [o 15 (.mv (.t 0)), o 16 (.mv (.t 2)), o 17 (.mv (.t 1)), o 18 (.call (.c (.fn 38 [])) [.t 15, .c (.int .i64 44), .t 16, .c (.int .i64 0), .t 17])]))))))⟩
theorem q40 : table Try.prog A0 40 = some c40 := by kernel_rfl

/-! mortise/types.number -/
def c41 : CFn := ⟨33, [.t 4], .seq (.reg [o 4 (.mv (.c (.bool false)))]) (
 .seq (.seq (.reg [o 5 (.mv (.t 0))]) (
 .block 0 (.seq (.reg [o 7 (.bin .eql .no (.t 5) (.c (.int .i64 1))), o 6 (.mv (.t 7))]) (
 .cond (.t 6) (.seq (.reg [o 8 (.mv (.t 1)), o 9 (.bin .eql .no (.t 8) (.c (.int .i64 1))), o 10 (.mv (.t 9)), g (some 11) 10 false (.mv (.t 1)), g (some 12) 10 false (.bin .eql .no (.t 11) (.c (.int .i64 2))), o 13 (.pick (.t 10) (.c (.bool true)) (.t 12)), o 14 (.mv (.t 13)), g (some 15) 14 false (.mv (.t 1)), g (some 16) 14 false (.bin .eql .no (.t 15) (.c (.int .i64 4))), o 17 (.pick (.t 14) (.c (.bool true)) (.t 16)), o 18 (.mv (.t 17)), g (some 19) 18 false (.mv (.t 1)), g (some 20) 18 false (.bin .eql .no (.t 19) (.c (.int .i64 8))), o 21 (.pick (.t 18) (.c (.bool true)) (.t 20)), o 4 (.mv (.t 21))]) (
 .ret)) (.seq (.seq (.reg [o 23 (.bin .eql .no (.t 5) (.c (.int .i64 4))), o 22 (.mv (.t 23))]) (
 .cond (.t 22) (.skip) (.reg [o 24 (.bin .eql .no (.t 5) (.c (.int .i64 5))), o 22 (.mv (.t 24))]))) (
 .cond (.t 22) (.seq (.reg [o 25 (.mv (.t 1)), o 26 (.bin .geq .no (.t 25) (.c (.int .i64 1))), o 27 (.mv (.t 26)), g (some 28) 27 true (.mv (.t 1)), g (some 29) 27 true (.bin .leq .no (.t 28) (.c (.int .i64 1048576))), o 30 (.pick (.t 27) (.t 29) (.c (.bool false))), o 4 (.mv (.t 30))]) (
 .ret)) (.skip))))))) (
 .seq (.reg [o 31 (.mv (.t 1)), o 32 (.bin .eql .no (.t 31) (.c (.int .i64 0))), o 4 (.mv (.t 32))]) (
 .ret)))⟩
theorem q41 : table Try.prog A0 41 = some c41 := by kernel_rfl

/-! mortise/types.parts -/
def b42x0 : CC := .seq (.reg [o 29 (.bin .lss .no (.t 28) (.t 27))]) (
 .seq (.cond (.t 29) (.skip) (.exit 0)) (
 .seq (.block 1 (.seq (.reg [o 30 (.mv (.t 28)), o 31 (.iaddr 3 (.t 26) (.t 28)), o 32 (.load true 3 (.t 31)), o 10 (.alloc [.str [], .int .i64 0, .int .i64 0]), o 9 (.mv (.t 30)), x (.store 3 (.t 10) (.t 32))]) (
 .seq (.reg [o 33 (.faddr 2 (.t 10)), o 34 (.load false 1 (.t 33)), o 35 (.build [.str [], .int .i64 0, .int .i64 0] [(2, 1, (.t 34))]), o 11 (.alloc [.str [], .int .i64 0, .int .i64 0]), x (.store 3 (.t 11) (.t 35))]) (
 .seq (.seq (.reg [o 36 (.faddr 0 (.t 3)), o 37 (.load false 1 (.t 36)), o 38 (.bin .eql .no (.t 37) (.c (.int .i64 8)))]) (
 .cond (.t 38) (.seq (.reg [o 39 (.faddr 0 (.t 10)), o 40 (.load false 1 (.t 39)), o 41 (.faddr 0 (.t 11)), x (.store 1 (.t 41) (.t 40))]) (
 .seq (.reg [o 42 (.mv (.t 7)), o 43 (.faddr 0 (.t 10)), o 44 (.load false 1 (.t 43)), o 45 (.mv (.t 9)), x (.mapput .str (.t 42) (.t 44) (.t 45))]) (
 .seq (.reg [o 46 (.faddr 0 (.t 10)), o 47 (.load false 1 (.t 46)), o 48 (.call (.c (.fn 22 [])) [.t 47]), o 49 (.una .not (.t 48))]) (
 .cond (.t 49) (.seq (.reg [o 6 (.mv (.c (.bool false)))]) (
 .ret)) (.skip))))) (.seq (.reg [o 50 (.faddr 1 (.t 10)), o 51 (.load false 1 (.t 50)), o 52 (.faddr 1 (.t 11)), x (.store 1 (.t 52) (.t 51))]) (
 .seq (.reg [o 53 (.mv (.t 8)), o 54 (.faddr 1 (.t 10)), o 55 (.load false 1 (.t 54)), o 56 (.mv (.t 9)), x (.mapput .int (.t 53) (.t 55) (.t 56))]) (
 .seq (.reg [o 57 (.faddr 1 (.t 10)), o 58 (.load false 1 (.t 57)), o 59 (.bin .lss .no (.t 58) (.c (.int .i64 0))), o 60 (.mv (.t 59)), g (some 61) 60 false (.faddr 1 (.t 10)), g (some 62) 60 false (.load false 1 (.t 61)), g (some 63) 60 false (.bin .gtr .no (.t 62) (.c (.int .i64 255))), o 64 (.pick (.t 60) (.c (.bool true)) (.t 63))]) (
 .cond (.t 64) (.seq (.reg [o 6 (.mv (.c (.bool false)))]) (
 .ret)) (.skip))))))) (
 .seq (.reg [o 65 (.load true 3 (.t 10)), o 66 (.load true 3 (.t 11)), o 67 (.bin .neq (.flat [.str, .int, .int]) (.t 65) (.t 66)), o 68 (.mv (.t 67)), g (some 69) 68 false (.faddr 2 (.t 10)), g (some 70) 68 false (.load false 1 (.t 69)), g (some 71) 68 false (.bin .lss .no (.t 70) (.c (.int .i64 0))), o 72 (.pick (.t 68) (.c (.bool true)) (.t 71)), o 73 (.mv (.t 72)), g (some 74) 73 false (.faddr 2 (.t 10)), g (some 75) 73 false (.load false 1 (.t 74)), g (some 76) 73 false (.mv (.t 1)), g (some 77) 73 false (.bin .geq .no (.t 75) (.t 76)), o 78 (.pick (.t 73) (.c (.bool true)) (.t 77)), o 79 (.mv (.t 78)), g (some 80) 79 false (.mv (.t 7)), g (some 81) 79 false (.len .mp (.t 80)), g (some 82) 79 false (.mv (.t 8)), g (some 83) 79 false (.len .mp (.t 82)), g (some 84) 79 false (.bin .add .no (.t 81) (.t 83)), g (some 85) 79 false (.mv (.t 9)), g (some 86) 79 false (.bin .add .no (.t 85) (.c (.int .i64 1))), g (some 87) 79 false (.bin .neq .no (.t 84) (.t 86)), o 88 (.pick (.t 79) (.c (.bool true)) (.t 87))]) (
 .cond (.t 88) (.seq (.reg [o 6 (.mv (.c (.bool false)))]) (
 .ret)) (.skip))))))) (
 .reg [o 89 (.bin .add .no (.t 28) (.c (.int .i64 1))), o 28 (.mv (.t 89))])))
def c42 : CFn := ⟨90, [.t 6], .seq (.reg [o 3 (.box 4 (.t 0)), o 6 (.mv (.c (.bool false)))]) (
 .seq (.seq (.reg [o 12 (.faddr 3 (.t 3)), o 13 (.load false 1 (.t 12)), o 14 (.len .sl (.t 13)), o 15 (.bin .lss .no (.t 14) (.c (.int .i64 1))), o 16 (.mv (.t 15)), g (some 17) 16 false (.faddr 3 (.t 3)), g (some 18) 16 false (.load false 1 (.t 17)), g (some 19) 16 false (.len .sl (.t 18)), g (some 20) 16 false (.mv (.t 2)), g (some 21) 16 false (.bin .gtr .no (.t 19) (.t 20)), o 22 (.pick (.t 16) (.c (.bool true)) (.t 21))]) (
 .cond (.t 22) (.seq (.reg [o 6 (.mv (.c (.bool false)))]) (
 .ret)) (.skip))) (
 .seq (.reg [o 23 (.mkmap), o 24 (.mkmap), o 7 (.mv (.t 23)), o 8 (.mv (.t 24))]) (
 .seq (.seq (.reg [o 25 (.faddr 3 (.t 3)), o 26 (.load false 1 (.t 25)), o 27 (.len .sl (.t 26)), o 28 (.mv (.c (.int .i64 0)))]) (
 .block 0 (.loop (some [1, 3, 7, 8, 26, 27, 28]) b42x0))) (
 .seq (.reg [o 6 (.mv (.c (.bool true)))]) (
 .ret)))))⟩
theorem q42 : table Try.prog A0 42 = some c42 := by kernel_rfl

/-! mortise/tokens.letter -/
def c43 : CFn := ⟨9, [.t 2], .seq (.reg [o 2 (.mv (.c (.bool false)))]) (
 .seq (.reg [o 3 (.mv (.t 0)), o 4 (.bin .geq .no (.t 3) (.c (.int .u8 97))), o 5 (.mv (.t 4)), g (some 6) 5 true (.mv (.t 0)), g (some 7) 5 true (.bin .leq .no (.t 6) (.c (.int .u8 122))), o 8 (.pick (.t 5) (.t 7) (.c (.bool false))), o 2 (.mv (.t 8))]) (
 .ret))⟩
theorem q43 : table Try.prog A0 43 = some c43 := by kernel_rfl

/-! mortise/tokens.run -/
def b44x0 : CC := .seq (.seq (.reg [o 7 (.mv (.t 1)), o 8 (.mv (.t 0)), o 9 (.len .str (.t 8)), o 10 (.bin .lss .no (.t 7) (.t 9)), o 11 (.mv (.t 10)), g (some 12) 11 true (.mv (.t 2)), g (some 13) 11 true (.mv (.t 0)), g (some 14) 11 true (.mv (.t 1)), g (some 15) 11 true (.index (.t 13) (.t 14)), g (some 16) 11 true (.call (.t 12) [.t 15]), o 17 (.pick (.t 11) (.t 16) (.c (.bool false)))]) (
 .cond (.t 17) (.skip) (.exit 0))) (
 .block 1 (.reg [o 18 (.mv (.t 1)), o 19 (.bin .add .no (.t 18) (.c (.int .i64 1))), o 1 (.mv (.t 19))]))
def c44 : CFn := ⟨21, [.t 6], .seq (.reg [o 6 (.mv (.c (.int .i64 0)))]) (
 .seq (.block 0 (.loop (some [0, 1, 2]) b44x0)) (
 .seq (.reg [o 20 (.mv (.t 1)), o 6 (.mv (.t 20))]) (
 .ret)))⟩
theorem q44 : table Try.prog A0 44 = some c44 := by kernel_rfl

/-! mortise/tokens.further -/
def c45 : CFn := ⟨13, [.t 2], .seq (.reg [o 2 (.mv (.c (.bool false)))]) (
 .seq (.reg [o 3 (.mv (.t 0)), o 4 (.call (.c (.fn 43 [])) [.t 3]), o 5 (.mv (.t 4)), g (some 6) 5 false (.mv (.t 0)), g (some 7) 5 false (.call (.c (.fn 61 [])) [.t 6]), o 8 (.pick (.t 5) (.c (.bool true)) (.t 7)), o 9 (.mv (.t 8)), g (some 10) 9 false (.mv (.t 0)), g (some 11) 9 false (.bin .eql .no (.t 10) (.c (.int .u8 95))), o 12 (.pick (.t 9) (.c (.bool true)) (.t 11)), o 2 (.mv (.t 12))]) (
 .ret))⟩
theorem q45 : table Try.prog A0 45 = some c45 := by kernel_rfl

/-! mortise/tokens.Word -/
def c46 : CFn := ⟨17, [.t 2], .seq (.reg [o 2 (.mv (.c (.bool false)))]) (
 .seq (.seq (.reg [o 3 (.mv (.t 0))]) (
 .block 0 (.seq (.seq (.reg [o 5 (.bin .eql .no (.t 3) (.c (.str [116, 121, 112, 101]))), o 4 (.mv (.t 5))]) (
 .cond (.t 4) (.skip) (.seq (.reg [o 6 (.bin .eql .no (.t 3) (.c (.str [117, 56]))), o 4 (.mv (.t 6))]) (
 .cond (.t 4) (.skip) (.seq (.reg [o 7 (.bin .eql .no (.t 3) (.c (.str [117, 49, 54]))), o 4 (.mv (.t 7))]) (
 .cond (.t 4) (.skip) (.seq (.reg [o 8 (.bin .eql .no (.t 3) (.c (.str [117, 51, 50]))), o 4 (.mv (.t 8))]) (
 .cond (.t 4) (.skip) (.seq (.reg [o 9 (.bin .eql .no (.t 3) (.c (.str [117, 54, 52]))), o 4 (.mv (.t 9))]) (
 .cond (.t 4) (.skip) (.seq (.reg [o 10 (.bin .eql .no (.t 3) (.c (.str [98, 111, 111, 108]))), o 4 (.mv (.t 10))]) (
 .cond (.t 4) (.skip) (.seq (.reg [o 11 (.bin .eql .no (.t 3) (.c (.str [118, 97, 114, 105, 110, 116]))), o 4 (.mv (.t 11))]) (
 .cond (.t 4) (.skip) (.seq (.reg [o 12 (.bin .eql .no (.t 3) (.c (.str [118, 101, 99, 116, 111, 114]))), o 4 (.mv (.t 12))]) (
 .cond (.t 4) (.skip) (.seq (.reg [o 13 (.bin .eql .no (.t 3) (.c (.str [108, 105, 115, 116]))), o 4 (.mv (.t 13))]) (
 .cond (.t 4) (.skip) (.seq (.reg [o 14 (.bin .eql .no (.t 3) (.c (.str [111, 112, 116, 105, 111, 110]))), o 4 (.mv (.t 14))]) (
 .cond (.t 4) (.skip) (.seq (.reg [o 15 (.bin .eql .no (.t 3) (.c (.str [117, 110, 105, 111, 110]))), o 4 (.mv (.t 15))]) (
 .cond (.t 4) (.skip) (.reg [o 16 (.bin .eql .no (.t 3) (.c (.str [115, 116, 114, 117, 99, 116]))), o 4 (.mv (.t 16))]))))))))))))))))))))))) (
 .cond (.t 4) (.seq (.reg [o 2 (.mv (.c (.bool true)))]) (
 .ret)) (.skip))))) (
 .seq (.reg [o 2 (.mv (.c (.bool false)))]) (
 .ret)))⟩
theorem q46 : table Try.prog A0 46 = some c46 := by kernel_rfl

/-! mortise/le.Times -/
def c47 : CFn := ⟨25, [.t 4], .seq (.reg [o 4 (.mv (.c (.int .i64 0)))]) (
 .seq (.reg [o 8 (.mv (.t 0)), o 9 (.call (.c (.fn 63 [])) [.t 8]), o 10 (.conv .u64 (.t 9)), o 11 (.mv (.t 1)), o 12 (.call (.c (.fn 63 [])) [.t 11]), o 13 (.conv .u64 (.t 12)), o 14 (.call (.c (.fn 62 [])) [.t 10, .t 13]), o 7 (.mv (.t 14)), o 15 (.extr (.t 7) 0), o 16 (.extr (.t 7) 1), o 5 (.mv (.t 15)), o 6 (.mv (.t 16))]) (
 .seq (.seq (.reg [o 17 (.mv (.t 5)), o 18 (.bin .gtr .no (.t 17) (.c (.int .u64 0))), o 19 (.mv (.t 18)), g (some 20) 19 false (.mv (.t 6)), g (some 21) 19 false (.bin .gtr .no (.t 20) (.c (.int .u64 4611686018427387904))), o 22 (.pick (.t 19) (.c (.bool true)) (.t 21))]) (
 .cond (.t 22) (.seq (.reg [o 4 (.mv (.c (.int .i64 4611686018427387904)))]) (
 .ret)) (.skip))) (
 .seq (.reg [o 23 (.mv (.t 6)), o 24 (.conv .i64 (.t 23)), o 4 (.mv (.t 24))]) (
 .ret))))⟩
theorem q47 : table Try.prog A0 47 = some c47 := by kernel_rfl

/-! mortise/size.within -/
def c48 : CFn := ⟨11, [.t 4], .seq (.reg [o 2 (.box 4 (.t 0)), o 4 (.mv (.c (.int .i64 0)))]) (
 .seq (.seq (.reg [o 5 (.faddr 0 (.t 2)), o 6 (.load false 1 (.t 5))]) (
 .cond (.t 6) (.seq (.reg [o 7 (.mv (.t 1)), o 4 (.mv (.t 7))]) (
 .ret)) (.skip))) (
 .seq (.reg [o 8 (.mv (.t 1)), o 9 (.bslice [.int .i64 0] 2 [(0, (.c (.int .i64 4))), (1, (.t 8))]), o 10 (.call (.c (.fn 49 [])) [.t 9]), o 4 (.mv (.t 10))]) (
 .ret)))⟩
theorem q48 : table Try.prog A0 48 = some c48 := by kernel_rfl

/-! mortise/le.Plus -/
def b49x0 : CC := .seq (.reg [o 9 (.bin .lss .no (.t 8) (.t 7))]) (
 .seq (.cond (.t 9) (.skip) (.exit 0)) (
 .seq (.block 1 (.seq (.reg [o 10 (.iaddr 1 (.t 6) (.t 8)), o 11 (.load false 1 (.t 10)), o 5 (.mv (.t 11))]) (
 .reg [o 12 (.mv (.t 3)), o 13 (.mv (.t 5)), o 14 (.call (.c (.fn 63 [])) [.t 13]), o 15 (.bin .sub .no (.c (.int .i64 4611686018427387904)) (.t 14)), o 16 (.min [.t 12, .t 15]), o 17 (.mv (.t 5)), o 18 (.call (.c (.fn 63 [])) [.t 17]), o 19 (.bin .add .no (.t 16) (.t 18)), o 3 (.mv (.t 19))]))) (
 .reg [o 20 (.bin .add .no (.t 8) (.c (.int .i64 1))), o 8 (.mv (.t 20))])))
def c49 : CFn := ⟨22, [.t 2], .seq (.reg [o 2 (.mv (.c (.int .i64 0)))]) (
 .seq (.reg [o 3 (.mv (.c (.int .i64 0)))]) (
 .seq (.seq (.reg [o 6 (.mv (.t 0)), o 7 (.len .sl (.t 6)), o 8 (.mv (.c (.int .i64 0)))]) (
 .block 0 (.loop (some [3, 6, 7, 8]) b49x0))) (
 .seq (.reg [o 21 (.mv (.t 3)), o 2 (.mv (.t 21))]) (
 .ret))))⟩
theorem q49 : table Try.prog A0 49 = some c49 := by kernel_rfl

/-! mortise/layout.slot -/
def c50 : CFn := ⟨13, [.cell 4 true 3], .seq (.reg [o 2 (.box 4 (.t 0)), o 4 (.alloc [.int .i64 0, .bool false, .int .i64 0])]) (
 .seq (.seq (.reg [o 5 (.faddr 0 (.t 2)), o 6 (.load false 1 (.t 5))]) (
 .cond (.t 6) (.seq (.reg [o 7 (.mv (.t 1)), o 8 (.faddr 2 (.t 2)), o 9 (.load false 1 (.t 8)), o 10 (.build [.int .i64 0, .bool false, .int .i64 0] [(0, 1, (.t 7)), (2, 1, (.t 9))]), x (.store 3 (.t 4) (.t 10))]) (
 .ret)) (.skip))) (
 .seq (.reg [o 11 (.mv (.t 1)), o 12 (.build [.int .i64 0, .bool false, .int .i64 0] [(0, 1, (.t 11)), (1, 1, (.c (.bool true))), (2, 1, (.c (.int .i64 4)))]), x (.store 3 (.t 4) (.t 12))]) (
 .ret)))⟩
theorem q50 : table Try.prog A0 50 = some c50 := by kernel_rfl

/-! (*mortise/raise.raiser).item -/
def c51 : CFn := ⟨40, [.t 4], .seq (.reg [o 4 (.mv (.c (.int .i64 0)))]) (
 .seq (.seq (.reg [o 6 (.mv (.t 0)), o 7 (.nilchk (.t 6)), o 8 (.faddr 0 (.t 7)), o 9 (.faddr 0 (.t 8)), o 10 (.load false 1 (.t 9)), o 11 (.mv (.t 1)), o 12 (.iaddr 4 (.t 10) (.t 11)), o 13 (.load true 4 (.t 12)), o 5 (.alloc [.int .i64 0, .int .i64 0, .int .i64 0, .nils]), x (.store 4 (.t 5) (.t 13))]) (
 .seq (.reg [o 14 (.faddr 0 (.t 5)), o 15 (.load false 1 (.t 14))]) (
 .block 0 (.seq (.reg [o 17 (.bin .eql .no (.t 15) (.c (.int .i64 1))), o 16 (.mv (.t 17))]) (
 .cond (.t 16) (.seq (.reg [o 18 (.mv (.t 0)), o 19 (.faddr 1 (.t 5)), o 20 (.load false 1 (.t 19)), o 21 (.build [.int .i64 0, .int .i64 0, .int .i64 0, .int .i64 0] [(0, 1, (.c (.int .i64 33))), (1, 1, (.c (.int .i64 (-1)))), (2, 1, (.t 20))]), o 22 (.call (.c (.fn 26 [])) [.t 18, .t 21]), o 4 (.mv (.t 22))]) (
 .ret)) (.seq (.reg [o 24 (.bin .eql .no (.t 15) (.c (.int .i64 2))), o 23 (.mv (.t 24))]) (
 .cond (.t 23) (.seq (.reg [o 25 (.mv (.t 0)), o 26 (.build [.int .i64 0, .int .i64 0, .int .i64 0, .int .i64 0] [(0, 1, (.c (.int .i64 35))), (1, 1, (.c (.int .i64 (-1))))]), o 27 (.call (.c (.fn 26 [])) [.t 25, .t 26]), o 4 (.mv (.t 27))]) (
 .ret)) (.skip)))))))) (
 .seq (.reg [o 28 (.mv (.t 0)), o 29 (.mv (.t 0)), o 30 (.nilchk (.t 29)), o 31 (.faddr 2 (.t 30)), o 32 (.load false 1 (.t 31)), o 33 (.mv (.t 1)), o 34 (.iaddr 4 (.t 32) (.t 33)), o 35 (.faddr 2 (.t 34)), o 36 (.load false 1 (.t 35)), o 37 (.mv (.t 1)), o 38 (.build [.int .i64 0, .int .i64 0, .int .i64 0, .int .i64 0] [(0, 1, (.c (.int .i64 45))), (1, 1, (.t 36)), (3, 1, (.t 37))]), o 39 (.call (.c (.fn 26 [])) [.t 28, .t 38]), o 4 (.mv (.t 39))]) (
 .ret)))⟩
theorem q51 : table Try.prog A0 51 = some c51 := by kernel_rfl

/-! mortise/mortiseref09.parts -/
def b52x2 : CC := .seq (.seq (.reg [o 66 (.mv (.t 8)), o 67 (.mv (.t 6)), o 68 (.bin .lss .no (.t 66) (.t 67))]) (
 .cond (.t 68) (.skip) (.exit 2))) (
 .seq (.block 3 (.seq (.drw [⟨(some 71), none, .faddr 3 (.t 2), [], [], 0, 0, [2]⟩, ⟨(some 72), none, .load false 1 (.t 71), [], [], 0, 0, [71]⟩, ⟨(some 73), none, .mv (.t 8), [], [], 0, 0, [8]⟩, ⟨(some 74), none, .iaddr 3 (.t 72) (.t 73), [], [], 0, 0, [72, 73]⟩, ⟨(some 75), none, .faddr 0 (.t 74), [], [], 0, 0, [74]⟩, ⟨(some 76), none, .load false 1 (.t 75), [], [], 0, 0, [75]⟩, ⟨(some 77), none, .faddr 0 (.t 7), [], [], 0, 0, [7]⟩, ⟨(some 78), none, .load false 1 (.t 77), [], [], 0, 0, [77]⟩, ⟨(some 79), none, .bin .eql .no (.t 76) (.t 78), [], [], 0, 0, [76, 78]⟩, ⟨(some 80), none, .mv (.t 79), [], [], 0, 0, [79]⟩, ⟨(some 81), (some (80, true)), .faddr 3 (.t 2), [], [], 0, 0, [2]⟩, ⟨(some 82), (some (80, true)), .load false 1 (.t 81), [], [], 0, 0, [81]⟩, ⟨(some 83), (some (80, true)), .mv (.t 8), [], [], 0, 0, [8]⟩, ⟨(some 84), (some (80, true)), .iaddr 3 (.t 82) (.t 83), [], [], 0, 0, [82, 83]⟩, ⟨(some 85), (some (80, true)), .faddr 1 (.t 84), [], [], 0, 0, [84]⟩, ⟨(some 86), (some (80, true)), .load false 1 (.t 85), [], [], 0, 0, [85]⟩, ⟨(some 87), (some (80, true)), .faddr 1 (.t 7), [], [], 0, 0, [7]⟩, ⟨(some 88), (some (80, true)), .load false 1 (.t 87), [], [], 0, 0, [87]⟩, ⟨(some 89), (some (80, true)), .bin .eql .no (.t 86) (.t 88), [], [], 0, 0, [86, 88]⟩, ⟨(some 90), none, .pick (.t 80) (.t 89) (.c (.bool false)), [], [], 0, 0, [80, 89]⟩]) (
 .cond (.t 90) (.seq (.reg [o 4 (.mv (.c (.bool false)))]) (
 .ret)) (.skip)))) (
 .reg [o 69 (.mv (.t 8)), o 70 (.bin .add .no (.t 69) (.c (.int .i64 1))), o 8 (.mv (.t 70))]))
def b52x0 : CC := .seq (.seq (.reg [o 18 (.mv (.t 6)), o 19 (.faddr 3 (.t 2)), o 20 (.load false 1 (.t 19)), o 21 (.len .sl (.t 20)), o 22 (.bin .lss .no (.t 18) (.t 21))]) (
 .cond (.t 22) (.skip) (.exit 0))) (
 .seq (.block 1 (.seq (.reg [o 25 (.faddr 3 (.t 2)), o 26 (.load false 1 (.t 25)), o 27 (.mv (.t 6)), o 28 (.iaddr 3 (.t 26) (.t 27)), o 29 (.load true 3 (.t 28)), o 7 (.alloc [.str [], .int .i64 0, .int .i64 0]), x (.store 3 (.t 7) (.t 29))]) (
 .seq (.seq (.reg [o 30 (.faddr 2 (.t 7)), o 31 (.load false 1 (.t 30)), o 32 (.mv (.t 1)), o 33 (.bin .sub .no (.t 32) (.c (.int .i64 1))), o 34 (.call (.c (.fn 33 [])) [.t 31, .c (.int .i64 0), .t 33]), o 35 (.una .not (.t 34))]) (
 .cond (.t 35) (.seq (.reg [o 4 (.mv (.c (.bool false)))]) (
 .ret)) (.skip))) (
 .seq (.seq (.reg [o 36 (.faddr 0 (.t 2)), o 37 (.load false 1 (.t 36)), o 38 (.bin .eql .no (.t 37) (.c (.int .i64 8))), o 39 (.mv (.t 38)), g (some 40) 39 true (.faddr 0 (.t 7)), g (some 41) 39 true (.load false 1 (.t 40)), g (some 42) 39 true (.call (.c (.fn 32 [])) [.t 41]), g (some 43) 39 true (.una .not (.t 42)), g (some 44) 39 true (.mv (.t 43)), g (some 45) 44 false (.faddr 1 (.t 7)), g (some 46) 44 false (.load false 1 (.t 45)), g (some 47) 44 false (.bin .neq .no (.t 46) (.c (.int .i64 0))), g (some 48) 39 true (.pick (.t 44) (.c (.bool true)) (.t 47)), o 49 (.pick (.t 39) (.t 48) (.c (.bool false))), o 50 (.mv (.t 49)), g (some 51) 50 false (.faddr 0 (.t 2)), g (some 52) 50 false (.load false 1 (.t 51)), g (some 53) 50 false (.bin .eql .no (.t 52) (.c (.int .i64 7))), g (some 54) 50 false (.mv (.t 53)), g (some 55) 54 true (.faddr 0 (.t 7)), g (some 56) 54 true (.load false 1 (.t 55)), g (some 57) 54 true (.bin .neq .no (.t 56) (.c (.str []))), g (some 58) 54 true (.mv (.t 57)), g (some 59) 58 false (.faddr 1 (.t 7)), g (some 60) 58 false (.load false 1 (.t 59)), g (some 61) 58 false (.call (.c (.fn 33 [])) [.t 60, .c (.int .i64 0), .c (.int .i64 255)]), g (some 62) 58 false (.una .not (.t 61)), g (some 63) 54 true (.pick (.t 58) (.c (.bool true)) (.t 62)), g (some 64) 50 false (.pick (.t 54) (.t 63) (.c (.bool false))), o 65 (.pick (.t 50) (.c (.bool true)) (.t 64))]) (
 .cond (.t 65) (.seq (.reg [o 4 (.mv (.c (.bool false)))]) (
 .ret)) (.skip))) (
 .seq (.reg [o 8 (.mv (.c (.int .i64 0)))]) (
 .block 2 (.loop (some [1, 2, 6, 7, 8]) b52x2))))))) (
 .reg [o 23 (.mv (.t 6)), o 24 (.bin .add .no (.t 23) (.c (.int .i64 1))), o 6 (.mv (.t 24))]))
def c52 : CFn := ⟨91, [.t 4], .seq (.reg [o 2 (.box 4 (.t 0)), o 4 (.mv (.c (.bool false)))]) (
 .seq (.reg [o 5 (.mv (.c (.int .i64 64)))]) (
 .seq (.seq (.reg [o 9 (.faddr 0 (.t 2)), o 10 (.load false 1 (.t 9)), o 11 (.bin .eql .no (.t 10) (.c (.int .i64 7)))]) (
 .cond (.t 11) (.reg [o 5 (.mv (.c (.int .i64 64)))]) (.skip))) (
 .seq (.seq (.reg [o 12 (.faddr 3 (.t 2)), o 13 (.load false 1 (.t 12)), o 14 (.len .sl (.t 13)), o 15 (.mv (.t 5)), o 16 (.call (.c (.fn 33 [])) [.t 14, .c (.int .i64 1), .t 15]), o 17 (.una .not (.t 16))]) (
 .cond (.t 17) (.seq (.reg [o 4 (.mv (.c (.bool false)))]) (
 .ret)) (.skip))) (
 .seq (.seq (.reg [o 6 (.mv (.c (.int .i64 0)))]) (
 .block 0 (.loop (some [1, 2, 6]) b52x0))) (
 .seq (.reg [o 4 (.mv (.c (.bool true)))]) (
 .ret))))))⟩
theorem q52 : table Try.prog A0 52 = some c52 := by kernel_rfl

/-! mortise/mortiseref05.Letter -/
def c53 : CFn := ⟨9, [.t 2], .seq (.reg [o 2 (.mv (.c (.bool false)))]) (
 .seq (.reg [o 3 (.mv (.t 0)), o 4 (.bin .geq .no (.t 3) (.c (.int .u8 97))), o 5 (.mv (.t 4)), g (some 6) 5 true (.mv (.t 0)), g (some 7) 5 true (.bin .leq .no (.t 6) (.c (.int .u8 122))), o 8 (.pick (.t 5) (.t 7) (.c (.bool false))), o 2 (.mv (.t 8))]) (
 .ret))⟩
theorem q53 : table Try.prog A0 53 = some c53 := by kernel_rfl

/-! mortise/mortiseref05.Word -/
def c54 : CFn := ⟨17, [.t 2], .seq (.reg [o 2 (.mv (.c (.bool false)))]) (
 .seq (.seq (.reg [o 3 (.mv (.t 0))]) (
 .block 0 (.seq (.seq (.reg [o 5 (.bin .eql .no (.t 3) (.c (.str [116, 121, 112, 101]))), o 4 (.mv (.t 5))]) (
 .cond (.t 4) (.skip) (.seq (.reg [o 6 (.bin .eql .no (.t 3) (.c (.str [117, 56]))), o 4 (.mv (.t 6))]) (
 .cond (.t 4) (.skip) (.seq (.reg [o 7 (.bin .eql .no (.t 3) (.c (.str [117, 49, 54]))), o 4 (.mv (.t 7))]) (
 .cond (.t 4) (.skip) (.seq (.reg [o 8 (.bin .eql .no (.t 3) (.c (.str [117, 51, 50]))), o 4 (.mv (.t 8))]) (
 .cond (.t 4) (.skip) (.seq (.reg [o 9 (.bin .eql .no (.t 3) (.c (.str [117, 54, 52]))), o 4 (.mv (.t 9))]) (
 .cond (.t 4) (.skip) (.seq (.reg [o 10 (.bin .eql .no (.t 3) (.c (.str [98, 111, 111, 108]))), o 4 (.mv (.t 10))]) (
 .cond (.t 4) (.skip) (.seq (.reg [o 11 (.bin .eql .no (.t 3) (.c (.str [118, 97, 114, 105, 110, 116]))), o 4 (.mv (.t 11))]) (
 .cond (.t 4) (.skip) (.seq (.reg [o 12 (.bin .eql .no (.t 3) (.c (.str [118, 101, 99, 116, 111, 114]))), o 4 (.mv (.t 12))]) (
 .cond (.t 4) (.skip) (.seq (.reg [o 13 (.bin .eql .no (.t 3) (.c (.str [108, 105, 115, 116]))), o 4 (.mv (.t 13))]) (
 .cond (.t 4) (.skip) (.seq (.reg [o 14 (.bin .eql .no (.t 3) (.c (.str [111, 112, 116, 105, 111, 110]))), o 4 (.mv (.t 14))]) (
 .cond (.t 4) (.skip) (.seq (.reg [o 15 (.bin .eql .no (.t 3) (.c (.str [117, 110, 105, 111, 110]))), o 4 (.mv (.t 15))]) (
 .cond (.t 4) (.skip) (.reg [o 16 (.bin .eql .no (.t 3) (.c (.str [115, 116, 114, 117, 99, 116]))), o 4 (.mv (.t 16))]))))))))))))))))))))))) (
 .cond (.t 4) (.seq (.reg [o 2 (.mv (.c (.bool true)))]) (
 .ret)) (.skip))))) (
 .seq (.reg [o 2 (.mv (.c (.bool false)))]) (
 .ret)))⟩
theorem q54 : table Try.prog A0 54 = some c54 := by kernel_rfl

/-! mortise/mortiseref05.goes -/
def c55 : CFn := ⟨13, [.t 2], .seq (.reg [o 2 (.mv (.c (.bool false)))]) (
 .seq (.reg [o 3 (.mv (.t 0)), o 4 (.call (.c (.fn 53 [])) [.t 3]), o 5 (.mv (.t 4)), g (some 6) 5 false (.mv (.t 0)), g (some 7) 5 false (.call (.c (.fn 64 [])) [.t 6]), o 8 (.pick (.t 5) (.c (.bool true)) (.t 7)), o 9 (.mv (.t 8)), g (some 10) 9 false (.mv (.t 0)), g (some 11) 9 false (.bin .eql .no (.t 10) (.c (.int .u8 95))), o 12 (.pick (.t 9) (.c (.bool true)) (.t 11)), o 2 (.mv (.t 12))]) (
 .ret))⟩
theorem q55 : table Try.prog A0 55 = some c55 := by kernel_rfl

/-! mortise/mortiseref10.part -/
def c56 : CFn := ⟨16, [.t 2, .t 3], .seq (.reg [o 1 (.box 4 (.t 0)), o 2 (.mv (.c (.int .i64 0))), o 3 (.mv (.c (.int .i64 0)))]) (
 .seq (.seq (.reg [o 4 (.faddr 0 (.t 1)), o 5 (.load false 1 (.t 4))]) (
 .cond (.t 5) (.seq (.drw [⟨(some 6), none, .faddr 1 (.t 1), [], [], 0, 0, [1]⟩, ⟨(some 7), none, .load false 1 (.t 6), [], [], 0, 0, [6]⟩, ⟨(some 8), none, .faddr 2 (.t 1), [], [], 0, 0, [1]⟩, ⟨(some 9), none, .load false 1 (.t 8), [], [], 0, 0, [8]⟩, ⟨(some 2), none, .mv (.t 7), [], [], 0, 0, [7]⟩, ⟨(some 3), none, .mv (.t 9), [], [], 0, 0, [9]⟩]) (
 .ret)) (.skip))) (
 .seq (.drw [⟨(some 10), none, .faddr 1 (.t 1), [], [], 0, 0, [1]⟩, ⟨(some 11), none, .load false 1 (.t 10), [], [], 0, 0, [10]⟩, ⟨(some 12), none, .call (.c (.fn 58 [])) [.c (.int .i64 4), .t 11], [], [], 0, 1, [11]⟩, ⟨(some 13), none, .faddr 2 (.t 1), [], [], 0, 1, [1]⟩, ⟨(some 14), none, .load false 1 (.t 13), [], [], 0, 1, [13]⟩, ⟨(some 15), none, .call (.c (.fn 58 [])) [.c (.int .i64 4), .t 14], [], [], 1, 2, [14]⟩, ⟨(some 2), none, .mv (.t 12), [], [], 2, 2, [12]⟩, ⟨(some 3), none, .mv (.t 15), [], [], 2, 2, [15]⟩]) (
 .ret)))⟩
theorem q56 : table Try.prog A0 56 = some c56 := by kernel_rfl

/-! mortise/mortiseref10.times -/
def c57 : CFn := ⟨8, [.t 4], .seq (.reg [o 4 (.mv (.c (.int .i64 0)))]) (
 .seq (.reg [o 5 (.mv (.t 0)), o 6 (.mv (.t 1)), o 7 (.call (.c (.fn 65 [])) [.t 5, .t 6]), o 4 (.mv (.t 7))]) (
 .ret))⟩
theorem q57 : table Try.prog A0 57 = some c57 := by kernel_rfl

/-! mortise/mortiseref10.plus -/
def c58 : CFn := ⟨9, [.t 4], .seq (.reg [o 4 (.mv (.c (.int .i64 0)))]) (
 .seq (.reg [o 5 (.mv (.t 0)), o 6 (.mv (.t 1)), o 7 (.bslice [.int .i64 0] 2 [(0, (.t 5)), (1, (.t 6))]), o 8 (.call (.c (.fn 66 [])) [.t 7]), o 4 (.mv (.t 8))]) (
 .ret))⟩
theorem q58 : table Try.prog A0 58 = some c58 := by kernel_rfl

/-! mortise/mortiseref10.leaf -/
def c59 : CFn := ⟨16, [.cell 2 true 4], .seq (.reg [o 1 (.box 4 (.t 0)), o 2 (.alloc [.bool false, .int .i64 0, .int .i64 0, .int .i64 0])]) (
 .seq (.seq (.reg [o 3 (.faddr 0 (.t 1)), o 4 (.load false 1 (.t 3))]) (
 .block 0 (.seq (.reg [o 6 (.bin .eql .no (.t 4) (.c (.int .i64 1))), o 5 (.mv (.t 6))]) (
 .cond (.t 5) (.seq (.reg [o 7 (.faddr 1 (.t 1)), o 8 (.load false 1 (.t 7)), o 9 (.faddr 1 (.t 1)), o 10 (.load false 1 (.t 9)), o 11 (.build [.bool false, .int .i64 0, .int .i64 0, .int .i64 0] [(0, 1, (.c (.bool true))), (1, 1, (.t 8)), (2, 1, (.t 10)), (3, 1, (.c (.int .i64 1)))]), x (.store 4 (.t 2) (.t 11))]) (
 .ret)) (.seq (.reg [o 13 (.bin .eql .no (.t 4) (.c (.int .i64 2))), o 12 (.mv (.t 13))]) (
 .cond (.t 12) (.seq (.reg [o 14 (.build [.bool false, .int .i64 0, .int .i64 0, .int .i64 0] [(0, 1, (.c (.bool true))), (1, 1, (.c (.int .i64 1))), (2, 1, (.c (.int .i64 1))), (3, 1, (.c (.int .i64 1)))]), x (.store 4 (.t 2) (.t 14))]) (
 .ret)) (.skip))))))) (
 .seq (.reg [o 15 (.build [.bool false, .int .i64 0, .int .i64 0, .int .i64 0] [(1, 1, (.c (.int .i64 1))), (2, 1, (.c (.int .i64 10))), (3, 1, (.c (.int .i64 1)))]), x (.store 4 (.t 2) (.t 15))]) (
 .ret)))⟩
theorem q59 : table Try.prog A0 59 = some c59 := by kernel_rfl

/-! (*mortise/mortiseref17.maker).item -/
def c60 : CFn := ⟨41, [], .seq (.reg [o 4 (.mv (.t 0)), o 5 (.nilchk (.t 4)), o 6 (.faddr 0 (.t 5)), o 7 (.faddr 0 (.t 6)), o 8 (.load false 1 (.t 7)), o 9 (.mv (.t 1)), o 10 (.iaddr 4 (.t 8) (.t 9)), o 11 (.faddr 0 (.t 10)), o 12 (.load false 1 (.t 11))]) (
 .block 0 (.seq (.reg [o 25 (.bin .eql .no (.t 12) (.c (.int .i64 1))), o 24 (.mv (.t 25))]) (
 .cond (.t 24) (.reg [o 26 (.mv (.t 0)), o 27 (.mv (.t 0)), o 28 (.nilchk (.t 27)), o 29 (.faddr 0 (.t 28)), o 30 (.faddr 0 (.t 29)), o 31 (.load false 1 (.t 30)), o 32 (.mv (.t 1)), o 33 (.iaddr 4 (.t 31) (.t 32)), o 34 (.faddr 1 (.t 33)), o 35 (.load false 1 (.t 34)), o 36 (.call (.c (.fn 38 [])) [.t 26, .c (.int .i64 33), .c (.int .i64 (-1)), .t 35, .c (.int .i64 0)])]) (.seq (.reg [o 38 (.bin .eql .no (.t 12) (.c (.int .i64 2))), o 37 (.mv (.t 38))]) (
 .cond (.t 37) (.reg [o 39 (.mv (.t 0)), o 40 (.call (.c (.fn 38 [])) [.t 39, .c (.int .i64 35), .c (.int .i64 (-1)), .c (.int .i64 0), .c (.int .i64 0)])]) (.reg [o 13 (.mv (.t 0)), o 14 (.mv (.t 0)), o 15 (.nilchk (.t 14)), o 16 (.faddr 2 (.t 15)), o 17 (.load false 1 (.t 16)), o 18 (.mv (.t 1)), o 19 (.iaddr 4 (.t 17) (.t 18)), o 20 (.faddr 1 (.t 19)), o 21 (.load false 1 (.t 20)), o 22 (.mv (.t 1)), o 23 (.call (.c (.fn 38 [])) [.t 13, .c (.int .i64 45), .t 21, .c (.int .i64 0), .t 22])]))))))⟩
theorem q60 : table Try.prog A0 60 = some c60 := by kernel_rfl

/-! mortise/tokens.digit -/
def c61 : CFn := ⟨9, [.t 2], .seq (.reg [o 2 (.mv (.c (.bool false)))]) (
 .seq (.reg [o 3 (.mv (.t 0)), o 4 (.bin .geq .no (.t 3) (.c (.int .u8 48))), o 5 (.mv (.t 4)), g (some 6) 5 true (.mv (.t 0)), g (some 7) 5 true (.bin .leq .no (.t 6) (.c (.int .u8 57))), o 8 (.pick (.t 5) (.t 7) (.c (.bool false))), o 2 (.mv (.t 8))]) (
 .ret))⟩
theorem q61 : table Try.prog A0 61 = some c61 := by kernel_rfl

/-! math/bits.Mul64 -/
def c62 : CFn := ⟨51, [.t 4, .t 5], .seq (.reg [o 4 (.mv (.c (.int .u64 0))), o 5 (.mv (.c (.int .u64 0)))]) (
 .seq (.reg [o 14 (.mv (.t 0)), o 15 (.bin .and .no (.t 14) (.c (.int .u64 4294967295))), o 6 (.mv (.t 15))]) (
 .seq (.reg [o 16 (.mv (.t 0)), o 17 (.bin .shr .no (.t 16) (.c (.int .u64 32))), o 7 (.mv (.t 17))]) (
 .seq (.reg [o 18 (.mv (.t 1)), o 19 (.bin .and .no (.t 18) (.c (.int .u64 4294967295))), o 8 (.mv (.t 19))]) (
 .seq (.reg [o 20 (.mv (.t 1)), o 21 (.bin .shr .no (.t 20) (.c (.int .u64 32))), o 9 (.mv (.t 21))]) (
 .seq (.reg [o 22 (.mv (.t 6)), o 23 (.mv (.t 8)), o 24 (.bin .mul .no (.t 22) (.t 23)), o 10 (.mv (.t 24))]) (
 .seq (.reg [o 25 (.mv (.t 7)), o 26 (.mv (.t 8)), o 27 (.bin .mul .no (.t 25) (.t 26)), o 28 (.mv (.t 10)), o 29 (.bin .shr .no (.t 28) (.c (.int .u64 32))), o 30 (.bin .add .no (.t 27) (.t 29)), o 11 (.mv (.t 30))]) (
 .seq (.reg [o 31 (.mv (.t 11)), o 32 (.bin .and .no (.t 31) (.c (.int .u64 4294967295))), o 12 (.mv (.t 32))]) (
 .seq (.reg [o 33 (.mv (.t 11)), o 34 (.bin .shr .no (.t 33) (.c (.int .u64 32))), o 13 (.mv (.t 34))]) (
 .seq (.reg [o 35 (.mv (.t 12)), o 36 (.mv (.t 6)), o 37 (.mv (.t 9)), o 38 (.bin .mul .no (.t 36) (.t 37)), o 39 (.bin .add .no (.t 35) (.t 38)), o 12 (.mv (.t 39))]) (
 .seq (.reg [o 40 (.mv (.t 7)), o 41 (.mv (.t 9)), o 42 (.bin .mul .no (.t 40) (.t 41)), o 43 (.mv (.t 13)), o 44 (.bin .add .no (.t 42) (.t 43)), o 45 (.mv (.t 12)), o 46 (.bin .shr .no (.t 45) (.c (.int .u64 32))), o 47 (.bin .add .no (.t 44) (.t 46)), o 4 (.mv (.t 47))]) (
 .seq (.reg [o 48 (.mv (.t 0)), o 49 (.mv (.t 1)), o 50 (.bin .mul .no (.t 48) (.t 49)), o 5 (.mv (.t 50))]) (
 .ret))))))))))))⟩
theorem q62 : table Try.prog A0 62 = some c62 := by kernel_rfl

/-! mortise/le.sized -/
def c63 : CFn := ⟨6, [.t 2], .seq (.reg [o 2 (.mv (.c (.int .i64 0)))]) (
 .seq (.reg [o 3 (.mv (.t 0)), o 4 (.max [.t 3, .c (.int .i64 0)]), o 5 (.min [.t 4, .c (.int .i64 4611686018427387904)]), o 2 (.mv (.t 5))]) (
 .ret))⟩
theorem q63 : table Try.prog A0 63 = some c63 := by kernel_rfl

/-! mortise/mortiseref05.Digit -/
def c64 : CFn := ⟨9, [.t 2], .seq (.reg [o 2 (.mv (.c (.bool false)))]) (
 .seq (.reg [o 3 (.mv (.t 0)), o 4 (.bin .geq .no (.t 3) (.c (.int .u8 48))), o 5 (.mv (.t 4)), g (some 6) 5 true (.mv (.t 0)), g (some 7) 5 true (.bin .leq .no (.t 6) (.c (.int .u8 57))), o 8 (.pick (.t 5) (.t 7) (.c (.bool false))), o 2 (.mv (.t 8))]) (
 .ret))⟩
theorem q64 : table Try.prog A0 64 = some c64 := by kernel_rfl

/-! mortise/mortiseref01.Times -/
def c65 : CFn := ⟨22, [.t 4], .seq (.reg [o 4 (.mv (.c (.int .i64 0)))]) (
 .seq (.reg [o 5 (.mv (.t 0)), o 6 (.call (.c (.fn 67 [])) [.t 5]), o 0 (.mv (.t 6))]) (
 .seq (.reg [o 7 (.mv (.t 1)), o 8 (.call (.c (.fn 67 [])) [.t 7]), o 1 (.mv (.t 8))]) (
 .seq (.seq (.reg [o 9 (.mv (.t 0)), o 10 (.bin .eql .no (.t 9) (.c (.int .i64 0))), o 11 (.mv (.t 10)), g (some 12) 11 false (.mv (.t 1)), g (some 13) 11 false (.bin .eql .no (.t 12) (.c (.int .i64 0))), o 14 (.pick (.t 11) (.c (.bool true)) (.t 13))]) (
 .cond (.t 14) (.seq (.reg [o 4 (.mv (.c (.int .i64 0)))]) (
 .ret)) (.skip))) (
 .seq (.seq (.reg [o 15 (.mv (.t 0)), o 16 (.mv (.t 1)), o 17 (.bin .quo .no (.c (.int .i64 4611686018427387904)) (.t 16)), o 18 (.bin .gtr .no (.t 15) (.t 17))]) (
 .cond (.t 18) (.seq (.reg [o 4 (.mv (.c (.int .i64 4611686018427387904)))]) (
 .ret)) (.skip))) (
 .seq (.reg [o 19 (.mv (.t 0)), o 20 (.mv (.t 1)), o 21 (.bin .mul .no (.t 19) (.t 20)), o 4 (.mv (.t 21))]) (
 .ret))))))⟩
theorem q65 : table Try.prog A0 65 = some c65 := by kernel_rfl

/-! mortise/mortiseref01.Plus -/
def b66x0 : CC := .seq (.seq (.reg [o 5 (.mv (.t 4)), o 6 (.mv (.t 0)), o 7 (.len .sl (.t 6)), o 8 (.bin .lss .no (.t 5) (.t 7))]) (
 .cond (.t 8) (.skip) (.exit 0))) (
 .seq (.block 1 (.seq (.seq (.reg [o 11 (.mv (.t 0)), o 12 (.mv (.t 4)), o 13 (.iaddr 1 (.t 11) (.t 12)), o 14 (.load false 1 (.t 13)), o 15 (.call (.c (.fn 67 [])) [.t 14]), o 16 (.mv (.t 3)), o 17 (.bin .sub .no (.c (.int .i64 4611686018427387904)) (.t 16)), o 18 (.bin .gtr .no (.t 15) (.t 17))]) (
 .cond (.t 18) (.seq (.reg [o 2 (.mv (.c (.int .i64 4611686018427387904)))]) (
 .ret)) (.skip))) (
 .reg [o 19 (.mv (.t 3)), o 20 (.mv (.t 0)), o 21 (.mv (.t 4)), o 22 (.iaddr 1 (.t 20) (.t 21)), o 23 (.load false 1 (.t 22)), o 24 (.call (.c (.fn 67 [])) [.t 23]), o 25 (.bin .add .no (.t 19) (.t 24)), o 3 (.mv (.t 25))]))) (
 .reg [o 9 (.mv (.t 4)), o 10 (.bin .add .no (.t 9) (.c (.int .i64 1))), o 4 (.mv (.t 10))]))
def c66 : CFn := ⟨27, [.t 2], .seq (.reg [o 2 (.mv (.c (.int .i64 0)))]) (
 .seq (.reg [o 3 (.mv (.c (.int .i64 0)))]) (
 .seq (.seq (.reg [o 4 (.mv (.c (.int .i64 0)))]) (
 .block 0 (.loop (some [0, 3, 4]) b66x0))) (
 .seq (.reg [o 26 (.mv (.t 3)), o 2 (.mv (.t 26))]) (
 .ret))))⟩
theorem q66 : table Try.prog A0 66 = some c66 := by kernel_rfl

/-! mortise/mortiseref01.size -/
def c67 : CFn := ⟨6, [.t 2], .seq (.reg [o 2 (.mv (.c (.int .i64 0)))]) (
 .seq (.reg [o 3 (.mv (.t 0)), o 4 (.min [.t 3, .c (.int .i64 4611686018427387904)]), o 5 (.max [.c (.int .i64 0), .t 4]), o 2 (.mv (.t 5))]) (
 .ret))⟩
theorem q67 : table Try.prog A0 67 = some c67 := by kernel_rfl

end Mev
