/- The functions of this seat, in the calculus' own form, each held against the program by the kernel. Printed by gen.py. -/
import Derived.Test.YtbhingdlclfipaaDoorAb17
import Derived.Test.YtbhingdlclfipaaDoorProg
namespace Go.Proofs.YtbhingdlclfipaaDoor.Ab
open Go Go.RowKit Go.Proofs
/- wharf/wharflaw15.SessionComes -/
def F3 : Fun := { n := 201, code := .seq (.reg false [
  ⟨some 4, .box 23 (.t 0), none, [], true, []⟩,
  ⟨some 8, .mv (.c (.one (.v (.bool false)))), none, [], true, []⟩]) (.seq (.seq (.reg false [
  ⟨some 18, .fad 0 (.t 4), none, [], true, []⟩,
  ⟨some 19, .load 1 false (.t 18), none, [], true, []⟩,
  ⟨some 20, .len true (.t 19), none, [], true, []⟩,
  ⟨some 21, .fad 1 (.t 4), none, [], true, []⟩,
  ⟨some 22, .load 1 false (.t 21), none, [], true, []⟩,
  ⟨some 23, .len true (.t 22), none, [], true, []⟩,
  ⟨some 24, .bin .add (.t 20) (.t 23), none, [], true, []⟩,
  ⟨some 25, .mv (.t 1), none, [], true, []⟩,
  ⟨some 26, .len true (.t 25), none, [], true, []⟩,
  ⟨some 27, .bin .add (.t 24) (.t 26), none, [], true, []⟩,
  ⟨some 28, .mv (.t 2), none, [], true, []⟩,
  ⟨some 29, .len true (.t 28), none, [], true, []⟩,
  ⟨some 30, .bin .add (.t 27) (.t 29), none, [], true, []⟩,
  ⟨some 31, .bin .gtr (.t 30) (.c (.one (.v (.int .i64 12000)))), none, [], true, []⟩]) (.cond (.t 31) (.seq (.reg false [
  ⟨some 32, .call 8 [], none, [], true, []⟩,
  ⟨some 8, .mv (.t 32), none, [], true, []⟩]) (.ret)) (.skip))) (.seq (.reg false [
  ⟨some 34, .load 5 true (.t 4), none, [], true, []⟩,
  ⟨some 35, .call 9 [.t 34], none, [], true, []⟩,
  ⟨some 33, .mv (.t 35), none, [], true, []⟩,
  ⟨some 36, .ext (.t 33) 0, none, [], true, []⟩,
  ⟨some 37, .ext (.t 33) 1, none, [], true, []⟩,
  ⟨some 38, .ext (.t 33) 2, none, [], true, []⟩,
  ⟨some 9, .alloc 26 [.v (.int .i64 0), .v (.string ⟨#[]⟩), .v (.string ⟨#[]⟩), .v (.int .i64 0), .v (.int .i64 0), .v (.int .i64 0), .v (.int .i64 0), .v (.int .i64 0), .v (.int .i64 0)], none, [], true, []⟩,
  ⟨some 10, .alloc 29 [.sl .full 11 [], .v (.bool false), .sl .full 11 []], none, [], true, []⟩,
  ⟨none, .store 9 (.t 9) (.t 36), none, [], true, []⟩,
  ⟨none, .store 3 (.t 10) (.t 37), none, [], true, []⟩,
  ⟨some 11, .mv (.t 38), none, [], true, []⟩]) (.seq (.seq (.reg false [
  ⟨some 39, .mv (.t 11), none, [], true, []⟩,
  ⟨some 40, .bin .neq (.t 39) (.c (.one (.v (.int .i64 0)))), none, [], true, []⟩]) (.cond (.t 40) (.seq (.reg false [
  ⟨some 41, .call 8 [], none, [], true, []⟩,
  ⟨some 8, .mv (.t 41), none, [], true, []⟩]) (.ret)) (.skip))) (.seq (.reg false [
  ⟨some 43, .load 9 true (.t 9), none, [], true, []⟩,
  ⟨some 44, .mv (.t 1), none, [], true, []⟩,
  ⟨some 45, .build [.v (.int .i64 0), .v (.string ⟨#[]⟩), .v (.string ⟨#[]⟩), .v (.string ⟨#[]⟩), .v (.int .i64 0), .v (.int .i64 0), .v (.int .i64 0), .v (.int .i64 0), .v (.bool false), .sl .full 6 [], .sl .full 1 []] [(0, 1, .c (.one (.v (.int .i64 6)))), (3, 1, .t 44)], none, [], true, []⟩,
  ⟨some 46, .call 10 [.t 43, .t 45], none, [], true, []⟩,
  ⟨some 42, .mv (.t 46), none, [], true, []⟩,
  ⟨some 47, .ext (.t 42) 0, none, [], true, []⟩,
  ⟨some 48, .ext (.t 42) 1, none, [], true, []⟩,
  ⟨some 12, .alloc 29 [.sl .full 11 [], .v (.bool false), .sl .full 11 []], none, [], true, []⟩,
  ⟨none, .store 9 (.t 9) (.t 47), none, [], true, []⟩,
  ⟨none, .store 3 (.t 12) (.t 48), none, [], true, []⟩]) (.seq (.seq (.reg true [
  ⟨some 49, .fad 0 (.t 12), none, [], false, []⟩,
  ⟨some 50, .load 1 false (.t 49), none, [0], true, []⟩,
  ⟨some 51, .len false (.t 50), none, [1], false, []⟩,
  ⟨some 52, .bin .neq (.t 51) (.c (.one (.v (.int .i64 1)))), none, [2], false, []⟩,
  ⟨some 53, .mv (.t 52), none, [3], false, []⟩,
  ⟨some 54, .fad 0 (.t 12), some (53, false), [4], false, []⟩,
  ⟨some 55, .load 1 false (.t 54), some (53, false), [5, 4], true, []⟩,
  ⟨some 56, .iad 11 (.t 55) (.c (.one (.v (.int .i64 0)))), some (53, false), [6, 4], false, []⟩,
  ⟨some 57, .fad 0 (.t 56), some (53, false), [7, 4], false, []⟩,
  ⟨some 58, .load 1 false (.t 57), some (53, false), [8, 4], true, []⟩,
  ⟨some 59, .bin .neq (.t 58) (.c (.one (.v (.int .i64 7)))), some (53, false), [9, 4], false, []⟩,
  ⟨some 60, .pick (.t 53) (.c (.one (.v (.bool true)))) (.t 59), none, [4, 10], false, []⟩,
  ⟨some 61, .mv (.t 60), none, [11, 4], false, []⟩,
  ⟨some 62, .fad 0 (.t 12), some (61, false), [12], false, []⟩,
  ⟨some 63, .load 1 false (.t 62), some (61, false), [13, 12], false, []⟩,
  ⟨some 64, .iad 11 (.t 63) (.c (.one (.v (.int .i64 0)))), some (61, false), [14, 12], false, []⟩,
  ⟨some 65, .fad 3 (.t 64), some (61, false), [15, 12], false, []⟩,
  ⟨some 66, .load 1 false (.t 65), some (61, false), [16, 12], false, []⟩,
  ⟨some 67, .mv (.t 1), some (61, false), [12], false, []⟩,
  ⟨some 68, .fad 1 (.t 4), some (61, false), [12], false, []⟩,
  ⟨some 69, .load 1 false (.t 68), some (61, false), [19, 12], false, []⟩,
  ⟨some 70, .call 11 [.t 67, .t 69], some (61, false), [18, 20, 12, 12], false, []⟩,
  ⟨some 71, .bin .neq (.t 66) (.t 70), some (61, false), [17, 21, 12], false, []⟩,
  ⟨some 72, .pick (.t 61) (.c (.one (.v (.bool true)))) (.t 71), none, [12, 22], false, []⟩,
  ⟨some 73, .mv (.t 72), none, [23, 21], false, []⟩,
  ⟨some 74, .fad 0 (.t 9), some (73, false), [24], false, []⟩,
  ⟨some 75, .load 1 false (.t 74), some (73, false), [25, 24], true, []⟩,
  ⟨some 76, .bin .neq (.t 75) (.c (.one (.v (.int .i64 2)))), some (73, false), [26, 24], false, []⟩,
  ⟨some 77, .pick (.t 73) (.c (.one (.v (.bool true)))) (.t 76), none, [24, 27], false, []⟩]) (.cond (.t 77) (.seq (.reg false [
  ⟨some 8, .mv (.c (.one (.v (.bool false)))), none, [], true, []⟩]) (.ret)) (.skip))) (.seq (.seq (.reg false [
  ⟨some 78, .mv (.t 3), none, [], true, []⟩,
  ⟨some 79, .bin .neq (.t 78) (.c (.one (.v (.int .i64 0)))), none, [], true, []⟩]) (.cond (.t 79) (.seq (.reg false [
  ⟨some 81, .load 9 true (.t 9), none, [], true, []⟩,
  ⟨some 82, .fad 0 (.t 4), none, [], true, []⟩,
  ⟨some 83, .load 1 false (.t 82), none, [], true, []⟩,
  ⟨some 84, .mv (.t 3), none, [], true, []⟩,
  ⟨some 85, .build [.v (.int .i64 0), .v (.string ⟨#[]⟩), .v (.string ⟨#[]⟩), .v (.string ⟨#[]⟩), .v (.int .i64 0), .v (.int .i64 0), .v (.int .i64 0), .v (.int .i64 0), .v (.bool false), .sl .full 6 [], .sl .full 1 []] [(0, 1, .c (.one (.v (.int .i64 8)))), (1, 1, .t 83), (4, 1, .t 84)], none, [], true, []⟩,
  ⟨some 86, .call 10 [.t 81, .t 85], none, [], true, []⟩,
  ⟨some 80, .mv (.t 86), none, [], true, []⟩,
  ⟨some 87, .ext (.t 80) 0, none, [], true, []⟩,
  ⟨some 88, .ext (.t 80) 1, none, [], true, []⟩,
  ⟨some 13, .alloc 26 [.v (.int .i64 0), .v (.string ⟨#[]⟩), .v (.string ⟨#[]⟩), .v (.int .i64 0), .v (.int .i64 0), .v (.int .i64 0), .v (.int .i64 0), .v (.int .i64 0), .v (.int .i64 0)], none, [], true, []⟩,
  ⟨some 14, .alloc 29 [.sl .full 11 [], .v (.bool false), .sl .full 11 []], none, [], true, []⟩,
  ⟨none, .store 9 (.t 13) (.t 87), none, [], true, []⟩,
  ⟨none, .store 3 (.t 14) (.t 88), none, [], true, []⟩]) (.seq (.reg false [
  ⟨some 89, .fad 0 (.t 13), none, [], true, []⟩,
  ⟨some 90, .load 1 false (.t 89), none, [], true, []⟩,
  ⟨some 91, .bin .eql (.t 90) (.c (.one (.v (.int .i64 6)))), none, [], true, []⟩,
  ⟨some 92, .mv (.t 91), none, [], true, []⟩,
  ⟨some 93, .fad 8 (.t 13), some (92, true), [], true, []⟩,
  ⟨some 94, .load 1 false (.t 93), some (92, true), [], true, []⟩,
  ⟨some 95, .mv (.t 3), some (92, true), [], true, []⟩,
  ⟨some 96, .bin .eql (.t 94) (.t 95), some (92, true), [], true, []⟩,
  ⟨some 97, .pick (.t 92) (.t 96) (.c (.one (.v (.bool false)))), none, [], true, []⟩,
  ⟨some 98, .mv (.t 97), none, [], true, []⟩,
  ⟨some 99, .fad 0 (.t 14), some (98, true), [], true, []⟩,
  ⟨some 100, .load 1 false (.t 99), some (98, true), [], true, []⟩,
  ⟨some 101, .len false (.t 100), some (98, true), [], true, []⟩,
  ⟨some 102, .bin .eql (.t 101) (.c (.one (.v (.int .i64 0)))), some (98, true), [], true, []⟩,
  ⟨some 103, .pick (.t 98) (.t 102) (.c (.one (.v (.bool false)))), none, [], true, []⟩,
  ⟨some 104, .mv (.t 103), none, [], true, []⟩,
  ⟨some 105, .fad 2 (.t 14), some (104, true), [], true, []⟩,
  ⟨some 106, .load 1 false (.t 105), some (104, true), [], true, []⟩,
  ⟨some 107, .len false (.t 106), some (104, true), [], true, []⟩,
  ⟨some 108, .bin .eql (.t 107) (.c (.one (.v (.int .i64 1)))), some (104, true), [], true, []⟩,
  ⟨some 109, .pick (.t 104) (.t 108) (.c (.one (.v (.bool false)))), none, [], true, []⟩,
  ⟨some 110, .mv (.t 109), none, [], true, []⟩,
  ⟨some 111, .call 8 [], some (110, true), [], true, []⟩,
  ⟨some 112, .pick (.t 110) (.t 111) (.c (.one (.v (.bool false)))), none, [], true, []⟩,
  ⟨some 8, .mv (.t 112), none, [], true, []⟩]) (.ret))) (.skip))) (.seq (.reg false [
  ⟨some 114, .load 9 true (.t 9), none, [], true, []⟩,
  ⟨some 115, .fad 0 (.t 4), none, [], true, []⟩,
  ⟨some 116, .load 1 false (.t 115), none, [], true, []⟩,
  ⟨some 117, .mv (.t 2), none, [], true, []⟩,
  ⟨some 118, .build [.v (.int .i64 0), .v (.string ⟨#[]⟩), .v (.string ⟨#[]⟩), .v (.string ⟨#[]⟩), .v (.int .i64 0), .v (.int .i64 0), .v (.int .i64 0), .v (.int .i64 0), .v (.bool false), .sl .full 6 [], .sl .full 1 []] [(0, 1, .c (.one (.v (.int .i64 8)))), (1, 1, .t 116), (3, 1, .t 117)], none, [], true, []⟩,
  ⟨some 119, .call 10 [.t 114, .t 118], none, [], true, []⟩,
  ⟨some 113, .mv (.t 119), none, [], true, []⟩,
  ⟨some 120, .ext (.t 113) 0, none, [], true, []⟩,
  ⟨some 121, .ext (.t 113) 1, none, [], true, []⟩,
  ⟨some 15, .alloc 29 [.sl .full 11 [], .v (.bool false), .sl .full 11 []], none, [], true, []⟩,
  ⟨none, .store 9 (.t 9) (.t 120), none, [], true, []⟩,
  ⟨none, .store 3 (.t 15) (.t 121), none, [], true, []⟩]) (.seq (.reg false [
  ⟨some 123, .load 9 true (.t 9), none, [], true, []⟩,
  ⟨some 124, .build [.v (.int .i64 0), .v (.string ⟨#[]⟩), .v (.string ⟨#[]⟩), .v (.string ⟨#[]⟩), .v (.int .i64 0), .v (.int .i64 0), .v (.int .i64 0), .v (.int .i64 0), .v (.bool false), .sl .full 6 [], .sl .full 1 []] [(0, 1, .c (.one (.v (.int .i64 9))))], none, [], true, []⟩,
  ⟨some 125, .call 10 [.t 123, .t 124], none, [], true, []⟩,
  ⟨some 122, .mv (.t 125), none, [], true, []⟩,
  ⟨some 126, .ext (.t 122) 0, none, [], true, []⟩,
  ⟨some 127, .ext (.t 122) 1, none, [], true, []⟩,
  ⟨some 16, .alloc 29 [.sl .full 11 [], .v (.bool false), .sl .full 11 []], none, [], true, []⟩,
  ⟨none, .store 9 (.t 9) (.t 126), none, [], true, []⟩,
  ⟨none, .store 3 (.t 16) (.t 127), none, [], true, []⟩]) (.seq (.reg false [
  ⟨some 129, .load 9 true (.t 9), none, [], true, []⟩,
  ⟨some 130, .build [.v (.int .i64 0), .v (.string ⟨#[]⟩), .v (.string ⟨#[]⟩), .v (.string ⟨#[]⟩), .v (.int .i64 0), .v (.int .i64 0), .v (.int .i64 0), .v (.int .i64 0), .v (.bool false), .sl .full 6 [], .sl .full 1 []] [(0, 1, .c (.one (.v (.int .i64 19))))], none, [], true, []⟩,
  ⟨some 131, .call 10 [.t 129, .t 130], none, [], true, []⟩,
  ⟨some 128, .mv (.t 131), none, [], true, []⟩,
  ⟨some 132, .ext (.t 128) 0, none, [], true, []⟩,
  ⟨some 133, .ext (.t 128) 1, none, [], true, []⟩,
  ⟨some 17, .alloc 29 [.sl .full 11 [], .v (.bool false), .sl .full 11 []], none, [], true, []⟩,
  ⟨none, .store 9 (.t 9) (.t 132), none, [], true, []⟩,
  ⟨none, .store 3 (.t 17) (.t 133), none, [], true, []⟩]) (.seq (.reg true [
  ⟨some 134, .fad 1 (.t 15), none, [], false, []⟩,
  ⟨some 135, .load 1 false (.t 134), none, [0], true, []⟩,
  ⟨some 136, .mv (.t 135), none, [1], false, []⟩,
  ⟨some 137, .fad 0 (.t 15), some (136, true), [2], false, []⟩,
  ⟨some 138, .load 1 false (.t 137), some (136, true), [3, 2], true, []⟩,
  ⟨some 139, .len false (.t 138), some (136, true), [4, 2], false, []⟩,
  ⟨some 140, .bin .eql (.t 139) (.c (.one (.v (.int .i64 1)))), some (136, true), [5, 2], false, []⟩,
  ⟨some 141, .pick (.t 136) (.t 140) (.c (.one (.v (.bool false)))), none, [2, 6], false, []⟩,
  ⟨some 142, .mv (.t 141), none, [7, 2], false, []⟩,
  ⟨some 143, .fad 0 (.t 15), some (142, true), [8], false, []⟩,
  ⟨some 144, .load 1 false (.t 143), some (142, true), [9, 8], true, []⟩,
  ⟨some 145, .iad 11 (.t 144) (.c (.one (.v (.int .i64 0)))), some (142, true), [10, 8], false, []⟩,
  ⟨some 146, .fad 3 (.t 145), some (142, true), [11, 8], false, []⟩,
  ⟨some 147, .load 1 false (.t 146), some (142, true), [12, 8], true, []⟩,
  ⟨some 148, .mv (.t 2), some (142, true), [8], false, []⟩,
  ⟨some 149, .bin .eql (.t 147) (.t 148), some (142, true), [13, 14, 8], false, []⟩,
  ⟨some 150, .pick (.t 142) (.t 149) (.c (.one (.v (.bool false)))), none, [8, 15], false, []⟩,
  ⟨some 151, .mv (.t 150), none, [16, 8], false, []⟩,
  ⟨some 152, .fad 0 (.t 16), some (151, true), [17], false, []⟩,
  ⟨some 153, .load 1 false (.t 152), some (151, true), [18, 17], true, []⟩,
  ⟨some 154, .len false (.t 153), some (151, true), [19, 17], false, []⟩,
  ⟨some 155, .bin .eql (.t 154) (.c (.one (.v (.int .i64 1)))), some (151, true), [20, 17], false, []⟩,
  ⟨some 156, .pick (.t 151) (.t 155) (.c (.one (.v (.bool false)))), none, [17, 21], false, []⟩,
  ⟨some 157, .mv (.t 156), none, [22, 17], false, []⟩,
  ⟨some 158, .fad 0 (.t 16), some (157, true), [23], false, []⟩,
  ⟨some 159, .load 1 false (.t 158), some (157, true), [24, 23], false, []⟩,
  ⟨some 160, .iad 11 (.t 159) (.c (.one (.v (.int .i64 0)))), some (157, true), [25, 23], false, []⟩,
  ⟨some 161, .fad 7 (.t 160), some (157, true), [26, 23], false, []⟩,
  ⟨some 162, .load 1 false (.t 161), some (157, true), [27, 23], false, []⟩,
  ⟨some 163, .fad 3 (.t 4), some (157, true), [23], false, []⟩,
  ⟨some 164, .load 1 false (.t 163), some (157, true), [29, 23], false, []⟩,
  ⟨some 165, .bin .eql (.t 162) (.t 164), some (157, true), [28, 30, 23], false, []⟩,
  ⟨some 166, .pick (.t 157) (.t 165) (.c (.one (.v (.bool false)))), none, [23, 31], false, []⟩,
  ⟨some 167, .mv (.t 166), none, [32, 23], false, []⟩,
  ⟨some 168, .fad 0 (.t 16), some (167, true), [33], false, []⟩,
  ⟨some 169, .load 1 false (.t 168), some (167, true), [34, 33], false, []⟩,
  ⟨some 170, .iad 11 (.t 169) (.c (.one (.v (.int .i64 0)))), some (167, true), [35, 33], false, []⟩,
  ⟨some 171, .fad 4 (.t 170), some (167, true), [36, 33], false, []⟩,
  ⟨some 172, .load 1 false (.t 171), some (167, true), [37, 33], false, []⟩,
  ⟨some 173, .fad 4 (.t 4), some (167, true), [33], false, []⟩,
  ⟨some 174, .load 1 false (.t 173), some (167, true), [39, 33], false, []⟩,
  ⟨some 175, .bin .eql (.t 172) (.t 174), some (167, true), [38, 40, 33], false, []⟩,
  ⟨some 176, .pick (.t 167) (.t 175) (.c (.one (.v (.bool false)))), none, [33, 41], false, []⟩,
  ⟨some 177, .mv (.t 176), none, [42, 33], false, []⟩,
  ⟨some 178, .fad 0 (.t 17), some (177, true), [43], false, []⟩,
  ⟨some 179, .load 1 false (.t 178), some (177, true), [44, 43], true, []⟩,
  ⟨some 180, .len false (.t 179), some (177, true), [45, 43], false, []⟩,
  ⟨some 181, .bin .eql (.t 180) (.c (.one (.v (.int .i64 2)))), some (177, true), [46, 43], false, []⟩,
  ⟨some 182, .pick (.t 177) (.t 181) (.c (.one (.v (.bool false)))), none, [43, 47], false, []⟩,
  ⟨some 183, .mv (.t 182), none, [48, 43], false, []⟩,
  ⟨some 184, .fad 0 (.t 17), some (183, true), [49], false, []⟩,
  ⟨some 185, .load 1 false (.t 184), some (183, true), [50, 49], false, []⟩,
  ⟨some 186, .iad 11 (.t 185) (.c (.one (.v (.int .i64 1)))), some (183, true), [51, 49], false, []⟩,
  ⟨some 187, .fad 5 (.t 186), some (183, true), [52, 49], false, []⟩,
  ⟨some 188, .load 1 false (.t 187), some (183, true), [53, 49], false, []⟩,
  ⟨some 189, .fad 2 (.t 4), some (183, true), [49], false, []⟩,
  ⟨some 190, .load 1 false (.t 189), some (183, true), [55, 49], false, []⟩,
  ⟨some 191, .bin .eql (.t 188) (.t 190), some (183, true), [54, 56, 49], false, []⟩,
  ⟨some 192, .pick (.t 183) (.t 191) (.c (.one (.v (.bool false)))), none, [49, 57], false, []⟩,
  ⟨some 193, .mv (.t 192), none, [58, 49], false, []⟩,
  ⟨some 194, .fad 0 (.t 9), some (193, true), [59], false, []⟩,
  ⟨some 195, .load 1 false (.t 194), some (193, true), [60, 59], true, []⟩,
  ⟨some 196, .bin .eql (.t 195) (.c (.one (.v (.int .i64 5)))), some (193, true), [61, 59], false, []⟩,
  ⟨some 197, .pick (.t 193) (.t 196) (.c (.one (.v (.bool false)))), none, [59, 62], false, []⟩,
  ⟨some 198, .mv (.t 197), none, [63, 59], false, []⟩,
  ⟨some 199, .call 8 [], some (198, true), [64, 64], false, []⟩,
  ⟨some 200, .pick (.t 198) (.t 199) (.c (.one (.v (.bool false)))), none, [64, 65], false, []⟩,
  ⟨some 8, .mv (.t 200), none, [66, 65, 0, 1, 2, 3, 4, 5, 6, 7, 8, 9, 10, 11, 12, 13, 14, 15, 16, 17, 18, 19, 20, 21, 22, 23, 24, 25, 26, 27, 28, 29, 30, 31, 32, 33, 34, 35, 36, 37, 38, 39, 40, 41, 42, 43, 44, 45, 46, 47, 48, 49, 50, 51, 52, 53, 54, 55, 56, 57, 58, 59, 60, 61, 62, 63, 64, 65, 66], false, []⟩]) (.ret))))))))))), res := [.t 8] }
theorem F3_ok : mtF Tryd.prog 3 F3 = true := by kernel_rfl
/- wharf/wharflaw15.SessionHeard -/
def F4 : Fun := { n := 106, code := .seq (.reg false [
  ⟨some 3, .box 23 (.t 0), none, [], true, []⟩,
  ⟨some 5, .box 37 (.t 2), none, [], true, []⟩,
  ⟨some 6, .mv (.c (.one (.v (.bool false)))), none, [], true, []⟩]) (.seq (.seq (.reg false [
  ⟨some 13, .fad 0 (.t 3), none, [], true, []⟩,
  ⟨some 14, .load 1 false (.t 13), none, [], true, []⟩,
  ⟨some 15, .len true (.t 14), none, [], true, []⟩,
  ⟨some 16, .fad 1 (.t 3), none, [], true, []⟩,
  ⟨some 17, .load 1 false (.t 16), none, [], true, []⟩,
  ⟨some 18, .len true (.t 17), none, [], true, []⟩,
  ⟨some 19, .bin .add (.t 15) (.t 18), none, [], true, []⟩,
  ⟨some 20, .bin .gtr (.t 19) (.c (.one (.v (.int .i64 12000)))), none, [], true, []⟩,
  ⟨some 21, .mv (.t 20), none, [], true, []⟩,
  ⟨some 22, .mv (.t 1), some (21, false), [], true, []⟩,
  ⟨some 23, .len false (.t 22), some (21, false), [], true, []⟩,
  ⟨some 24, .bin .gtr (.t 23) (.c (.one (.v (.int .i64 20)))), some (21, false), [], true, []⟩,
  ⟨some 25, .pick (.t 21) (.c (.one (.v (.bool true)))) (.t 24), none, [], true, []⟩,
  ⟨some 26, .mv (.t 25), none, [], true, []⟩,
  ⟨some 27, .load 11 true (.t 5), some (26, false), [], true, []⟩,
  ⟨some 28, .call 12 [.t 27, .c (.one (.v (.int .i64 12000)))], some (26, false), [], true, []⟩,
  ⟨some 29, .bin .gtr (.t 28) (.c (.one (.v (.int .i64 12000)))), some (26, false), [], true, []⟩,
  ⟨some 30, .pick (.t 26) (.c (.one (.v (.bool true)))) (.t 29), none, [], true, []⟩,
  ⟨some 31, .mv (.t 30), none, [], true, []⟩,
  ⟨some 32, .fad 0 (.t 5), some (31, false), [], true, []⟩,
  ⟨some 33, .load 1 false (.t 32), some (31, false), [], true, []⟩,
  ⟨some 34, .bin .eql (.t 33) (.c (.one (.v (.int .i64 3)))), some (31, false), [], true, []⟩,
  ⟨some 35, .pick (.t 31) (.c (.one (.v (.bool true)))) (.t 34), none, [], true, []⟩,
  ⟨some 36, .mv (.t 35), none, [], true, []⟩,
  ⟨some 37, .fad 0 (.t 5), some (36, false), [], true, []⟩,
  ⟨some 38, .load 1 false (.t 37), some (36, false), [], true, []⟩,
  ⟨some 39, .bin .eql (.t 38) (.c (.one (.v (.int .i64 8)))), some (36, false), [], true, []⟩,
  ⟨some 40, .pick (.t 36) (.c (.one (.v (.bool true)))) (.t 39), none, [], true, []⟩]) (.cond (.t 40) (.seq (.reg false [
  ⟨some 41, .call 8 [], none, [], true, []⟩,
  ⟨some 6, .mv (.t 41), none, [], true, []⟩]) (.ret)) (.skip))) (.seq (.reg false [
  ⟨some 43, .load 5 true (.t 3), none, [], true, []⟩,
  ⟨some 44, .call 9 [.t 43], none, [], true, []⟩,
  ⟨some 42, .mv (.t 44), none, [], true, []⟩,
  ⟨some 45, .ext (.t 42) 0, none, [], true, []⟩,
  ⟨some 46, .ext (.t 42) 1, none, [], true, []⟩,
  ⟨some 47, .ext (.t 42) 2, none, [], true, []⟩,
  ⟨some 7, .alloc 26 [.v (.int .i64 0), .v (.string ⟨#[]⟩), .v (.string ⟨#[]⟩), .v (.int .i64 0), .v (.int .i64 0), .v (.int .i64 0), .v (.int .i64 0), .v (.int .i64 0), .v (.int .i64 0)], none, [], true, []⟩,
  ⟨some 8, .alloc 29 [.sl .full 11 [], .v (.bool false), .sl .full 11 []], none, [], true, []⟩,
  ⟨none, .store 9 (.t 7) (.t 45), none, [], true, []⟩,
  ⟨none, .store 3 (.t 8) (.t 46), none, [], true, []⟩,
  ⟨some 9, .mv (.t 47), none, [], true, []⟩]) (.seq (.seq (.reg false [
  ⟨some 48, .mv (.t 9), none, [], true, []⟩,
  ⟨some 49, .bin .neq (.t 48) (.c (.one (.v (.int .i64 0)))), none, [], true, []⟩]) (.cond (.t 49) (.seq (.reg false [
  ⟨some 50, .call 8 [], none, [], true, []⟩,
  ⟨some 6, .mv (.t 50), none, [], true, []⟩]) (.ret)) (.skip))) (.seq (.seq (.reg false [
  ⟨some 10, .mv (.c (.one (.v (.int .i64 0)))), none, [], true, []⟩]) (.block 0 (.loop (.seq (.seq (.reg false [
  ⟨some 51, .mv (.t 10), none, [], true, []⟩,
  ⟨some 52, .mv (.t 1), none, [], true, []⟩,
  ⟨some 53, .len false (.t 52), none, [], true, []⟩,
  ⟨some 54, .bin .lss (.t 51) (.t 53), none, [], true, []⟩]) (.cond (.t 54) (.skip) (.exit 0))) (.seq (.block 1 (.seq (.seq (.reg false [
  ⟨some 11, .mv (.c (.one (.v (.int .i64 0)))), none, [], true, []⟩]) (.block 2 (.loop (.seq (.seq (.reg false [
  ⟨some 57, .mv (.t 11), none, [], true, []⟩,
  ⟨some 58, .mv (.t 1), none, [], true, []⟩,
  ⟨some 59, .mv (.t 10), none, [], true, []⟩,
  ⟨some 60, .iad 1 (.t 58) (.t 59), none, [], true, []⟩,
  ⟨some 61, .load 1 false (.t 60), none, [], true, []⟩,
  ⟨some 62, .bin .lss (.t 57) (.t 61), none, [], true, []⟩,
  ⟨some 63, .mv (.t 62), none, [], true, []⟩,
  ⟨some 64, .mv (.t 11), some (63, true), [], true, []⟩,
  ⟨some 65, .bin .lss (.t 64) (.c (.one (.v (.int .i64 89)))), some (63, true), [], true, []⟩,
  ⟨some 66, .pick (.t 63) (.t 65) (.c (.one (.v (.bool false)))), none, [], true, []⟩]) (.cond (.t 66) (.skip) (.exit 2))) (.seq (.block 3 (.reg false [
  ⟨some 70, .load 9 true (.t 7), none, [], true, []⟩,
  ⟨some 71, .call 13 [.t 70], none, [], true, []⟩,
  ⟨some 69, .mv (.t 71), none, [], true, []⟩,
  ⟨some 72, .ext (.t 69) 0, none, [], true, []⟩,
  ⟨some 73, .ext (.t 69) 1, none, [], true, []⟩,
  ⟨none, .store 9 (.t 7) (.t 72), none, [], true, []⟩])) (.reg false [
  ⟨some 67, .mv (.t 11), none, [], true, []⟩,
  ⟨some 68, .bin .add (.t 67) (.c (.one (.v (.int .i64 1)))), none, [], true, []⟩,
  ⟨some 11, .mv (.t 68), none, [], true, []⟩])))))) (.reg false [
  ⟨some 75, .load 9 true (.t 7), none, [], true, []⟩,
  ⟨some 76, .load 11 true (.t 5), none, [], true, []⟩,
  ⟨some 77, .call 10 [.t 75, .t 76], none, [], true, []⟩,
  ⟨some 74, .mv (.t 77), none, [], true, []⟩,
  ⟨some 78, .ext (.t 74) 0, none, [], true, []⟩,
  ⟨some 79, .ext (.t 74) 1, none, [], true, []⟩,
  ⟨none, .store 9 (.t 7) (.t 78), none, [], true, []⟩]))) (.reg false [
  ⟨some 55, .mv (.t 10), none, [], true, []⟩,
  ⟨some 56, .bin .add (.t 55) (.c (.one (.v (.int .i64 1)))), none, [], true, []⟩,
  ⟨some 10, .mv (.t 56), none, [], true, []⟩])))))) (.seq (.seq (.reg false [
  ⟨some 80, .fad 0 (.t 7), none, [], true, []⟩,
  ⟨some 81, .load 1 false (.t 80), none, [], true, []⟩,
  ⟨some 82, .bin .eql (.t 81) (.c (.one (.v (.int .i64 6)))), none, [], true, []⟩]) (.cond (.t 82) (.seq (.reg false [
  ⟨some 6, .mv (.c (.one (.v (.bool false)))), none, [], true, []⟩]) (.ret)) (.skip))) (.seq (.seq (.reg false [
  ⟨some 12, .mv (.c (.one (.v (.int .i64 0)))), none, [], true, []⟩]) (.block 4 (.loop (.seq (.seq (.reg false [
  ⟨some 83, .mv (.t 12), none, [], true, []⟩,
  ⟨some 84, .bin .lss (.t 83) (.c (.one (.v (.int .i64 90)))), none, [], true, []⟩]) (.cond (.t 84) (.skip) (.exit 4))) (.seq (.block 5 (.seq (.seq (.reg false [
  ⟨some 87, .fad 0 (.t 7), none, [], true, []⟩,
  ⟨some 88, .load 1 false (.t 87), none, [], true, []⟩,
  ⟨some 89, .bin .eql (.t 88) (.c (.one (.v (.int .i64 6)))), none, [], true, []⟩]) (.cond (.t 89) (.seq (.reg false [
  ⟨some 6, .mv (.c (.one (.v (.bool false)))), none, [], true, []⟩]) (.ret)) (.skip))) (.reg false [
  ⟨some 91, .load 9 true (.t 7), none, [], true, []⟩,
  ⟨some 92, .call 13 [.t 91], none, [], true, []⟩,
  ⟨some 90, .mv (.t 92), none, [], true, []⟩,
  ⟨some 93, .ext (.t 90) 0, none, [], true, []⟩,
  ⟨some 94, .ext (.t 90) 1, none, [], true, []⟩,
  ⟨none, .store 9 (.t 7) (.t 93), none, [], true, []⟩]))) (.reg false [
  ⟨some 85, .mv (.t 12), none, [], true, []⟩,
  ⟨some 86, .bin .add (.t 85) (.c (.one (.v (.int .i64 1)))), none, [], true, []⟩,
  ⟨some 12, .mv (.t 86), none, [], true, []⟩])))))) (.seq (.reg false [
  ⟨some 95, .fad 0 (.t 7), none, [], true, []⟩,
  ⟨some 96, .load 1 false (.t 95), none, [], true, []⟩,
  ⟨some 97, .bin .eql (.t 96) (.c (.one (.v (.int .i64 6)))), none, [], true, []⟩,
  ⟨some 98, .mv (.t 97), none, [], true, []⟩,
  ⟨some 99, .fad 8 (.t 7), some (98, true), [], true, []⟩,
  ⟨some 100, .load 1 false (.t 99), some (98, true), [], true, []⟩,
  ⟨some 101, .bin .eql (.t 100) (.c (.one (.v (.int .i64 200)))), some (98, true), [], true, []⟩,
  ⟨some 102, .pick (.t 98) (.t 101) (.c (.one (.v (.bool false)))), none, [], true, []⟩,
  ⟨some 103, .mv (.t 102), none, [], true, []⟩,
  ⟨some 104, .call 8 [], some (103, true), [], true, []⟩,
  ⟨some 105, .pick (.t 103) (.t 104) (.c (.one (.v (.bool false)))), none, [], true, []⟩,
  ⟨some 6, .mv (.t 105), none, [], true, []⟩]) (.ret)))))))), res := [.t 6] }
theorem F4_ok : mtF Tryd.prog 4 F4 = true := by kernel_rfl
/- wharf/wharflaw15.SessionRuns -/
def F5 : Fun := { n := 110, code := .seq (.reg false [
  ⟨some 3, .box 23 (.t 0), none, [], true, []⟩,
  ⟨some 6, .mv (.c (.one (.v (.bool false)))), none, [], true, []⟩]) (.seq (.seq (.reg false [
  ⟨some 18, .fad 0 (.t 3), none, [], true, []⟩,
  ⟨some 19, .load 1 false (.t 18), none, [], true, []⟩,
  ⟨some 20, .len true (.t 19), none, [], true, []⟩,
  ⟨some 21, .fad 1 (.t 3), none, [], true, []⟩,
  ⟨some 22, .load 1 false (.t 21), none, [], true, []⟩,
  ⟨some 23, .len true (.t 22), none, [], true, []⟩,
  ⟨some 24, .bin .add (.t 20) (.t 23), none, [], true, []⟩,
  ⟨some 25, .bin .gtr (.t 24) (.c (.one (.v (.int .i64 12000)))), none, [], true, []⟩,
  ⟨some 26, .mv (.t 25), none, [], true, []⟩,
  ⟨some 27, .mv (.t 1), some (26, false), [], true, []⟩,
  ⟨some 28, .call 14 [.t 27], some (26, false), [], true, []⟩,
  ⟨some 29, .un .not (.t 28), some (26, false), [], true, []⟩,
  ⟨some 30, .pick (.t 26) (.c (.one (.v (.bool true)))) (.t 29), none, [], true, []⟩]) (.cond (.t 30) (.seq (.reg false [
  ⟨some 31, .call 8 [], none, [], true, []⟩,
  ⟨some 6, .mv (.t 31), none, [], true, []⟩]) (.ret)) (.skip))) (.seq (.reg false [
  ⟨some 33, .load 5 true (.t 3), none, [], true, []⟩,
  ⟨some 34, .call 9 [.t 33], none, [], true, []⟩,
  ⟨some 32, .mv (.t 34), none, [], true, []⟩,
  ⟨some 35, .ext (.t 32) 0, none, [], true, []⟩,
  ⟨some 36, .ext (.t 32) 1, none, [], true, []⟩,
  ⟨some 37, .ext (.t 32) 2, none, [], true, []⟩,
  ⟨some 7, .alloc 26 [.v (.int .i64 0), .v (.string ⟨#[]⟩), .v (.string ⟨#[]⟩), .v (.int .i64 0), .v (.int .i64 0), .v (.int .i64 0), .v (.int .i64 0), .v (.int .i64 0), .v (.int .i64 0)], none, [], true, []⟩,
  ⟨some 8, .alloc 29 [.sl .full 11 [], .v (.bool false), .sl .full 11 []], none, [], true, []⟩,
  ⟨none, .store 9 (.t 7) (.t 35), none, [], true, []⟩,
  ⟨none, .store 3 (.t 8) (.t 36), none, [], true, []⟩,
  ⟨some 9, .mv (.t 37), none, [], true, []⟩]) (.seq (.reg false [
  ⟨some 39, .fad 0 (.t 3), none, [], true, []⟩,
  ⟨some 40, .load 1 false (.t 39), none, [], true, []⟩,
  ⟨some 41, .fad 1 (.t 3), none, [], true, []⟩,
  ⟨some 42, .load 1 false (.t 41), none, [], true, []⟩,
  ⟨some 43, .fad 2 (.t 3), none, [], true, []⟩,
  ⟨some 44, .load 1 false (.t 43), none, [], true, []⟩,
  ⟨some 45, .fad 3 (.t 3), none, [], true, []⟩,
  ⟨some 46, .load 1 false (.t 45), none, [], true, []⟩,
  ⟨some 47, .fad 4 (.t 3), none, [], true, []⟩,
  ⟨some 48, .load 1 false (.t 47), none, [], true, []⟩,
  ⟨some 49, .call 15 [.t 40, .t 42, .t 44, .t 46, .t 48], none, [], true, []⟩,
  ⟨some 38, .mv (.t 49), none, [], true, []⟩,
  ⟨some 50, .ext (.t 38) 0, none, [], true, []⟩,
  ⟨some 51, .ext (.t 38) 1, none, [], true, []⟩,
  ⟨some 52, .ext (.t 38) 2, none, [], true, []⟩,
  ⟨some 10, .alloc 26 [.v (.int .i64 0), .v (.string ⟨#[]⟩), .v (.string ⟨#[]⟩), .v (.int .i64 0), .v (.int .i64 0), .v (.int .i64 0), .v (.int .i64 0), .v (.int .i64 0), .v (.int .i64 0)], none, [], true, []⟩,
  ⟨some 11, .alloc 29 [.sl .full 11 [], .v (.bool false), .sl .full 11 []], none, [], true, []⟩,
  ⟨none, .store 9 (.t 10) (.t 50), none, [], true, []⟩,
  ⟨none, .store 3 (.t 11) (.t 51), none, [], true, []⟩,
  ⟨some 12, .mv (.t 52), none, [], true, []⟩]) (.seq (.seq (.reg false [
  ⟨some 53, .load 9 true (.t 7), none, [], true, []⟩,
  ⟨some 54, .load 9 true (.t 10), none, [], true, []⟩,
  ⟨some 55, .eqs true [1, 2, 2, 1, 1, 1, 1, 1, 1] (.t 53) (.t 54), none, [], true, []⟩,
  ⟨some 56, .mv (.t 55), none, [], true, []⟩,
  ⟨some 57, .load 3 true (.t 8), some (56, false), [], true, []⟩,
  ⟨some 58, .load 3 true (.t 11), some (56, false), [], true, []⟩,
  ⟨some 59, .call 16 [.t 57, .t 58], some (56, false), [], true, []⟩,
  ⟨some 60, .un .not (.t 59), some (56, false), [], true, []⟩,
  ⟨some 61, .pick (.t 56) (.c (.one (.v (.bool true)))) (.t 60), none, [], true, []⟩,
  ⟨some 62, .mv (.t 61), none, [], true, []⟩,
  ⟨some 63, .mv (.t 9), some (62, false), [], true, []⟩,
  ⟨some 64, .mv (.t 12), some (62, false), [], true, []⟩,
  ⟨some 65, .bin .neq (.t 63) (.t 64), some (62, false), [], true, []⟩,
  ⟨some 66, .pick (.t 62) (.c (.one (.v (.bool true)))) (.t 65), none, [], true, []⟩,
  ⟨some 67, .mv (.t 66), none, [], true, []⟩,
  ⟨some 68, .mv (.t 2), some (67, false), [], true, []⟩,
  ⟨some 69, .call 17 [.t 68], some (67, false), [], true, []⟩,
  ⟨some 70, .mv (.t 2), some (67, false), [], true, []⟩,
  ⟨some 71, .call 18 [.t 70], some (67, false), [], true, []⟩,
  ⟨some 72, .eqb true (.t 69) (.t 71), some (67, false), [], true, []⟩,
  ⟨some 73, .pick (.t 67) (.c (.one (.v (.bool true)))) (.t 72), none, [], true, []⟩]) (.cond (.t 73) (.seq (.reg false [
  ⟨some 6, .mv (.c (.one (.v (.bool false)))), none, [], true, []⟩]) (.ret)) (.skip))) (.seq (.seq (.reg false [
  ⟨some 13, .mv (.c (.one (.v (.int .i64 0)))), none, [], true, []⟩]) (.block 0 (.loop (.seq (.seq (.reg false [
  ⟨some 74, .mv (.t 13), none, [], true, []⟩,
  ⟨some 75, .mv (.t 1), none, [], true, []⟩,
  ⟨some 76, .len false (.t 75), none, [], true, []⟩,
  ⟨some 77, .bin .lss (.t 74) (.t 76), none, [], true, []⟩]) (.cond (.t 77) (.skip) (.exit 0))) (.seq (.block 1 (.seq (.reg true [
  ⟨some 81, .load 9 true (.t 7), none, [], false, []⟩,
  ⟨some 82, .mv (.t 1), none, [], false, []⟩,
  ⟨some 83, .mv (.t 13), none, [], false, []⟩,
  ⟨some 84, .iad 13 (.t 82) (.t 83), none, [1, 2], false, []⟩,
  ⟨some 85, .load 13 true (.t 84), none, [3], false, []⟩,
  ⟨some 86, .call 19 [.t 81, .t 85], none, [0, 4], false, []⟩,
  ⟨some 80, .mv (.t 86), none, [5], false, []⟩,
  ⟨some 87, .ext (.t 80) 0, none, [6], false, []⟩,
  ⟨some 88, .ext (.t 80) 1, none, [6], false, []⟩,
  ⟨some 14, .alloc 26 [.v (.int .i64 0), .v (.string ⟨#[]⟩), .v (.string ⟨#[]⟩), .v (.int .i64 0), .v (.int .i64 0), .v (.int .i64 0), .v (.int .i64 0), .v (.int .i64 0), .v (.int .i64 0)], none, [], false, []⟩,
  ⟨some 15, .alloc 29 [.sl .full 11 [], .v (.bool false), .sl .full 11 []], none, [], false, []⟩,
  ⟨none, .store 9 (.t 14) (.t 87), none, [9, 7, 5, 0, 1, 2, 3, 4, 5, 6, 7, 9, 10], true, []⟩,
  ⟨none, .store 3 (.t 15) (.t 88), none, [10, 8, 11, 0, 1, 2, 3, 4, 5, 6, 7, 8, 9, 10, 11], true, []⟩]) (.seq (.reg true [
  ⟨some 90, .load 9 true (.t 10), none, [], false, []⟩,
  ⟨some 91, .mv (.t 1), none, [], false, []⟩,
  ⟨some 92, .mv (.t 13), none, [], false, []⟩,
  ⟨some 93, .iad 13 (.t 91) (.t 92), none, [1, 2], false, []⟩,
  ⟨some 94, .load 13 true (.t 93), none, [3], false, []⟩,
  ⟨some 95, .call 20 [.t 90, .t 94], none, [0, 4], false, []⟩,
  ⟨some 89, .mv (.t 95), none, [5], false, []⟩,
  ⟨some 96, .ext (.t 89) 0, none, [6], false, []⟩,
  ⟨some 97, .ext (.t 89) 1, none, [6], false, []⟩,
  ⟨some 16, .alloc 26 [.v (.int .i64 0), .v (.string ⟨#[]⟩), .v (.string ⟨#[]⟩), .v (.int .i64 0), .v (.int .i64 0), .v (.int .i64 0), .v (.int .i64 0), .v (.int .i64 0), .v (.int .i64 0)], none, [], false, []⟩,
  ⟨some 17, .alloc 29 [.sl .full 11 [], .v (.bool false), .sl .full 11 []], none, [], false, []⟩,
  ⟨none, .store 9 (.t 16) (.t 96), none, [9, 7, 5, 0, 1, 2, 3, 4, 5, 6, 7, 9, 10], true, []⟩,
  ⟨none, .store 3 (.t 17) (.t 97), none, [10, 8, 11, 0, 1, 2, 3, 4, 5, 6, 7, 8, 9, 10, 11], true, []⟩]) (.seq (.seq (.reg false [
  ⟨some 98, .load 9 true (.t 14), none, [], true, []⟩,
  ⟨some 99, .load 9 true (.t 16), none, [], true, []⟩,
  ⟨some 100, .eqs true [1, 2, 2, 1, 1, 1, 1, 1, 1] (.t 98) (.t 99), none, [], true, []⟩,
  ⟨some 101, .mv (.t 100), none, [], true, []⟩,
  ⟨some 102, .load 3 true (.t 15), some (101, false), [], true, []⟩,
  ⟨some 103, .load 3 true (.t 17), some (101, false), [], true, []⟩,
  ⟨some 104, .call 16 [.t 102, .t 103], some (101, false), [], true, []⟩,
  ⟨some 105, .un .not (.t 104), some (101, false), [], true, []⟩,
  ⟨some 106, .pick (.t 101) (.c (.one (.v (.bool true)))) (.t 105), none, [], true, []⟩]) (.cond (.t 106) (.seq (.reg false [
  ⟨some 6, .mv (.c (.one (.v (.bool false)))), none, [], true, []⟩]) (.ret)) (.skip))) (.reg true [
  ⟨some 107, .load 9 true (.t 14), none, [], false, []⟩,
  ⟨some 108, .load 9 true (.t 16), none, [], false, []⟩,
  ⟨none, .store 9 (.t 7) (.t 107), none, [0, 0], false, [1]⟩,
  ⟨none, .store 9 (.t 10) (.t 108), none, [1, 2, 0, 1, 2], true, []⟩]))))) (.reg false [
  ⟨some 78, .mv (.t 13), none, [], true, []⟩,
  ⟨some 79, .bin .add (.t 78) (.c (.one (.v (.int .i64 1)))), none, [], true, []⟩,
  ⟨some 13, .mv (.t 79), none, [], true, []⟩])))))) (.seq (.reg false [
  ⟨some 109, .call 8 [], none, [], true, []⟩,
  ⟨some 6, .mv (.t 109), none, [], true, []⟩]) (.ret))))))), res := [.t 6] }
theorem F5_ok : mtF Tryd.prog 5 F5 = true := by kernel_rfl
/- wharf/wharflaw15.SessionStands -/
def F6 : Fun := { n := 67, code := .seq (.reg false [
  ⟨some 2, .box 26 (.t 0), none, [], true, []⟩,
  ⟨some 3, .box 50 (.t 1), none, [], true, []⟩,
  ⟨some 4, .mv (.c (.one (.v (.bool false)))), none, [], true, []⟩]) (.seq (.seq (.reg false [
  ⟨some 9, .fad 1 (.t 2), none, [], true, []⟩,
  ⟨some 10, .load 1 false (.t 9), none, [], true, []⟩,
  ⟨some 11, .len true (.t 10), none, [], true, []⟩,
  ⟨some 12, .fad 2 (.t 2), none, [], true, []⟩,
  ⟨some 13, .load 1 false (.t 12), none, [], true, []⟩,
  ⟨some 14, .len true (.t 13), none, [], true, []⟩,
  ⟨some 15, .bin .add (.t 11) (.t 14), none, [], true, []⟩,
  ⟨some 16, .bin .gtr (.t 15) (.c (.one (.v (.int .i64 12000)))), none, [], true, []⟩,
  ⟨some 17, .mv (.t 16), none, [], true, []⟩,
  ⟨some 18, .load 13 true (.t 3), some (17, false), [], true, []⟩,
  ⟨some 19, .bsl 50 13 [.t 18], some (17, false), [], true, []⟩,
  ⟨some 20, .call 14 [.t 19], some (17, false), [], true, []⟩,
  ⟨some 21, .un .not (.t 20), some (17, false), [], true, []⟩,
  ⟨some 22, .pick (.t 17) (.c (.one (.v (.bool true)))) (.t 21), none, [], true, []⟩,
  ⟨some 23, .mv (.t 22), none, [], true, []⟩,
  ⟨some 24, .fad 6 (.t 2), some (23, false), [], true, []⟩,
  ⟨some 25, .load 1 false (.t 24), some (23, false), [], true, []⟩,
  ⟨some 26, .bin .lss (.t 25) (.c (.one (.v (.int .i64 0)))), some (23, false), [], true, []⟩,
  ⟨some 27, .pick (.t 23) (.c (.one (.v (.bool true)))) (.t 26), none, [], true, []⟩,
  ⟨some 28, .mv (.t 27), none, [], true, []⟩,
  ⟨some 29, .fad 6 (.t 2), some (28, false), [], true, []⟩,
  ⟨some 30, .load 1 false (.t 29), some (28, false), [], true, []⟩,
  ⟨some 31, .bin .gtr (.t 30) (.c (.one (.v (.int .i64 1000000)))), some (28, false), [], true, []⟩,
  ⟨some 32, .pick (.t 28) (.c (.one (.v (.bool true)))) (.t 31), none, [], true, []⟩,
  ⟨some 33, .mv (.t 32), none, [], true, []⟩,
  ⟨some 34, .fad 7 (.t 2), some (33, false), [], true, []⟩,
  ⟨some 35, .load 1 false (.t 34), some (33, false), [], true, []⟩,
  ⟨some 36, .bin .lss (.t 35) (.c (.one (.v (.int .i64 0)))), some (33, false), [], true, []⟩,
  ⟨some 37, .pick (.t 33) (.c (.one (.v (.bool true)))) (.t 36), none, [], true, []⟩,
  ⟨some 38, .mv (.t 37), none, [], true, []⟩,
  ⟨some 39, .fad 7 (.t 2), some (38, false), [], true, []⟩,
  ⟨some 40, .load 1 false (.t 39), some (38, false), [], true, []⟩,
  ⟨some 41, .bin .gtr (.t 40) (.c (.one (.v (.int .i64 1000000)))), some (38, false), [], true, []⟩,
  ⟨some 42, .pick (.t 38) (.c (.one (.v (.bool true)))) (.t 41), none, [], true, []⟩]) (.cond (.t 42) (.seq (.reg false [
  ⟨some 43, .call 8 [], none, [], true, []⟩,
  ⟨some 4, .mv (.t 43), none, [], true, []⟩]) (.ret)) (.skip))) (.seq (.reg false [
  ⟨some 45, .load 9 true (.t 2), none, [], true, []⟩,
  ⟨some 46, .load 13 true (.t 3), none, [], true, []⟩,
  ⟨some 47, .call 19 [.t 45, .t 46], none, [], true, []⟩,
  ⟨some 44, .mv (.t 47), none, [], true, []⟩,
  ⟨some 48, .ext (.t 44) 0, none, [], true, []⟩,
  ⟨some 49, .ext (.t 44) 1, none, [], true, []⟩,
  ⟨some 5, .alloc 26 [.v (.int .i64 0), .v (.string ⟨#[]⟩), .v (.string ⟨#[]⟩), .v (.int .i64 0), .v (.int .i64 0), .v (.int .i64 0), .v (.int .i64 0), .v (.int .i64 0), .v (.int .i64 0)], none, [], true, []⟩,
  ⟨some 6, .alloc 29 [.sl .full 11 [], .v (.bool false), .sl .full 11 []], none, [], true, []⟩,
  ⟨none, .store 9 (.t 5) (.t 48), none, [], true, []⟩,
  ⟨none, .store 3 (.t 6) (.t 49), none, [], true, []⟩]) (.seq (.reg false [
  ⟨some 51, .load 9 true (.t 2), none, [], true, []⟩,
  ⟨some 52, .load 13 true (.t 3), none, [], true, []⟩,
  ⟨some 53, .call 20 [.t 51, .t 52], none, [], true, []⟩,
  ⟨some 50, .mv (.t 53), none, [], true, []⟩,
  ⟨some 54, .ext (.t 50) 0, none, [], true, []⟩,
  ⟨some 55, .ext (.t 50) 1, none, [], true, []⟩,
  ⟨some 7, .alloc 26 [.v (.int .i64 0), .v (.string ⟨#[]⟩), .v (.string ⟨#[]⟩), .v (.int .i64 0), .v (.int .i64 0), .v (.int .i64 0), .v (.int .i64 0), .v (.int .i64 0), .v (.int .i64 0)], none, [], true, []⟩,
  ⟨some 8, .alloc 29 [.sl .full 11 [], .v (.bool false), .sl .full 11 []], none, [], true, []⟩,
  ⟨none, .store 9 (.t 7) (.t 54), none, [], true, []⟩,
  ⟨none, .store 3 (.t 8) (.t 55), none, [], true, []⟩]) (.seq (.reg false [
  ⟨some 56, .load 9 true (.t 5), none, [], true, []⟩,
  ⟨some 57, .load 9 true (.t 7), none, [], true, []⟩,
  ⟨some 58, .eqs false [1, 2, 2, 1, 1, 1, 1, 1, 1] (.t 56) (.t 57), none, [], true, []⟩,
  ⟨some 59, .mv (.t 58), none, [], true, []⟩,
  ⟨some 60, .load 3 true (.t 6), some (59, true), [], true, []⟩,
  ⟨some 61, .load 3 true (.t 8), some (59, true), [], true, []⟩,
  ⟨some 62, .call 16 [.t 60, .t 61], some (59, true), [], true, []⟩,
  ⟨some 63, .pick (.t 59) (.t 62) (.c (.one (.v (.bool false)))), none, [], true, []⟩,
  ⟨some 64, .mv (.t 63), none, [], true, []⟩,
  ⟨some 65, .call 8 [], some (64, true), [], true, []⟩,
  ⟨some 66, .pick (.t 64) (.t 65) (.c (.one (.v (.bool false)))), none, [], true, []⟩,
  ⟨some 4, .mv (.t 66), none, [], true, []⟩]) (.ret))))), res := [.t 4] }
theorem F6_ok : mtF Tryd.prog 6 F6 = true := by kernel_rfl
/- wharf/wharflaw15.SessionOrder -/
def F7 : Fun := { n := 179, code := .seq (.reg false [
  ⟨some 2, .box 23 (.t 0), none, [], true, []⟩,
  ⟨some 4, .mv (.c (.one (.v (.bool false)))), none, [], true, []⟩]) (.seq (.seq (.reg false [
  ⟨some 13, .fad 0 (.t 2), none, [], true, []⟩,
  ⟨some 14, .load 1 false (.t 13), none, [], true, []⟩,
  ⟨some 15, .len true (.t 14), none, [], true, []⟩,
  ⟨some 16, .fad 1 (.t 2), none, [], true, []⟩,
  ⟨some 17, .load 1 false (.t 16), none, [], true, []⟩,
  ⟨some 18, .len true (.t 17), none, [], true, []⟩,
  ⟨some 19, .bin .add (.t 15) (.t 18), none, [], true, []⟩,
  ⟨some 20, .bin .gtr (.t 19) (.c (.one (.v (.int .i64 12000)))), none, [], true, []⟩,
  ⟨some 21, .mv (.t 20), none, [], true, []⟩,
  ⟨some 22, .mv (.t 1), some (21, false), [], true, []⟩,
  ⟨some 23, .call 14 [.t 22], some (21, false), [], true, []⟩,
  ⟨some 24, .un .not (.t 23), some (21, false), [], true, []⟩,
  ⟨some 25, .pick (.t 21) (.c (.one (.v (.bool true)))) (.t 24), none, [], true, []⟩]) (.cond (.t 25) (.seq (.reg false [
  ⟨some 26, .call 8 [], none, [], true, []⟩,
  ⟨some 4, .mv (.t 26), none, [], true, []⟩]) (.ret)) (.skip))) (.seq (.reg false [
  ⟨some 28, .load 5 true (.t 2), none, [], true, []⟩,
  ⟨some 29, .call 9 [.t 28], none, [], true, []⟩,
  ⟨some 27, .mv (.t 29), none, [], true, []⟩,
  ⟨some 30, .ext (.t 27) 0, none, [], true, []⟩,
  ⟨some 31, .ext (.t 27) 1, none, [], true, []⟩,
  ⟨some 32, .ext (.t 27) 2, none, [], true, []⟩,
  ⟨some 5, .alloc 26 [.v (.int .i64 0), .v (.string ⟨#[]⟩), .v (.string ⟨#[]⟩), .v (.int .i64 0), .v (.int .i64 0), .v (.int .i64 0), .v (.int .i64 0), .v (.int .i64 0), .v (.int .i64 0)], none, [], true, []⟩,
  ⟨some 6, .alloc 29 [.sl .full 11 [], .v (.bool false), .sl .full 11 []], none, [], true, []⟩,
  ⟨none, .store 9 (.t 5) (.t 30), none, [], true, []⟩,
  ⟨none, .store 3 (.t 6) (.t 31), none, [], true, []⟩,
  ⟨some 7, .mv (.t 32), none, [], true, []⟩]) (.seq (.seq (.reg false [
  ⟨some 33, .mv (.t 7), none, [], true, []⟩,
  ⟨some 34, .bin .neq (.t 33) (.c (.one (.v (.int .i64 0)))), none, [], true, []⟩]) (.cond (.t 34) (.seq (.reg false [
  ⟨some 35, .load 9 true (.t 5), none, [], true, []⟩,
  ⟨some 36, .build [.v (.int .i64 0), .v (.string ⟨#[]⟩), .v (.string ⟨#[]⟩), .v (.int .i64 0), .v (.int .i64 0), .v (.int .i64 0), .v (.int .i64 0), .v (.int .i64 0), .v (.int .i64 0)] [], none, [], true, []⟩,
  ⟨some 37, .eqs false [1, 2, 2, 1, 1, 1, 1, 1, 1] (.t 35) (.t 36), none, [], true, []⟩,
  ⟨some 38, .mv (.t 37), none, [], true, []⟩,
  ⟨some 39, .fad 0 (.t 6), some (38, true), [], true, []⟩,
  ⟨some 40, .load 1 false (.t 39), some (38, true), [], true, []⟩,
  ⟨some 41, .len false (.t 40), some (38, true), [], true, []⟩,
  ⟨some 42, .fad 2 (.t 6), some (38, true), [], true, []⟩,
  ⟨some 43, .load 1 false (.t 42), some (38, true), [], true, []⟩,
  ⟨some 44, .len false (.t 43), some (38, true), [], true, []⟩,
  ⟨some 45, .bin .add (.t 41) (.t 44), some (38, true), [], true, []⟩,
  ⟨some 46, .bin .eql (.t 45) (.c (.one (.v (.int .i64 0)))), some (38, true), [], true, []⟩,
  ⟨some 47, .pick (.t 38) (.t 46) (.c (.one (.v (.bool false)))), none, [], true, []⟩,
  ⟨some 48, .mv (.t 47), none, [], true, []⟩,
  ⟨some 49, .call 8 [], some (48, true), [], true, []⟩,
  ⟨some 50, .pick (.t 48) (.t 49) (.c (.one (.v (.bool false)))), none, [], true, []⟩,
  ⟨some 4, .mv (.t 50), none, [], true, []⟩]) (.ret)) (.skip))) (.seq (.seq (.reg false [
  ⟨some 8, .mv (.c (.one (.v (.int .i64 0)))), none, [], true, []⟩]) (.block 0 (.loop (.seq (.seq (.reg false [
  ⟨some 51, .mv (.t 8), none, [], true, []⟩,
  ⟨some 52, .mv (.t 1), none, [], true, []⟩,
  ⟨some 53, .len false (.t 52), none, [], true, []⟩,
  ⟨some 54, .bin .lss (.t 51) (.t 53), none, [], true, []⟩]) (.cond (.t 54) (.skip) (.exit 0))) (.seq (.block 1 (.seq (.reg true [
  ⟨some 58, .load 9 true (.t 5), none, [], false, []⟩,
  ⟨some 59, .mv (.t 1), none, [], false, []⟩,
  ⟨some 60, .mv (.t 8), none, [], false, []⟩,
  ⟨some 61, .iad 13 (.t 59) (.t 60), none, [1, 2], false, []⟩,
  ⟨some 62, .load 13 true (.t 61), none, [3], false, []⟩,
  ⟨some 63, .call 19 [.t 58, .t 62], none, [0, 4], false, []⟩,
  ⟨some 57, .mv (.t 63), none, [5], false, []⟩,
  ⟨some 64, .ext (.t 57) 0, none, [6], false, []⟩,
  ⟨some 65, .ext (.t 57) 1, none, [6], false, []⟩,
  ⟨some 9, .alloc 26 [.v (.int .i64 0), .v (.string ⟨#[]⟩), .v (.string ⟨#[]⟩), .v (.int .i64 0), .v (.int .i64 0), .v (.int .i64 0), .v (.int .i64 0), .v (.int .i64 0), .v (.int .i64 0)], none, [], false, []⟩,
  ⟨some 10, .alloc 29 [.sl .full 11 [], .v (.bool false), .sl .full 11 []], none, [], false, []⟩,
  ⟨none, .store 9 (.t 9) (.t 64), none, [9, 7, 5, 0, 1, 2, 3, 4, 5, 6, 7, 9, 10], true, []⟩,
  ⟨none, .store 3 (.t 10) (.t 65), none, [10, 8, 11, 0, 1, 2, 3, 4, 5, 6, 7, 8, 9, 10, 11], true, []⟩]) (.seq (.seq (.reg false [
  ⟨some 66, .fad 0 (.t 9), none, [], true, []⟩,
  ⟨some 67, .load 1 false (.t 66), none, [], true, []⟩,
  ⟨some 68, .fad 0 (.t 5), none, [], true, []⟩,
  ⟨some 69, .load 1 false (.t 68), none, [], true, []⟩,
  ⟨some 70, .bin .lss (.t 67) (.t 69), none, [], true, []⟩,
  ⟨some 71, .mv (.t 70), none, [], true, []⟩,
  ⟨some 72, .fad 1 (.t 9), some (71, false), [], true, []⟩,
  ⟨some 73, .load 1 false (.t 72), some (71, false), [], true, []⟩,
  ⟨some 74, .fad 1 (.t 5), some (71, false), [], true, []⟩,
  ⟨some 75, .load 1 false (.t 74), some (71, false), [], true, []⟩,
  ⟨some 76, .bin .neq (.t 73) (.t 75), some (71, false), [], true, []⟩,
  ⟨some 77, .pick (.t 71) (.c (.one (.v (.bool true)))) (.t 76), none, [], true, []⟩,
  ⟨some 78, .mv (.t 77), none, [], true, []⟩,
  ⟨some 79, .fad 2 (.t 9), some (78, false), [], true, []⟩,
  ⟨some 80, .load 1 false (.t 79), some (78, false), [], true, []⟩,
  ⟨some 81, .fad 2 (.t 5), some (78, false), [], true, []⟩,
  ⟨some 82, .load 1 false (.t 81), some (78, false), [], true, []⟩,
  ⟨some 83, .bin .neq (.t 80) (.t 82), some (78, false), [], true, []⟩,
  ⟨some 84, .pick (.t 78) (.c (.one (.v (.bool true)))) (.t 83), none, [], true, []⟩,
  ⟨some 85, .mv (.t 84), none, [], true, []⟩,
  ⟨some 86, .fad 0 (.t 5), some (85, false), [], true, []⟩,
  ⟨some 87, .load 1 false (.t 86), some (85, false), [], true, []⟩,
  ⟨some 88, .bin .eql (.t 87) (.c (.one (.v (.int .i64 6)))), some (85, false), [], true, []⟩,
  ⟨some 89, .mv (.t 88), some (85, false), [], true, []⟩,
  ⟨some 90, .load 9 true (.t 9), some (89, true), [], true, []⟩,
  ⟨some 91, .load 9 true (.t 5), some (89, true), [], true, []⟩,
  ⟨some 92, .eqs true [1, 2, 2, 1, 1, 1, 1, 1, 1] (.t 90) (.t 91), some (89, true), [], true, []⟩,
  ⟨some 93, .mv (.t 92), some (89, true), [], true, []⟩,
  ⟨some 94, .fad 0 (.t 10), some (93, false), [], true, []⟩,
  ⟨some 95, .load 1 false (.t 94), some (93, false), [], true, []⟩,
  ⟨some 96, .len false (.t 95), some (93, false), [], true, []⟩,
  ⟨some 97, .fad 2 (.t 10), some (93, false), [], true, []⟩,
  ⟨some 98, .load 1 false (.t 97), some (93, false), [], true, []⟩,
  ⟨some 99, .len false (.t 98), some (93, false), [], true, []⟩,
  ⟨some 100, .bin .add (.t 96) (.t 99), some (93, false), [], true, []⟩,
  ⟨some 101, .bin .gtr (.t 100) (.c (.one (.v (.int .i64 0)))), some (93, false), [], true, []⟩,
  ⟨some 102, .pick (.t 93) (.c (.one (.v (.bool true)))) (.t 101), some (89, true), [], true, []⟩,
  ⟨some 103, .mv (.t 102), some (89, true), [], true, []⟩,
  ⟨some 104, .fad 1 (.t 10), some (103, false), [], true, []⟩,
  ⟨some 105, .load 1 false (.t 104), some (103, false), [], true, []⟩,
  ⟨some 106, .pick (.t 103) (.c (.one (.v (.bool true)))) (.t 105), some (89, true), [], true, []⟩,
  ⟨some 107, .pick (.t 89) (.t 106) (.c (.one (.v (.bool false)))), some (85, false), [], true, []⟩,
  ⟨some 108, .pick (.t 85) (.c (.one (.v (.bool true)))) (.t 107), none, [], true, []⟩]) (.cond (.t 108) (.seq (.reg false [
  ⟨some 4, .mv (.c (.one (.v (.bool false)))), none, [], true, []⟩]) (.ret)) (.skip))) (.seq (.seq (.reg false [
  ⟨some 109, .fad 2 (.t 10), none, [], true, []⟩,
  ⟨some 110, .load 1 false (.t 109), none, [], true, []⟩,
  ⟨some 111, .len false (.t 110), none, [], true, []⟩,
  ⟨some 112, .bin .gtr (.t 111) (.c (.one (.v (.int .i64 0)))), none, [], true, []⟩,
  ⟨some 113, .mv (.t 112), none, [], true, []⟩,
  ⟨some 114, .fad 0 (.t 5), some (113, true), [], true, []⟩,
  ⟨some 115, .load 1 false (.t 114), some (113, true), [], true, []⟩,
  ⟨some 116, .bin .neq (.t 115) (.c (.one (.v (.int .i64 5)))), some (113, true), [], true, []⟩,
  ⟨some 117, .pick (.t 113) (.t 116) (.c (.one (.v (.bool false)))), none, [], true, []⟩,
  ⟨some 118, .mv (.t 117), none, [], true, []⟩,
  ⟨some 119, .fad 0 (.t 9), some (118, true), [], true, []⟩,
  ⟨some 120, .load 1 false (.t 119), some (118, true), [], true, []⟩,
  ⟨some 121, .bin .neq (.t 120) (.c (.one (.v (.int .i64 5)))), some (118, true), [], true, []⟩,
  ⟨some 122, .pick (.t 118) (.t 121) (.c (.one (.v (.bool false)))), none, [], true, []⟩,
  ⟨some 123, .mv (.t 122), none, [], true, []⟩,
  ⟨some 124, .fad 0 (.t 9), some (123, true), [], true, []⟩,
  ⟨some 125, .load 1 false (.t 124), some (123, true), [], true, []⟩,
  ⟨some 126, .bin .neq (.t 125) (.c (.one (.v (.int .i64 6)))), some (123, true), [], true, []⟩,
  ⟨some 127, .pick (.t 123) (.t 126) (.c (.one (.v (.bool false)))), none, [], true, []⟩]) (.cond (.t 127) (.seq (.reg false [
  ⟨some 4, .mv (.c (.one (.v (.bool false)))), none, [], true, []⟩]) (.ret)) (.skip))) (.seq (.seq (.reg false [
  ⟨some 11, .mv (.c (.one (.v (.int .i64 0)))), none, [], true, []⟩]) (.block 2 (.loop (.seq (.seq (.reg false [
  ⟨some 128, .mv (.t 11), none, [], true, []⟩,
  ⟨some 129, .fad 0 (.t 10), none, [], true, []⟩,
  ⟨some 130, .load 1 false (.t 129), none, [], true, []⟩,
  ⟨some 131, .len false (.t 130), none, [], true, []⟩,
  ⟨some 132, .bin .lss (.t 128) (.t 131), none, [], true, []⟩]) (.cond (.t 132) (.skip) (.exit 2))) (.seq (.block 3 (.seq (.reg false [
  ⟨some 135, .fad 0 (.t 10), none, [], true, []⟩,
  ⟨some 136, .load 1 false (.t 135), none, [], true, []⟩,
  ⟨some 137, .mv (.t 11), none, [], true, []⟩,
  ⟨some 138, .iad 11 (.t 136) (.t 137), none, [], true, []⟩,
  ⟨some 139, .load 11 true (.t 138), none, [], true, []⟩,
  ⟨some 12, .alloc 37 [.v (.int .i64 0), .v (.string ⟨#[]⟩), .v (.string ⟨#[]⟩), .v (.string ⟨#[]⟩), .v (.int .i64 0), .v (.int .i64 0), .v (.int .i64 0), .v (.int .i64 0), .v (.bool false), .sl .full 6 [], .sl .full 1 []], none, [], true, []⟩,
  ⟨none, .store 11 (.t 12) (.t 139), none, [], true, []⟩]) (.seq (.reg true [
  ⟨some 140, .fad 0 (.t 12), none, [], false, []⟩,
  ⟨some 141, .load 1 false (.t 140), none, [0], true, []⟩,
  ⟨some 142, .bin .neq (.t 141) (.c (.one (.v (.int .i64 7)))), none, [1], false, []⟩,
  ⟨some 143, .mv (.t 142), none, [2], false, []⟩,
  ⟨some 144, .fad 3 (.t 12), some (143, true), [3], false, []⟩,
  ⟨some 145, .load 1 false (.t 144), some (143, true), [4, 3], false, []⟩,
  ⟨some 146, .fad 2 (.t 5), some (143, true), [3], false, []⟩,
  ⟨some 147, .load 1 false (.t 146), some (143, true), [6, 3], false, []⟩,
  ⟨some 148, .bin .eql (.t 145) (.t 147), some (143, true), [5, 7, 3], false, []⟩,
  ⟨some 149, .pick (.t 143) (.t 148) (.c (.one (.v (.bool false)))), none, [3, 8], false, []⟩,
  ⟨some 150, .mv (.t 149), none, [9, 3], false, []⟩,
  ⟨some 151, .mv (.t 1), some (150, true), [10], false, []⟩,
  ⟨some 152, .mv (.t 8), some (150, true), [10], false, []⟩,
  ⟨some 153, .iad 13 (.t 151) (.t 152), some (150, true), [11, 12, 10], false, []⟩,
  ⟨some 154, .fad 1 (.t 153), some (150, true), [13, 10], false, []⟩,
  ⟨some 155, .fad 3 (.t 154), some (150, true), [14, 10], false, []⟩,
  ⟨some 156, .load 1 false (.t 155), some (150, true), [15, 10], false, []⟩,
  ⟨some 157, .fad 2 (.t 5), some (150, true), [10], false, []⟩,
  ⟨some 158, .load 1 false (.t 157), some (150, true), [17, 10], false, []⟩,
  ⟨some 159, .bin .neq (.t 156) (.t 158), some (150, true), [16, 18, 10], false, []⟩,
  ⟨some 160, .pick (.t 150) (.t 159) (.c (.one (.v (.bool false)))), none, [10, 19], false, []⟩,
  ⟨some 161, .mv (.t 160), none, [20, 10], false, []⟩,
  ⟨some 162, .fad 2 (.t 12), some (161, false), [21], false, []⟩,
  ⟨some 163, .load 1 false (.t 162), some (161, false), [22, 21], true, []⟩,
  ⟨some 164, .bin .neq (.t 163) (.c (.one (.v (.string ⟨#[]⟩)))), some (161, false), [23, 21], false, []⟩,
  ⟨some 165, .pick (.t 161) (.c (.one (.v (.bool true)))) (.t 164), none, [21, 24], false, []⟩,
  ⟨some 166, .mv (.t 165), none, [25, 21], false, []⟩,
  ⟨some 167, .fad 0 (.t 12), some (166, false), [26], false, []⟩,
  ⟨some 168, .load 1 false (.t 167), some (166, false), [27, 26], true, []⟩,
  ⟨some 169, .bin .eql (.t 168) (.c (.one (.v (.int .i64 7)))), some (166, false), [28, 26], false, []⟩,
  ⟨some 170, .mv (.t 169), some (166, false), [29, 26, 26], false, []⟩,
  ⟨some 171, .fad 3 (.t 12), some (170, true), [30], false, []⟩,
  ⟨some 172, .load 1 false (.t 171), some (170, true), [31, 30], true, []⟩,
  ⟨some 173, .len true (.t 172), some (170, true), [32, 30], false, []⟩,
  ⟨some 174, .bin .neq (.t 173) (.c (.one (.v (.int .i64 16)))), some (170, true), [33, 30], false, []⟩,
  ⟨some 175, .pick (.t 170) (.t 174) (.c (.one (.v (.bool false)))), some (166, false), [30, 34, 26], false, []⟩,
  ⟨some 176, .pick (.t 166) (.c (.one (.v (.bool true)))) (.t 175), none, [26, 35], false, []⟩]) (.cond (.t 176) (.seq (.reg false [
  ⟨some 4, .mv (.c (.one (.v (.bool false)))), none, [], true, []⟩]) (.ret)) (.skip))))) (.reg false [
  ⟨some 133, .mv (.t 11), none, [], true, []⟩,
  ⟨some 134, .bin .add (.t 133) (.c (.one (.v (.int .i64 1)))), none, [], true, []⟩,
  ⟨some 11, .mv (.t 134), none, [], true, []⟩])))))) (.reg false [
  ⟨some 177, .load 9 true (.t 9), none, [], true, []⟩,
  ⟨none, .store 9 (.t 5) (.t 177), none, [], true, []⟩])))))) (.reg false [
  ⟨some 55, .mv (.t 8), none, [], true, []⟩,
  ⟨some 56, .bin .add (.t 55) (.c (.one (.v (.int .i64 1)))), none, [], true, []⟩,
  ⟨some 8, .mv (.t 56), none, [], true, []⟩])))))) (.seq (.reg false [
  ⟨some 178, .call 8 [], none, [], true, []⟩,
  ⟨some 4, .mv (.t 178), none, [], true, []⟩]) (.ret)))))), res := [.t 4] }
theorem F7_ok : mtF Tryd.prog 7 F7 = true := by kernel_rfl
/- wharf/wharflaw15.live -/
def F8 : Fun := { n := 92, code := .seq (.reg false [
  ⟨some 0, .mv (.c (.one (.v (.bool false)))), none, [], true, []⟩]) (.seq (.reg false [
  ⟨some 10, .call 21 [.c (.one (.v (.string ⟨#[106, 111, 101]⟩))), .c (.one (.v (.string ⟨#[112]⟩))), .c (.one (.v (.int .i64 0))), .c (.one (.v (.int .i64 0))), .c (.one (.v (.int .i64 0)))], none, [], true, []⟩,
  ⟨some 9, .mv (.t 10), none, [], true, []⟩,
  ⟨some 11, .ext (.t 9) 0, none, [], true, []⟩,
  ⟨some 12, .ext (.t 9) 1, none, [], true, []⟩,
  ⟨some 13, .ext (.t 9) 2, none, [], true, []⟩,
  ⟨some 1, .alloc 26 [.v (.int .i64 0), .v (.string ⟨#[]⟩), .v (.string ⟨#[]⟩), .v (.int .i64 0), .v (.int .i64 0), .v (.int .i64 0), .v (.int .i64 0), .v (.int .i64 0), .v (.int .i64 0)], none, [], true, []⟩,
  ⟨some 2, .alloc 29 [.sl .full 11 [], .v (.bool false), .sl .full 11 []], none, [], true, []⟩,
  ⟨none, .store 9 (.t 1) (.t 11), none, [], true, []⟩,
  ⟨none, .store 3 (.t 2) (.t 12), none, [], true, []⟩,
  ⟨some 3, .mv (.t 13), none, [], true, []⟩]) (.seq (.reg false [
  ⟨some 14, .load 9 true (.t 1), none, [], true, []⟩,
  ⟨some 15, .build [.v (.int .i64 0), .v (.string ⟨#[]⟩), .v (.string ⟨#[]⟩), .v (.string ⟨#[]⟩), .v (.int .i64 0), .v (.int .i64 0), .v (.int .i64 0), .v (.int .i64 0), .v (.bool false), .sl .full 6 [], .sl .full 1 []] [(0, 1, .c (.one (.v (.int .i64 6)))), (3, 1, .c (.one (.v (.string ⟨#[107]⟩))))], none, [], true, []⟩,
  ⟨some 16, .call 22 [.t 14, .t 15], none, [], true, []⟩,
  ⟨none, .store 9 (.t 1) (.t 16), none, [], true, []⟩]) (.seq (.reg false [
  ⟨some 18, .load 9 true (.t 1), none, [], true, []⟩,
  ⟨some 19, .build [.v (.int .i64 0), .v (.string ⟨#[]⟩), .v (.string ⟨#[]⟩), .v (.string ⟨#[]⟩), .v (.int .i64 0), .v (.int .i64 0), .v (.int .i64 0), .v (.int .i64 0), .v (.bool false), .sl .full 6 [], .sl .full 1 []] [(0, 1, .c (.one (.v (.int .i64 8)))), (1, 1, .c (.one (.v (.string ⟨#[74, 111, 101]⟩)))), (3, 1, .c (.one (.v (.string ⟨#[99]⟩))))], none, [], true, []⟩,
  ⟨some 20, .call 10 [.t 18, .t 19], none, [], true, []⟩,
  ⟨some 17, .mv (.t 20), none, [], true, []⟩,
  ⟨some 21, .ext (.t 17) 0, none, [], true, []⟩,
  ⟨some 22, .ext (.t 17) 1, none, [], true, []⟩,
  ⟨some 4, .alloc 29 [.sl .full 11 [], .v (.bool false), .sl .full 11 []], none, [], true, []⟩,
  ⟨none, .store 9 (.t 1) (.t 21), none, [], true, []⟩,
  ⟨none, .store 3 (.t 4) (.t 22), none, [], true, []⟩]) (.seq (.reg false [
  ⟨some 24, .load 9 true (.t 1), none, [], true, []⟩,
  ⟨some 25, .build [.v (.int .i64 0), .v (.string ⟨#[]⟩), .v (.string ⟨#[]⟩), .v (.string ⟨#[]⟩), .v (.int .i64 0), .v (.int .i64 0), .v (.int .i64 0), .v (.int .i64 0), .v (.bool false), .sl .full 6 [], .sl .full 1 []] [(0, 1, .c (.one (.v (.int .i64 9))))], none, [], true, []⟩,
  ⟨some 26, .call 10 [.t 24, .t 25], none, [], true, []⟩,
  ⟨some 23, .mv (.t 26), none, [], true, []⟩,
  ⟨some 27, .ext (.t 23) 0, none, [], true, []⟩,
  ⟨some 28, .ext (.t 23) 1, none, [], true, []⟩,
  ⟨none, .store 9 (.t 1) (.t 27), none, [], true, []⟩]) (.seq (.reg false [
  ⟨some 30, .load 9 true (.t 1), none, [], true, []⟩,
  ⟨some 31, .build [.v (.int .i64 0), .v (.string ⟨#[]⟩), .v (.string ⟨#[]⟩), .v (.string ⟨#[]⟩), .v (.int .i64 0), .v (.int .i64 0), .v (.int .i64 0), .v (.int .i64 0), .v (.bool false), .sl .full 6 [], .sl .full 1 []] [(0, 1, .c (.one (.v (.int .i64 19))))], none, [], true, []⟩,
  ⟨some 32, .call 10 [.t 30, .t 31], none, [], true, []⟩,
  ⟨some 29, .mv (.t 32), none, [], true, []⟩,
  ⟨some 33, .ext (.t 29) 0, none, [], true, []⟩,
  ⟨some 34, .ext (.t 29) 1, none, [], true, []⟩,
  ⟨some 5, .alloc 29 [.sl .full 11 [], .v (.bool false), .sl .full 11 []], none, [], true, []⟩,
  ⟨none, .store 9 (.t 1) (.t 33), none, [], true, []⟩,
  ⟨none, .store 3 (.t 5) (.t 34), none, [], true, []⟩]) (.seq (.reg false [
  ⟨some 36, .call 21 [.c (.one (.v (.string ⟨#[]⟩))), .c (.one (.v (.string ⟨#[112]⟩))), .c (.one (.v (.int .i64 0))), .c (.one (.v (.int .i64 0))), .c (.one (.v (.int .i64 0)))], none, [], true, []⟩,
  ⟨some 35, .mv (.t 36), none, [], true, []⟩,
  ⟨some 37, .ext (.t 35) 0, none, [], true, []⟩,
  ⟨some 38, .ext (.t 35) 1, none, [], true, []⟩,
  ⟨some 39, .ext (.t 35) 2, none, [], true, []⟩,
  ⟨some 6, .alloc 26 [.v (.int .i64 0), .v (.string ⟨#[]⟩), .v (.string ⟨#[]⟩), .v (.int .i64 0), .v (.int .i64 0), .v (.int .i64 0), .v (.int .i64 0), .v (.int .i64 0), .v (.int .i64 0)], none, [], true, []⟩,
  ⟨some 7, .alloc 29 [.sl .full 11 [], .v (.bool false), .sl .full 11 []], none, [], true, []⟩,
  ⟨none, .store 9 (.t 6) (.t 37), none, [], true, []⟩,
  ⟨none, .store 3 (.t 7) (.t 38), none, [], true, []⟩,
  ⟨some 8, .mv (.t 39), none, [], true, []⟩]) (.seq (.reg false [
  ⟨some 40, .mv (.t 3), none, [], true, []⟩,
  ⟨some 41, .call 23 [.t 40], none, [], true, []⟩,
  ⟨some 42, .bin .eql (.t 41) (.c (.one (.v (.int .i64 0)))), none, [], true, []⟩,
  ⟨some 43, .mv (.t 42), none, [], true, []⟩,
  ⟨some 44, .fad 0 (.t 2), some (43, true), [], true, []⟩,
  ⟨some 45, .load 1 false (.t 44), some (43, true), [], true, []⟩,
  ⟨some 46, .len false (.t 45), some (43, true), [], true, []⟩,
  ⟨some 47, .bin .eql (.t 46) (.c (.one (.v (.int .i64 2)))), some (43, true), [], true, []⟩,
  ⟨some 48, .pick (.t 43) (.t 47) (.c (.one (.v (.bool false)))), none, [], true, []⟩,
  ⟨some 49, .mv (.t 48), none, [], true, []⟩,
  ⟨some 50, .fad 1 (.t 2), some (49, true), [], true, []⟩,
  ⟨some 51, .load 1 false (.t 50), some (49, true), [], true, []⟩,
  ⟨some 52, .pick (.t 49) (.t 51) (.c (.one (.v (.bool false)))), none, [], true, []⟩,
  ⟨some 53, .mv (.t 52), none, [], true, []⟩,
  ⟨some 54, .fad 1 (.t 4), some (53, true), [], true, []⟩,
  ⟨some 55, .load 1 false (.t 54), some (53, true), [], true, []⟩,
  ⟨some 56, .pick (.t 53) (.t 55) (.c (.one (.v (.bool false)))), none, [], true, []⟩,
  ⟨some 57, .mv (.t 56), none, [], true, []⟩,
  ⟨some 58, .fad 0 (.t 4), some (57, true), [], true, []⟩,
  ⟨some 59, .load 1 false (.t 58), some (57, true), [], true, []⟩,
  ⟨some 60, .len false (.t 59), some (57, true), [], true, []⟩,
  ⟨some 61, .bin .eql (.t 60) (.c (.one (.v (.int .i64 1)))), some (57, true), [], true, []⟩,
  ⟨some 62, .pick (.t 57) (.t 61) (.c (.one (.v (.bool false)))), none, [], true, []⟩,
  ⟨some 63, .mv (.t 62), none, [], true, []⟩,
  ⟨some 64, .fad 0 (.t 1), some (63, true), [], true, []⟩,
  ⟨some 65, .load 1 false (.t 64), some (63, true), [], true, []⟩,
  ⟨some 66, .bin .eql (.t 65) (.c (.one (.v (.int .i64 5)))), some (63, true), [], true, []⟩,
  ⟨some 67, .pick (.t 63) (.t 66) (.c (.one (.v (.bool false)))), none, [], true, []⟩,
  ⟨some 68, .mv (.t 67), none, [], true, []⟩,
  ⟨some 69, .fad 2 (.t 5), some (68, true), [], true, []⟩,
  ⟨some 70, .load 1 false (.t 69), some (68, true), [], true, []⟩,
  ⟨some 71, .len false (.t 70), some (68, true), [], true, []⟩,
  ⟨some 72, .bin .eql (.t 71) (.c (.one (.v (.int .i64 1)))), some (68, true), [], true, []⟩,
  ⟨some 73, .pick (.t 68) (.t 72) (.c (.one (.v (.bool false)))), none, [], true, []⟩,
  ⟨some 74, .mv (.t 73), none, [], true, []⟩,
  ⟨some 75, .fad 0 (.t 5), some (74, true), [], true, []⟩,
  ⟨some 76, .load 1 false (.t 75), some (74, true), [], true, []⟩,
  ⟨some 77, .len false (.t 76), some (74, true), [], true, []⟩,
  ⟨some 78, .bin .eql (.t 77) (.c (.one (.v (.int .i64 2)))), some (74, true), [], true, []⟩,
  ⟨some 79, .pick (.t 74) (.t 78) (.c (.one (.v (.bool false)))), none, [], true, []⟩,
  ⟨some 80, .mv (.t 79), none, [], true, []⟩,
  ⟨some 81, .mv (.t 8), some (80, true), [], true, []⟩,
  ⟨some 82, .call 23 [.t 81], some (80, true), [], true, []⟩,
  ⟨some 83, .bin .eql (.t 82) (.c (.one (.v (.int .i64 2)))), some (80, true), [], true, []⟩,
  ⟨some 84, .pick (.t 80) (.t 83) (.c (.one (.v (.bool false)))), none, [], true, []⟩,
  ⟨some 85, .mv (.t 84), none, [], true, []⟩,
  ⟨some 86, .call 17 [.c (.one (.v (.int .i64 5)))], some (85, true), [], true, []⟩,
  ⟨some 87, .pick (.t 85) (.t 86) (.c (.one (.v (.bool false)))), none, [], true, []⟩,
  ⟨some 88, .mv (.t 87), none, [], true, []⟩,
  ⟨some 89, .call 17 [.c (.one (.v (.int .i64 24)))], some (88, true), [], true, []⟩,
  ⟨some 90, .un .not (.t 89), some (88, true), [], true, []⟩,
  ⟨some 91, .pick (.t 88) (.t 90) (.c (.one (.v (.bool false)))), none, [], true, []⟩,
  ⟨some 0, .mv (.t 91), none, [], true, []⟩]) (.ret)))))))), res := [.t 0] }
theorem F8_ok : mtF Tryd.prog 8 F8 = true := by kernel_rfl
/- wharf/wharflaw15.begin -/
def F9 : Fun := { n := 27, code := .seq (.reg false [
  ⟨some 1, .box 23 (.t 0), none, [], true, []⟩,
  ⟨some 2, .alloc 26 [.v (.int .i64 0), .v (.string ⟨#[]⟩), .v (.string ⟨#[]⟩), .v (.int .i64 0), .v (.int .i64 0), .v (.int .i64 0), .v (.int .i64 0), .v (.int .i64 0), .v (.int .i64 0)], none, [], true, []⟩,
  ⟨some 3, .alloc 29 [.sl .full 11 [], .v (.bool false), .sl .full 11 []], none, [], true, []⟩,
  ⟨some 4, .mv (.c (.one (.v (.int .i64 0)))), none, [], true, []⟩]) (.seq (.reg false [
  ⟨some 9, .fad 0 (.t 1), none, [], true, []⟩,
  ⟨some 10, .load 1 false (.t 9), none, [], true, []⟩,
  ⟨some 11, .fad 1 (.t 1), none, [], true, []⟩,
  ⟨some 12, .load 1 false (.t 11), none, [], true, []⟩,
  ⟨some 13, .fad 2 (.t 1), none, [], true, []⟩,
  ⟨some 14, .load 1 false (.t 13), none, [], true, []⟩,
  ⟨some 15, .fad 3 (.t 1), none, [], true, []⟩,
  ⟨some 16, .load 1 false (.t 15), none, [], true, []⟩,
  ⟨some 17, .fad 4 (.t 1), none, [], true, []⟩,
  ⟨some 18, .load 1 false (.t 17), none, [], true, []⟩,
  ⟨some 19, .call 21 [.t 10, .t 12, .t 14, .t 16, .t 18], none, [], true, []⟩,
  ⟨some 8, .mv (.t 19), none, [], true, []⟩,
  ⟨some 20, .ext (.t 8) 0, none, [], true, []⟩,
  ⟨some 21, .ext (.t 8) 1, none, [], true, []⟩,
  ⟨some 22, .ext (.t 8) 2, none, [], true, []⟩,
  ⟨some 5, .alloc 26 [.v (.int .i64 0), .v (.string ⟨#[]⟩), .v (.string ⟨#[]⟩), .v (.int .i64 0), .v (.int .i64 0), .v (.int .i64 0), .v (.int .i64 0), .v (.int .i64 0), .v (.int .i64 0)], none, [], true, []⟩,
  ⟨some 6, .alloc 29 [.sl .full 11 [], .v (.bool false), .sl .full 11 []], none, [], true, []⟩,
  ⟨none, .store 9 (.t 5) (.t 20), none, [], true, []⟩,
  ⟨none, .store 3 (.t 6) (.t 21), none, [], true, []⟩,
  ⟨some 7, .mv (.t 22), none, [], true, []⟩]) (.seq (.reg true [
  ⟨some 23, .load 9 true (.t 5), none, [], false, []⟩,
  ⟨some 24, .load 3 true (.t 6), none, [], false, []⟩,
  ⟨some 25, .mv (.t 7), none, [], false, []⟩,
  ⟨some 26, .call 23 [.t 25], none, [2], false, []⟩,
  ⟨none, .store 9 (.t 2) (.t 23), none, [0, 3, 0], false, [1]⟩,
  ⟨none, .store 3 (.t 3) (.t 24), none, [1, 4, 0, 1, 4], true, []⟩,
  ⟨some 4, .mv (.t 26), none, [3, 5, 0, 1, 2, 3, 4, 5], false, []⟩]) (.ret))), res := [.c 2 9 true, .c 3 3 true, .t 4] }
theorem F9_ok : mtF Tryd.prog 9 F9 = true := by kernel_rfl
/- wharf/session.Take -/
def F10 : Fun := { n := 139, code := .seq (.reg false [
  ⟨some 2, .box 26 (.t 0), none, [], true, []⟩,
  ⟨some 3, .box 37 (.t 1), none, [], true, []⟩,
  ⟨some 4, .alloc 26 [.v (.int .i64 0), .v (.string ⟨#[]⟩), .v (.string ⟨#[]⟩), .v (.int .i64 0), .v (.int .i64 0), .v (.int .i64 0), .v (.int .i64 0), .v (.int .i64 0), .v (.int .i64 0)], none, [], true, []⟩,
  ⟨some 5, .alloc 29 [.sl .full 11 [], .v (.bool false), .sl .full 11 []], none, [], true, []⟩]) (.seq (.seq (.reg false [
  ⟨some 11, .load 9 true (.t 2), none, [], true, []⟩,
  ⟨some 12, .call 24 [.t 11], none, [], true, []⟩,
  ⟨some 13, .un .not (.t 12), none, [], true, []⟩]) (.cond (.t 13) (.seq (.reg false [
  ⟨some 14, .load 9 true (.t 2), none, [], true, []⟩,
  ⟨some 15, .build [.sl .full 11 [], .v (.bool false), .sl .full 11 []] [], none, [], true, []⟩,
  ⟨none, .store 9 (.t 4) (.t 14), none, [], true, []⟩,
  ⟨none, .store 3 (.t 5) (.t 15), none, [], true, []⟩]) (.ret)) (.skip))) (.seq (.reg false [
  ⟨some 16, .fad 6 (.t 2), none, [], true, []⟩,
  ⟨none, .store 1 (.t 16) (.c (.one (.v (.int .i64 0)))), none, [], true, []⟩]) (.seq (.seq (.reg false [
  ⟨some 17, .fad 0 (.t 3), none, [], true, []⟩,
  ⟨some 18, .load 1 false (.t 17), none, [], true, []⟩,
  ⟨some 19, .bin .eql (.t 18) (.c (.one (.v (.int .i64 3)))), none, [], true, []⟩]) (.cond (.t 19) (.seq (.reg true [
  ⟨some 20, .load 9 true (.t 2), none, [], false, []⟩,
  ⟨some 21, .fad 4 (.t 3), none, [], false, []⟩,
  ⟨some 22, .load 1 false (.t 21), none, [1], false, []⟩,
  ⟨some 23, .call 25 [.t 20, .t 22], none, [0, 2], false, []⟩,
  ⟨some 24, .load 11 true (.t 3), none, [], false, []⟩,
  ⟨some 25, .bsl 37 11 [.t 24], none, [4], false, []⟩,
  ⟨some 26, .build [.sl .full 11 [], .v (.bool false), .sl .full 11 []] [(2, 1, .t 25)], none, [5], false, []⟩,
  ⟨none, .store 9 (.t 4) (.t 23), none, [3, 3, 0, 1, 2, 3], false, [4]⟩,
  ⟨none, .store 3 (.t 5) (.t 26), none, [6, 7, 0, 1, 2, 3, 4, 5, 6, 7], true, []⟩]) (.ret)) (.skip))) (.seq (.reg false [
  ⟨some 27, .fad 0 (.t 2), none, [], true, []⟩,
  ⟨some 28, .load 1 false (.t 27), none, [], true, []⟩,
  ⟨some 29, .fad 0 (.t 3), none, [], true, []⟩,
  ⟨some 30, .load 1 false (.t 29), none, [], true, []⟩,
  ⟨some 31, .build [.v (.int .i64 0), .v (.int .i64 0)] [(0, 1, .t 28), (1, 1, .t 30)], none, [], true, []⟩,
  ⟨some 6, .alloc 62 [.v (.int .i64 0), .v (.int .i64 0)], none, [], true, []⟩,
  ⟨none, .store 2 (.t 6) (.t 31), none, [], true, []⟩]) (.seq (.block 0 (.seq (.reg false [
  ⟨some 33, .load 2 true (.t 6), none, [], true, []⟩,
  ⟨some 34, .build [.v (.int .i64 0), .v (.int .i64 0)] [(0, 1, .c (.one (.v (.int .i64 1)))), (1, 1, .c (.one (.v (.int .i64 6))))], none, [], true, []⟩,
  ⟨some 35, .eqs false [1, 1] (.t 33) (.t 34), none, [], true, []⟩,
  ⟨some 32, .mv (.t 35), none, [], true, []⟩]) (.cond (.t 32) (.seq (.reg true [
  ⟨some 36, .load 9 true (.t 2), none, [], false, []⟩,
  ⟨some 37, .fad 1 (.t 2), none, [], false, []⟩,
  ⟨some 38, .load 1 false (.t 37), none, [1], false, []⟩,
  ⟨some 39, .fad 3 (.t 3), none, [], false, []⟩,
  ⟨some 40, .load 1 false (.t 39), none, [3], false, []⟩,
  ⟨some 41, .fad 2 (.t 2), none, [], false, []⟩,
  ⟨some 42, .load 1 false (.t 41), none, [5], false, []⟩,
  ⟨some 43, .call 27 [.t 40, .t 42, .c (.one (.v (.string ⟨#[65, 79, 76, 32, 73, 110, 115, 116, 97, 110, 116, 32, 77, 101, 115, 115, 101, 110, 103, 101, 114, 32, 40, 83, 77, 41]⟩)))], none, [4, 6], false, []⟩,
  ⟨some 44, .build [.v (.int .i64 0), .v (.string ⟨#[]⟩), .v (.string ⟨#[]⟩), .v (.string ⟨#[]⟩), .v (.int .i64 0), .v (.int .i64 0), .v (.int .i64 0), .v (.int .i64 0), .v (.bool false), .sl .full 6 [], .sl .full 1 []] [(0, 1, .c (.one (.v (.int .i64 7)))), (1, 1, .t 38), (3, 1, .t 43)], none, [2, 7], false, []⟩,
  ⟨some 45, .bsl 37 11 [.t 44], none, [8], false, []⟩,
  ⟨some 46, .call 26 [.t 36, .c (.one (.v (.int .i64 2))), .t 45], none, [0, 9, 7], false, []⟩,
  ⟨some 47, .ext (.t 46) 0, none, [10], false, []⟩,
  ⟨some 48, .ext (.t 46) 1, none, [10], false, []⟩,
  ⟨none, .store 9 (.t 4) (.t 47), none, [11, 10, 0, 1, 2, 3, 4, 5, 6, 7, 8, 9, 10, 11, 12], true, []⟩,
  ⟨none, .store 3 (.t 5) (.t 48), none, [12, 13, 0, 1, 2, 3, 4, 5, 6, 7, 8, 9, 10, 11, 12, 13], true, []⟩]) (.ret)) (.seq (.reg false [
  ⟨some 50, .load 2 true (.t 6), none, [], true, []⟩,
  ⟨some 51, .build [.v (.int .i64 0), .v (.int .i64 0)] [(0, 1, .c (.one (.v (.int .i64 2)))), (1, 1, .c (.one (.v (.int .i64 8))))], none, [], true, []⟩,
  ⟨some 52, .eqs false [1, 1] (.t 50) (.t 51), none, [], true, []⟩,
  ⟨some 49, .mv (.t 52), none, [], true, []⟩]) (.cond (.t 49) (.seq (.seq (.reg false [
  ⟨some 53, .fad 1 (.t 3), none, [], true, []⟩,
  ⟨some 54, .load 1 false (.t 53), none, [], true, []⟩,
  ⟨some 55, .fad 1 (.t 2), none, [], true, []⟩,
  ⟨some 56, .load 1 false (.t 55), none, [], true, []⟩,
  ⟨some 57, .call 28 [.t 54, .t 56], none, [], true, []⟩,
  ⟨some 58, .un .not (.t 57), none, [], true, []⟩]) (.cond (.t 58) (.exit 0) (.skip))) (.seq (.seq (.reg false [
  ⟨some 59, .fad 4 (.t 3), none, [], true, []⟩,
  ⟨some 60, .load 1 false (.t 59), none, [], true, []⟩,
  ⟨some 61, .bin .neq (.t 60) (.c (.one (.v (.int .i64 0)))), none, [], true, []⟩]) (.cond (.t 61) (.seq (.reg true [
  ⟨some 62, .load 9 true (.t 2), none, [], false, []⟩,
  ⟨some 63, .fad 4 (.t 3), none, [], false, []⟩,
  ⟨some 64, .load 1 false (.t 63), none, [1], false, []⟩,
  ⟨some 65, .call 25 [.t 62, .t 64], none, [0, 2], false, []⟩,
  ⟨some 66, .fad 4 (.t 3), none, [], false, []⟩,
  ⟨some 67, .load 1 false (.t 66), none, [4], false, []⟩,
  ⟨some 68, .build [.v (.int .i64 0), .v (.string ⟨#[]⟩), .v (.string ⟨#[]⟩), .v (.string ⟨#[]⟩), .v (.int .i64 0), .v (.int .i64 0), .v (.int .i64 0), .v (.int .i64 0), .v (.bool false), .sl .full 6 [], .sl .full 1 []] [(0, 1, .c (.one (.v (.int .i64 3)))), (4, 1, .t 67)], none, [5], false, []⟩,
  ⟨some 69, .bsl 37 11 [.t 68], none, [6], false, []⟩,
  ⟨some 70, .build [.sl .full 11 [], .v (.bool false), .sl .full 11 []] [(2, 1, .t 69)], none, [7], false, []⟩,
  ⟨none, .store 9 (.t 4) (.t 65), none, [3, 3, 0, 1, 2, 3], false, [5]⟩,
  ⟨none, .store 3 (.t 5) (.t 70), none, [8, 9, 0, 1, 2, 3, 4, 5, 6, 7, 8, 9], true, []⟩]) (.ret)) (.skip))) (.seq (.reg false [
  ⟨some 72, .load 9 true (.t 2), none, [], true, []⟩,
  ⟨some 73, .fad 3 (.t 3), none, [], true, []⟩,
  ⟨some 74, .load 1 false (.t 73), none, [], true, []⟩,
  ⟨some 75, .build [.v (.int .i64 0), .v (.string ⟨#[]⟩), .v (.string ⟨#[]⟩), .v (.string ⟨#[]⟩), .v (.int .i64 0), .v (.int .i64 0), .v (.int .i64 0), .v (.int .i64 0), .v (.bool false), .sl .full 6 [], .sl .full 1 []] [(0, 1, .c (.one (.v (.int .i64 2)))), (3, 1, .t 74)], none, [], true, []⟩,
  ⟨some 76, .bsl 37 11 [.t 75], none, [], true, []⟩,
  ⟨some 77, .call 26 [.t 72, .c (.one (.v (.int .i64 3))), .t 76], none, [], true, []⟩,
  ⟨some 71, .mv (.t 77), none, [], true, []⟩,
  ⟨some 78, .ext (.t 71) 0, none, [], true, []⟩,
  ⟨some 79, .ext (.t 71) 1, none, [], true, []⟩,
  ⟨some 7, .alloc 26 [.v (.int .i64 0), .v (.string ⟨#[]⟩), .v (.string ⟨#[]⟩), .v (.int .i64 0), .v (.int .i64 0), .v (.int .i64 0), .v (.int .i64 0), .v (.int .i64 0), .v (.int .i64 0)], none, [], true, []⟩,
  ⟨some 8, .alloc 29 [.sl .full 11 [], .v (.bool false), .sl .full 11 []], none, [], true, []⟩,
  ⟨none, .store 9 (.t 7) (.t 78), none, [], true, []⟩,
  ⟨none, .store 3 (.t 8) (.t 79), none, [], true, []⟩]) (.seq (.reg false [
  ⟨some 80, .fad 1 (.t 8), none, [], true, []⟩,
  ⟨none, .store 1 (.t 80) (.c (.one (.v (.bool true)))), none, [], true, []⟩]) (.seq (.reg true [
  ⟨some 81, .load 9 true (.t 7), none, [], false, []⟩,
  ⟨some 82, .load 3 true (.t 8), none, [], false, []⟩,
  ⟨none, .store 9 (.t 4) (.t 81), none, [0, 0], false, [1]⟩,
  ⟨none, .store 3 (.t 5) (.t 82), none, [1, 2, 0, 1, 2], true, []⟩]) (.ret)))))) (.seq (.reg false [
  ⟨some 84, .load 2 true (.t 6), none, [], true, []⟩,
  ⟨some 85, .build [.v (.int .i64 0), .v (.int .i64 0)] [(0, 1, .c (.one (.v (.int .i64 3)))), (1, 1, .c (.one (.v (.int .i64 9))))], none, [], true, []⟩,
  ⟨some 86, .eqs false [1, 1] (.t 84) (.t 85), none, [], true, []⟩,
  ⟨some 83, .mv (.t 86), none, [], true, []⟩]) (.cond (.t 83) (.seq (.reg false [
  ⟨some 87, .load 9 true (.t 2), none, [], true, []⟩,
  ⟨some 88, .fad 4 (.t 2), none, [], true, []⟩,
  ⟨some 89, .load 1 false (.t 88), none, [], true, []⟩,
  ⟨some 90, .fad 5 (.t 2), none, [], true, []⟩,
  ⟨some 91, .load 1 false (.t 90), none, [], true, []⟩,
  ⟨some 92, .build [.v (.int .i64 0), .v (.string ⟨#[]⟩), .v (.string ⟨#[]⟩), .v (.string ⟨#[]⟩), .v (.int .i64 0), .v (.int .i64 0), .v (.int .i64 0), .v (.int .i64 0), .v (.bool false), .sl .full 6 [], .sl .full 1 []] [(0, 1, .c (.one (.v (.int .i64 17)))), (7, 1, .t 89), (4, 1, .t 91)], none, [], true, []⟩,
  ⟨some 93, .bsl 37 11 [.t 92], none, [], true, []⟩,
  ⟨some 94, .call 26 [.t 87, .c (.one (.v (.int .i64 4))), .t 93], none, [], true, []⟩,
  ⟨some 95, .ext (.t 94) 0, none, [], true, []⟩,
  ⟨some 96, .ext (.t 94) 1, none, [], true, []⟩,
  ⟨none, .store 9 (.t 4) (.t 95), none, [], true, []⟩,
  ⟨none, .store 3 (.t 5) (.t 96), none, [], true, []⟩]) (.ret)) (.seq (.seq (.reg false [
  ⟨some 98, .load 2 true (.t 6), none, [], true, []⟩,
  ⟨some 99, .build [.v (.int .i64 0), .v (.int .i64 0)] [(0, 1, .c (.one (.v (.int .i64 4)))), (1, 1, .c (.one (.v (.int .i64 18))))], none, [], true, []⟩,
  ⟨some 100, .eqs false [1, 1] (.t 98) (.t 99), none, [], true, []⟩,
  ⟨some 97, .mv (.t 100), none, [], true, []⟩]) (.cond (.t 97) (.skip) (.reg false [
  ⟨some 101, .load 2 true (.t 6), none, [], true, []⟩,
  ⟨some 102, .build [.v (.int .i64 0), .v (.int .i64 0)] [(0, 1, .c (.one (.v (.int .i64 4)))), (1, 1, .c (.one (.v (.int .i64 19))))], none, [], true, []⟩,
  ⟨some 103, .eqs false [1, 1] (.t 101) (.t 102), none, [], true, []⟩,
  ⟨some 97, .mv (.t 103), none, [], true, []⟩]))) (.cond (.t 97) (.seq (.reg false [
  ⟨some 105, .load 9 true (.t 2), none, [], true, []⟩,
  ⟨some 106, .build [.v (.int .i64 0), .v (.string ⟨#[]⟩), .v (.string ⟨#[]⟩), .v (.string ⟨#[]⟩), .v (.int .i64 0), .v (.int .i64 0), .v (.int .i64 0), .v (.int .i64 0), .v (.bool false), .sl .full 6 [], .sl .full 1 []] [(0, 1, .c (.one (.v (.int .i64 10))))], none, [], true, []⟩,
  ⟨some 107, .fad 3 (.t 2), none, [], true, []⟩,
  ⟨some 108, .load 1 false (.t 107), none, [], true, []⟩,
  ⟨some 109, .build [.v (.int .i64 0), .v (.string ⟨#[]⟩), .v (.string ⟨#[]⟩), .v (.string ⟨#[]⟩), .v (.int .i64 0), .v (.int .i64 0), .v (.int .i64 0), .v (.int .i64 0), .v (.bool false), .sl .full 6 [], .sl .full 1 []] [(0, 1, .c (.one (.v (.int .i64 11)))), (5, 1, .t 108)], none, [], true, []⟩,
  ⟨some 110, .bsl 37 11 [.t 106, .t 109], none, [], true, []⟩,
  ⟨some 111, .call 26 [.t 105, .c (.one (.v (.int .i64 5))), .t 110], none, [], true, []⟩,
  ⟨some 104, .mv (.t 111), none, [], true, []⟩,
  ⟨some 112, .ext (.t 104) 0, none, [], true, []⟩,
  ⟨some 113, .ext (.t 104) 1, none, [], true, []⟩,
  ⟨some 9, .alloc 26 [.v (.int .i64 0), .v (.string ⟨#[]⟩), .v (.string ⟨#[]⟩), .v (.int .i64 0), .v (.int .i64 0), .v (.int .i64 0), .v (.int .i64 0), .v (.int .i64 0), .v (.int .i64 0)], none, [], true, []⟩,
  ⟨some 10, .alloc 29 [.sl .full 11 [], .v (.bool false), .sl .full 11 []], none, [], true, []⟩,
  ⟨none, .store 9 (.t 9) (.t 112), none, [], true, []⟩,
  ⟨none, .store 3 (.t 10) (.t 113), none, [], true, []⟩]) (.seq (.reg false [
  ⟨some 114, .load 11 true (.t 3), none, [], true, []⟩,
  ⟨some 115, .bsl 37 11 [.t 114], none, [], true, []⟩,
  ⟨some 116, .fad 2 (.t 10), none, [], true, []⟩,
  ⟨none, .store 1 (.t 116) (.t 115), none, [], true, []⟩]) (.seq (.reg true [
  ⟨some 117, .load 9 true (.t 9), none, [], false, []⟩,
  ⟨some 118, .load 3 true (.t 10), none, [], false, []⟩,
  ⟨none, .store 9 (.t 4) (.t 117), none, [0, 0], false, [1]⟩,
  ⟨none, .store 3 (.t 5) (.t 118), none, [1, 2, 0, 1, 2], true, []⟩]) (.ret)))) (.skip)))))))))) (.seq (.seq (.reg false [
  ⟨some 119, .fad 0 (.t 2), none, [], true, []⟩,
  ⟨some 120, .load 1 false (.t 119), none, [], true, []⟩,
  ⟨some 121, .bin .eql (.t 120) (.c (.one (.v (.int .i64 5)))), none, [], true, []⟩]) (.cond (.t 121) (.seq (.reg false [
  ⟨some 122, .fad 0 (.t 3), none, [], true, []⟩,
  ⟨some 123, .load 1 false (.t 122), none, [], true, []⟩]) (.block 1 (.seq (.seq (.reg false [
  ⟨some 125, .bin .eql (.t 123) (.c (.one (.v (.int .i64 13)))), none, [], true, []⟩,
  ⟨some 124, .mv (.t 125), none, [], true, []⟩]) (.cond (.t 124) (.skip) (.seq (.reg false [
  ⟨some 126, .bin .eql (.t 123) (.c (.one (.v (.int .i64 14)))), none, [], true, []⟩,
  ⟨some 124, .mv (.t 126), none, [], true, []⟩]) (.cond (.t 124) (.skip) (.seq (.reg false [
  ⟨some 127, .bin .eql (.t 123) (.c (.one (.v (.int .i64 16)))), none, [], true, []⟩,
  ⟨some 124, .mv (.t 127), none, [], true, []⟩]) (.cond (.t 124) (.skip) (.seq (.reg false [
  ⟨some 128, .bin .eql (.t 123) (.c (.one (.v (.int .i64 18)))), none, [], true, []⟩,
  ⟨some 124, .mv (.t 128), none, [], true, []⟩]) (.cond (.t 124) (.skip) (.seq (.reg false [
  ⟨some 129, .bin .eql (.t 123) (.c (.one (.v (.int .i64 19)))), none, [], true, []⟩,
  ⟨some 124, .mv (.t 129), none, [], true, []⟩]) (.cond (.t 124) (.skip) (.seq (.reg false [
  ⟨some 130, .bin .eql (.t 123) (.c (.one (.v (.int .i64 25)))), none, [], true, []⟩,
  ⟨some 124, .mv (.t 130), none, [], true, []⟩]) (.cond (.t 124) (.skip) (.seq (.reg false [
  ⟨some 131, .bin .eql (.t 123) (.c (.one (.v (.int .i64 27)))), none, [], true, []⟩,
  ⟨some 124, .mv (.t 131), none, [], true, []⟩]) (.cond (.t 124) (.skip) (.reg false [
  ⟨some 132, .bin .eql (.t 123) (.c (.one (.v (.int .i64 29)))), none, [], true, []⟩,
  ⟨some 124, .mv (.t 132), none, [], true, []⟩]))))))))))))))) (.cond (.t 124) (.seq (.reg true [
  ⟨some 133, .load 9 true (.t 2), none, [], false, []⟩,
  ⟨some 134, .load 11 true (.t 3), none, [], false, []⟩,
  ⟨some 135, .bsl 37 11 [.t 134], none, [1], false, []⟩,
  ⟨some 136, .build [.sl .full 11 [], .v (.bool false), .sl .full 11 []] [(2, 1, .t 135)], none, [2], false, []⟩,
  ⟨none, .store 9 (.t 4) (.t 133), none, [0, 0], false, [1]⟩,
  ⟨none, .store 3 (.t 5) (.t 136), none, [3, 4, 0, 1, 2, 3, 4], true, []⟩]) (.ret)) (.skip))))) (.skip))) (.seq (.reg false [
  ⟨some 137, .load 9 true (.t 2), none, [], true, []⟩,
  ⟨some 138, .build [.sl .full 11 [], .v (.bool false), .sl .full 11 []] [], none, [], true, []⟩,
  ⟨none, .store 9 (.t 4) (.t 137), none, [], true, []⟩,
  ⟨none, .store 3 (.t 5) (.t 138), none, [], true, []⟩]) (.ret)))))))), res := [.c 4 9 true, .c 5 3 true] }
theorem F10_ok : mtF Tryd.prog 10 F10 = true := by kernel_rfl
/- wharf/wharfref15.Salted -/
def F11 : Fun := { n := 11, code := .seq (.reg false [
  ⟨some 4, .mv (.c (.one (.v (.string ⟨#[]⟩)))), none, [], true, []⟩]) (.seq (.reg false [
  ⟨some 5, .mv (.t 0), none, [], true, []⟩,
  ⟨some 6, .mv (.t 1), none, [], true, []⟩,
  ⟨some 7, .call 29 [.t 6], none, [], true, []⟩,
  ⟨some 8, .bin .add (.t 5) (.t 7), none, [], true, []⟩,
  ⟨some 9, .bin .add (.t 8) (.c (.one (.v (.string ⟨#[65, 79, 76, 32, 73, 110, 115, 116, 97, 110, 116, 32, 77, 101, 115, 115, 101, 110, 103, 101, 114, 32, 40, 83, 77, 41]⟩)))), none, [], true, []⟩,
  ⟨some 10, .call 29 [.t 9], none, [], true, []⟩,
  ⟨some 4, .mv (.t 10), none, [], true, []⟩]) (.ret)), res := [.t 4] }
theorem F11_ok : mtF Tryd.prog 11 F11 = true := by kernel_rfl
/- wharf/wharfref14.Weight -/
def F12 : Fun := { n := 53, code := .seq (.reg false [
  ⟨some 2, .box 37 (.t 0), none, [], true, []⟩,
  ⟨some 4, .mv (.c (.one (.v (.int .i64 0)))), none, [], true, []⟩]) (.seq (.reg false [
  ⟨some 7, .fad 1 (.t 2), none, [], true, []⟩,
  ⟨some 8, .load 1 false (.t 7), none, [], true, []⟩,
  ⟨some 9, .len true (.t 8), none, [], true, []⟩,
  ⟨some 10, .fad 2 (.t 2), none, [], true, []⟩,
  ⟨some 11, .load 1 false (.t 10), none, [], true, []⟩,
  ⟨some 12, .len true (.t 11), none, [], true, []⟩,
  ⟨some 13, .bin .add (.t 9) (.t 12), none, [], true, []⟩,
  ⟨some 14, .fad 3 (.t 2), none, [], true, []⟩,
  ⟨some 15, .load 1 false (.t 14), none, [], true, []⟩,
  ⟨some 16, .len true (.t 15), none, [], true, []⟩,
  ⟨some 17, .bin .add (.t 13) (.t 16), none, [], true, []⟩,
  ⟨some 18, .fad 10 (.t 2), none, [], true, []⟩,
  ⟨some 19, .load 1 false (.t 18), none, [], true, []⟩,
  ⟨some 20, .len false (.t 19), none, [], true, []⟩,
  ⟨some 21, .bin .add (.t 17) (.t 20), none, [], true, []⟩,
  ⟨some 5, .mv (.t 21), none, [], true, []⟩]) (.seq (.seq (.reg false [
  ⟨some 6, .mv (.c (.one (.v (.int .i64 0)))), none, [], true, []⟩]) (.block 0 (.loop (.seq (.seq (.reg false [
  ⟨some 22, .mv (.t 6), none, [], true, []⟩,
  ⟨some 23, .fad 9 (.t 2), none, [], true, []⟩,
  ⟨some 24, .load 1 false (.t 23), none, [], true, []⟩,
  ⟨some 25, .len false (.t 24), none, [], true, []⟩,
  ⟨some 26, .bin .lss (.t 22) (.t 25), none, [], true, []⟩,
  ⟨some 27, .mv (.t 26), none, [], true, []⟩,
  ⟨some 28, .mv (.t 5), some (27, true), [], true, []⟩,
  ⟨some 29, .mv (.t 1), some (27, true), [], true, []⟩,
  ⟨some 30, .bin .leq (.t 28) (.t 29), some (27, true), [], true, []⟩,
  ⟨some 31, .pick (.t 27) (.t 30) (.c (.one (.v (.bool false)))), none, [], true, []⟩]) (.cond (.t 31) (.skip) (.exit 0))) (.seq (.block 1 (.reg true [
  ⟨some 34, .mv (.t 5), none, [], false, []⟩,
  ⟨some 35, .bin .add (.t 34) (.c (.one (.v (.int .i64 1)))), none, [0], false, []⟩,
  ⟨some 36, .fad 9 (.t 2), none, [], false, []⟩,
  ⟨some 37, .load 1 false (.t 36), none, [2], false, []⟩,
  ⟨some 38, .mv (.t 6), none, [], false, []⟩,
  ⟨some 39, .iad 6 (.t 37) (.t 38), none, [3, 4], false, []⟩,
  ⟨some 40, .fad 0 (.t 39), none, [5], false, []⟩,
  ⟨some 41, .load 1 false (.t 40), none, [6], false, []⟩,
  ⟨some 42, .len true (.t 41), none, [7], false, []⟩,
  ⟨some 43, .bin .add (.t 35) (.t 42), none, [1, 8], false, []⟩,
  ⟨some 44, .fad 9 (.t 2), none, [], false, []⟩,
  ⟨some 45, .load 1 false (.t 44), none, [10], false, []⟩,
  ⟨some 46, .mv (.t 6), none, [], false, []⟩,
  ⟨some 47, .iad 6 (.t 45) (.t 46), none, [11, 12], false, []⟩,
  ⟨some 48, .fad 4 (.t 47), none, [13], false, []⟩,
  ⟨some 49, .load 1 false (.t 48), none, [14], false, []⟩,
  ⟨some 50, .len true (.t 49), none, [15], false, []⟩,
  ⟨some 51, .bin .add (.t 43) (.t 50), none, [9, 16], false, []⟩,
  ⟨some 5, .mv (.t 51), none, [17, 0, 1, 2, 3, 4, 5, 6, 7, 8, 9, 10, 11, 12, 13, 14, 15, 16, 17], false, []⟩])) (.reg false [
  ⟨some 32, .mv (.t 6), none, [], true, []⟩,
  ⟨some 33, .bin .add (.t 32) (.c (.one (.v (.int .i64 1)))), none, [], true, []⟩,
  ⟨some 6, .mv (.t 33), none, [], true, []⟩])))))) (.seq (.reg false [
  ⟨some 52, .mv (.t 5), none, [], true, []⟩,
  ⟨some 4, .mv (.t 52), none, [], true, []⟩]) (.ret)))), res := [.t 4] }
theorem F12_ok : mtF Tryd.prog 12 F12 = true := by kernel_rfl
/- wharf/session.Tick -/
def F13 : Fun := { n := 52, code := .seq (.reg false [
  ⟨some 1, .box 26 (.t 0), none, [], true, []⟩,
  ⟨some 2, .alloc 26 [.v (.int .i64 0), .v (.string ⟨#[]⟩), .v (.string ⟨#[]⟩), .v (.int .i64 0), .v (.int .i64 0), .v (.int .i64 0), .v (.int .i64 0), .v (.int .i64 0), .v (.int .i64 0)], none, [], true, []⟩,
  ⟨some 3, .alloc 29 [.sl .full 11 [], .v (.bool false), .sl .full 11 []], none, [], true, []⟩]) (.seq (.seq (.reg false [
  ⟨some 6, .load 9 true (.t 1), none, [], true, []⟩,
  ⟨some 7, .call 24 [.t 6], none, [], true, []⟩,
  ⟨some 8, .un .not (.t 7), none, [], true, []⟩]) (.cond (.t 8) (.seq (.reg false [
  ⟨some 9, .load 9 true (.t 1), none, [], true, []⟩,
  ⟨some 10, .build [.sl .full 11 [], .v (.bool false), .sl .full 11 []] [], none, [], true, []⟩,
  ⟨none, .store 9 (.t 2) (.t 9), none, [], true, []⟩,
  ⟨none, .store 3 (.t 3) (.t 10), none, [], true, []⟩]) (.ret)) (.skip))) (.seq (.reg false [
  ⟨some 11, .fad 6 (.t 1), none, [], true, []⟩,
  ⟨some 12, .load 1 false (.t 11), none, [], true, []⟩,
  ⟨some 13, .bin .add (.t 12) (.c (.one (.v (.int .i64 1)))), none, [], true, []⟩,
  ⟨some 14, .fad 6 (.t 1), none, [], true, []⟩,
  ⟨none, .store 1 (.t 14) (.t 13), none, [], true, []⟩]) (.seq (.reg false [
  ⟨some 15, .fad 7 (.t 1), none, [], true, []⟩,
  ⟨some 16, .load 1 false (.t 15), none, [], true, []⟩,
  ⟨some 17, .bin .add (.t 16) (.c (.one (.v (.int .i64 1)))), none, [], true, []⟩,
  ⟨some 18, .fad 7 (.t 1), none, [], true, []⟩,
  ⟨none, .store 1 (.t 18) (.t 17), none, [], true, []⟩]) (.seq (.block 0 (.seq (.reg false [
  ⟨some 20, .fad 6 (.t 1), none, [], true, []⟩,
  ⟨some 21, .load 1 false (.t 20), none, [], true, []⟩,
  ⟨some 22, .bin .geq (.t 21) (.c (.one (.v (.int .i64 90)))), none, [], true, []⟩,
  ⟨some 19, .mv (.t 22), none, [], true, []⟩]) (.cond (.t 19) (.seq (.reg false [
  ⟨some 24, .load 9 true (.t 1), none, [], true, []⟩,
  ⟨some 25, .call 30 [.t 24, .c (.one (.v (.int .i64 200)))], none, [], true, []⟩,
  ⟨some 23, .mv (.t 25), none, [], true, []⟩,
  ⟨some 26, .ext (.t 23) 0, none, [], true, []⟩,
  ⟨some 27, .ext (.t 23) 1, none, [], true, []⟩,
  ⟨some 4, .alloc 26 [.v (.int .i64 0), .v (.string ⟨#[]⟩), .v (.string ⟨#[]⟩), .v (.int .i64 0), .v (.int .i64 0), .v (.int .i64 0), .v (.int .i64 0), .v (.int .i64 0), .v (.int .i64 0)], none, [], true, []⟩,
  ⟨some 5, .alloc 29 [.sl .full 11 [], .v (.bool false), .sl .full 11 []], none, [], true, []⟩,
  ⟨none, .store 9 (.t 4) (.t 26), none, [], true, []⟩,
  ⟨none, .store 3 (.t 5) (.t 27), none, [], true, []⟩]) (.seq (.reg false [
  ⟨some 28, .build [.v (.int .i64 0), .v (.string ⟨#[]⟩), .v (.string ⟨#[]⟩), .v (.string ⟨#[]⟩), .v (.int .i64 0), .v (.int .i64 0), .v (.int .i64 0), .v (.int .i64 0), .v (.bool false), .sl .full 6 [], .sl .full 1 []] [(0, 1, .c (.one (.v (.int .i64 3)))), (4, 1, .c (.one (.v (.int .i64 200))))], none, [], true, []⟩,
  ⟨some 29, .bsl 37 11 [.t 28], none, [], true, []⟩,
  ⟨some 30, .fad 2 (.t 5), none, [], true, []⟩,
  ⟨none, .store 1 (.t 30) (.t 29), none, [], true, []⟩]) (.seq (.reg true [
  ⟨some 31, .load 9 true (.t 4), none, [], false, []⟩,
  ⟨some 32, .load 3 true (.t 5), none, [], false, []⟩,
  ⟨none, .store 9 (.t 2) (.t 31), none, [0, 0], false, [1]⟩,
  ⟨none, .store 3 (.t 3) (.t 32), none, [1, 2, 0, 1, 2], true, []⟩]) (.ret)))) (.seq (.reg false [
  ⟨some 34, .fad 7 (.t 1), none, [], true, []⟩,
  ⟨some 35, .load 1 false (.t 34), none, [], true, []⟩,
  ⟨some 36, .bin .geq (.t 35) (.c (.one (.v (.int .i64 30)))), none, [], true, []⟩,
  ⟨some 37, .mv (.t 36), none, [], true, []⟩,
  ⟨some 38, .fad 0 (.t 1), some (37, true), [], true, []⟩,
  ⟨some 39, .load 1 false (.t 38), some (37, true), [], true, []⟩,
  ⟨some 40, .bin .eql (.t 39) (.c (.one (.v (.int .i64 5)))), some (37, true), [], true, []⟩,
  ⟨some 41, .pick (.t 37) (.t 40) (.c (.one (.v (.bool false)))), none, [], true, []⟩,
  ⟨some 33, .mv (.t 41), none, [], true, []⟩]) (.cond (.t 33) (.seq (.reg false [
  ⟨some 42, .load 9 true (.t 1), none, [], true, []⟩,
  ⟨some 43, .fad 0 (.t 1), none, [], true, []⟩,
  ⟨some 44, .load 1 false (.t 43), none, [], true, []⟩,
  ⟨some 45, .build [.v (.int .i64 0), .v (.string ⟨#[]⟩), .v (.string ⟨#[]⟩), .v (.string ⟨#[]⟩), .v (.int .i64 0), .v (.int .i64 0), .v (.int .i64 0), .v (.int .i64 0), .v (.bool false), .sl .full 6 [], .sl .full 1 []] [(0, 1, .c (.one (.v (.int .i64 4))))], none, [], true, []⟩,
  ⟨some 46, .bsl 37 11 [.t 45], none, [], true, []⟩,
  ⟨some 47, .call 26 [.t 42, .t 44, .t 46], none, [], true, []⟩,
  ⟨some 48, .ext (.t 47) 0, none, [], true, []⟩,
  ⟨some 49, .ext (.t 47) 1, none, [], true, []⟩,
  ⟨none, .store 9 (.t 2) (.t 48), none, [], true, []⟩,
  ⟨none, .store 3 (.t 3) (.t 49), none, [], true, []⟩]) (.ret)) (.skip)))))) (.seq (.reg false [
  ⟨some 50, .load 9 true (.t 1), none, [], true, []⟩,
  ⟨some 51, .build [.sl .full 11 [], .v (.bool false), .sl .full 11 []] [], none, [], true, []⟩,
  ⟨none, .store 9 (.t 2) (.t 50), none, [], true, []⟩,
  ⟨none, .store 3 (.t 3) (.t 51), none, [], true, []⟩]) (.ret)))))), res := [.c 2 9 true, .c 3 3 true] }
theorem F13_ok : mtF Tryd.prog 13 F13 = true := by kernel_rfl
/- wharf/wharflaw15.small -/
def F14 : Fun := { n := 34, code := .seq (.reg false [
  ⟨some 2, .mv (.c (.one (.v (.bool false)))), none, [], true, []⟩]) (.seq (.reg false [
  ⟨some 3, .mv (.c (.one (.v (.int .i64 0)))), none, [], true, []⟩]) (.seq (.seq (.reg false [
  ⟨some 4, .mv (.c (.one (.v (.int .i64 0)))), none, [], true, []⟩]) (.block 0 (.loop (.seq (.seq (.reg false [
  ⟨some 5, .mv (.t 4), none, [], true, []⟩,
  ⟨some 6, .mv (.t 0), none, [], true, []⟩,
  ⟨some 7, .len false (.t 6), none, [], true, []⟩,
  ⟨some 8, .bin .lss (.t 5) (.t 7), none, [], true, []⟩,
  ⟨some 9, .mv (.t 8), none, [], true, []⟩,
  ⟨some 10, .mv (.t 4), some (9, true), [], true, []⟩,
  ⟨some 11, .bin .leq (.t 10) (.c (.one (.v (.int .i64 150)))), some (9, true), [], true, []⟩,
  ⟨some 12, .pick (.t 9) (.t 11) (.c (.one (.v (.bool false)))), none, [], true, []⟩,
  ⟨some 13, .mv (.t 12), none, [], true, []⟩,
  ⟨some 14, .mv (.t 3), some (13, true), [], true, []⟩,
  ⟨some 15, .bin .leq (.t 14) (.c (.one (.v (.int .i64 12000)))), some (13, true), [], true, []⟩,
  ⟨some 16, .pick (.t 13) (.t 15) (.c (.one (.v (.bool false)))), none, [], true, []⟩]) (.cond (.t 16) (.skip) (.exit 0))) (.seq (.block 1 (.reg false [
  ⟨some 19, .mv (.t 3), none, [], true, []⟩,
  ⟨some 20, .mv (.t 0), none, [], true, []⟩,
  ⟨some 21, .mv (.t 4), none, [], true, []⟩,
  ⟨some 22, .iad 13 (.t 20) (.t 21), none, [], true, []⟩,
  ⟨some 23, .fad 1 (.t 22), none, [], true, []⟩,
  ⟨some 24, .load 11 true (.t 23), none, [], true, []⟩,
  ⟨some 25, .call 12 [.t 24, .c (.one (.v (.int .i64 12000)))], none, [], true, []⟩,
  ⟨some 26, .bin .add (.t 19) (.t 25), none, [], true, []⟩,
  ⟨some 3, .mv (.t 26), none, [], true, []⟩])) (.reg false [
  ⟨some 17, .mv (.t 4), none, [], true, []⟩,
  ⟨some 18, .bin .add (.t 17) (.c (.one (.v (.int .i64 1)))), none, [], true, []⟩,
  ⟨some 4, .mv (.t 18), none, [], true, []⟩])))))) (.seq (.reg false [
  ⟨some 27, .mv (.t 0), none, [], true, []⟩,
  ⟨some 28, .len false (.t 27), none, [], true, []⟩,
  ⟨some 29, .bin .leq (.t 28) (.c (.one (.v (.int .i64 150)))), none, [], true, []⟩,
  ⟨some 30, .mv (.t 29), none, [], true, []⟩,
  ⟨some 31, .mv (.t 3), some (30, true), [], true, []⟩,
  ⟨some 32, .bin .leq (.t 31) (.c (.one (.v (.int .i64 12000)))), some (30, true), [], true, []⟩,
  ⟨some 33, .pick (.t 30) (.t 32) (.c (.one (.v (.bool false)))), none, [], true, []⟩,
  ⟨some 2, .mv (.t 33), none, [], true, []⟩]) (.ret)))), res := [.t 2] }
theorem F14_ok : mtF Tryd.prog 14 F14 = true := by kernel_rfl
/- wharf/wharfref15.Start -/
def F15 : Fun := { n := 75, code := .seq (.reg false [
  ⟨some 10, .alloc 26 [.v (.int .i64 0), .v (.string ⟨#[]⟩), .v (.string ⟨#[]⟩), .v (.int .i64 0), .v (.int .i64 0), .v (.int .i64 0), .v (.int .i64 0), .v (.int .i64 0), .v (.int .i64 0)], none, [], true, []⟩,
  ⟨some 11, .alloc 29 [.sl .full 11 [], .v (.bool false), .sl .full 11 []], none, [], true, []⟩,
  ⟨some 12, .mv (.c (.one (.v (.int .i64 0)))), none, [], true, []⟩]) (.seq (.reg false [
  ⟨some 17, .mv (.t 1), none, [], true, []⟩,
  ⟨some 18, .call 31 [.t 17], none, [], true, []⟩,
  ⟨some 16, .mv (.t 18), none, [], true, []⟩,
  ⟨some 19, .ext (.t 16) 0, none, [], true, []⟩,
  ⟨some 20, .ext (.t 16) 1, none, [], true, []⟩,
  ⟨some 13, .mv (.t 19), none, [], true, []⟩,
  ⟨some 14, .mv (.t 20), none, [], true, []⟩]) (.seq (.seq (.reg false [
  ⟨some 21, .mv (.t 0), none, [], true, []⟩,
  ⟨some 22, .call 32 [.t 21], none, [], true, []⟩,
  ⟨some 23, .un .not (.t 22), none, [], true, []⟩,
  ⟨some 24, .mv (.t 23), none, [], true, []⟩,
  ⟨some 25, .mv (.t 1), some (24, false), [], true, []⟩,
  ⟨some 26, .bin .eql (.t 25) (.c (.one (.v (.string ⟨#[]⟩)))), some (24, false), [], true, []⟩,
  ⟨some 27, .pick (.t 24) (.c (.one (.v (.bool true)))) (.t 26), none, [], true, []⟩,
  ⟨some 28, .mv (.t 27), none, [], true, []⟩,
  ⟨some 29, .mv (.t 14), some (28, false), [], true, []⟩,
  ⟨some 30, .un .not (.t 29), some (28, false), [], true, []⟩,
  ⟨some 31, .pick (.t 28) (.c (.one (.v (.bool true)))) (.t 30), none, [], true, []⟩,
  ⟨some 32, .mv (.t 31), none, [], true, []⟩,
  ⟨some 33, .mv (.t 1), some (32, false), [], true, []⟩,
  ⟨some 34, .len true (.t 33), some (32, false), [], true, []⟩,
  ⟨some 35, .bin .gtr (.t 34) (.c (.one (.v (.int .i64 16)))), some (32, false), [], true, []⟩,
  ⟨some 36, .pick (.t 32) (.c (.one (.v (.bool true)))) (.t 35), none, [], true, []⟩,
  ⟨some 37, .mv (.t 36), none, [], true, []⟩,
  ⟨some 38, .mv (.t 2), some (37, false), [], true, []⟩,
  ⟨some 39, .bin .lss (.t 38) (.c (.one (.v (.int .i64 0)))), some (37, false), [], true, []⟩,
  ⟨some 40, .pick (.t 37) (.c (.one (.v (.bool true)))) (.t 39), none, [], true, []⟩,
  ⟨some 41, .mv (.t 40), none, [], true, []⟩,
  ⟨some 42, .mv (.t 2), some (41, false), [], true, []⟩,
  ⟨some 43, .bin .gtr (.t 42) (.c (.one (.v (.int .i64 65535)))), some (41, false), [], true, []⟩,
  ⟨some 44, .pick (.t 41) (.c (.one (.v (.bool true)))) (.t 43), none, [], true, []⟩,
  ⟨some 45, .mv (.t 44), none, [], true, []⟩,
  ⟨some 46, .mv (.t 4), some (45, false), [], true, []⟩,
  ⟨some 47, .bin .lss (.t 46) (.c (.one (.v (.int .i64 0)))), some (45, false), [], true, []⟩,
  ⟨some 48, .pick (.t 45) (.c (.one (.v (.bool true)))) (.t 47), none, [], true, []⟩,
  ⟨some 49, .mv (.t 48), none, [], true, []⟩,
  ⟨some 50, .mv (.t 4), some (49, false), [], true, []⟩,
  ⟨some 51, .bin .gtr (.t 50) (.c (.one (.v (.int .i64 65535)))), some (49, false), [], true, []⟩,
  ⟨some 52, .pick (.t 49) (.c (.one (.v (.bool true)))) (.t 51), none, [], true, []⟩,
  ⟨some 53, .mv (.t 52), none, [], true, []⟩,
  ⟨some 54, .mv (.t 3), some (53, false), [], true, []⟩,
  ⟨some 55, .bin .lss (.t 54) (.c (.one (.v (.int .i64 0)))), some (53, false), [], true, []⟩,
  ⟨some 56, .pick (.t 53) (.c (.one (.v (.bool true)))) (.t 55), none, [], true, []⟩,
  ⟨some 57, .mv (.t 56), none, [], true, []⟩,
  ⟨some 58, .mv (.t 3), some (57, false), [], true, []⟩,
  ⟨some 59, .bin .gtr (.t 58) (.c (.one (.v (.int .i64 4294967295)))), some (57, false), [], true, []⟩,
  ⟨some 60, .pick (.t 57) (.c (.one (.v (.bool true)))) (.t 59), none, [], true, []⟩]) (.cond (.t 60) (.seq (.reg false [
  ⟨some 61, .build [.v (.int .i64 0), .v (.string ⟨#[]⟩), .v (.string ⟨#[]⟩), .v (.int .i64 0), .v (.int .i64 0), .v (.int .i64 0), .v (.int .i64 0), .v (.int .i64 0), .v (.int .i64 0)] [], none, [], true, []⟩,
  ⟨some 62, .build [.sl .full 11 [], .v (.bool false), .sl .full 11 []] [], none, [], true, []⟩,
  ⟨none, .store 9 (.t 10) (.t 61), none, [], true, []⟩,
  ⟨none, .store 3 (.t 11) (.t 62), none, [], true, []⟩,
  ⟨some 12, .mv (.c (.one (.v (.int .i64 2)))), none, [], true, []⟩]) (.ret)) (.skip))) (.seq (.reg false [
  ⟨some 63, .mv (.t 0), none, [], true, []⟩,
  ⟨some 64, .mv (.t 1), none, [], true, []⟩,
  ⟨some 65, .mv (.t 2), none, [], true, []⟩,
  ⟨some 66, .mv (.t 3), none, [], true, []⟩,
  ⟨some 67, .mv (.t 4), none, [], true, []⟩,
  ⟨some 68, .build [.v (.int .i64 0), .v (.string ⟨#[]⟩), .v (.string ⟨#[]⟩), .v (.int .i64 0), .v (.int .i64 0), .v (.int .i64 0), .v (.int .i64 0), .v (.int .i64 0), .v (.int .i64 0)] [(0, 1, .c (.one (.v (.int .i64 1)))), (1, 1, .t 63), (2, 1, .t 64), (3, 1, .t 65), (4, 1, .t 66), (5, 1, .t 67)], none, [], true, []⟩,
  ⟨some 15, .alloc 26 [.v (.int .i64 0), .v (.string ⟨#[]⟩), .v (.string ⟨#[]⟩), .v (.int .i64 0), .v (.int .i64 0), .v (.int .i64 0), .v (.int .i64 0), .v (.int .i64 0), .v (.int .i64 0)], none, [], true, []⟩,
  ⟨none, .store 9 (.t 15) (.t 68), none, [], true, []⟩]) (.seq (.reg false [
  ⟨some 69, .load 9 true (.t 15), none, [], true, []⟩,
  ⟨some 70, .build [.v (.int .i64 0), .v (.string ⟨#[]⟩), .v (.string ⟨#[]⟩), .v (.string ⟨#[]⟩), .v (.int .i64 0), .v (.int .i64 0), .v (.int .i64 0), .v (.int .i64 0), .v (.bool false), .sl .full 6 [], .sl .full 1 []] [(0, 1, .c (.one (.v (.int .i64 1))))], none, [], true, []⟩,
  ⟨some 71, .mv (.t 0), none, [], true, []⟩,
  ⟨some 72, .build [.v (.int .i64 0), .v (.string ⟨#[]⟩), .v (.string ⟨#[]⟩), .v (.string ⟨#[]⟩), .v (.int .i64 0), .v (.int .i64 0), .v (.int .i64 0), .v (.int .i64 0), .v (.bool false), .sl .full 6 [], .sl .full 1 []] [(0, 1, .c (.one (.v (.int .i64 5)))), (1, 1, .t 71)], none, [], true, []⟩,
  ⟨some 73, .bsl 37 11 [.t 70, .t 72], none, [], true, []⟩,
  ⟨some 74, .build [.sl .full 11 [], .v (.bool false), .sl .full 11 []] [(0, 1, .t 73), (1, 1, .c (.one (.v (.bool true))))], none, [], true, []⟩,
  ⟨none, .store 9 (.t 10) (.t 69), none, [], true, []⟩,
  ⟨none, .store 3 (.t 11) (.t 74), none, [], true, []⟩,
  ⟨some 12, .mv (.c (.one (.v (.int .i64 0)))), none, [], true, []⟩]) (.ret))))), res := [.c 10 9 true, .c 11 3 true, .t 12] }
theorem F15_ok : mtF Tryd.prog 15 F15 = true := by kernel_rfl
/- wharf/wharfref15.Same -/
def F16 : Fun := { n := 24, code := .seq (.reg false [
  ⟨some 2, .box 29 (.t 0), none, [], true, []⟩,
  ⟨some 3, .box 29 (.t 1), none, [], true, []⟩,
  ⟨some 4, .mv (.c (.one (.v (.bool false)))), none, [], true, []⟩]) (.seq (.reg false [
  ⟨some 5, .fad 0 (.t 2), none, [], true, []⟩,
  ⟨some 6, .load 1 false (.t 5), none, [], true, []⟩,
  ⟨some 7, .fad 0 (.t 3), none, [], true, []⟩,
  ⟨some 8, .load 1 false (.t 7), none, [], true, []⟩,
  ⟨some 9, .call 33 [.t 6, .t 8], none, [], true, []⟩,
  ⟨some 10, .mv (.t 9), none, [], true, []⟩,
  ⟨some 11, .fad 1 (.t 2), some (10, true), [], true, []⟩,
  ⟨some 12, .load 1 false (.t 11), some (10, true), [], true, []⟩,
  ⟨some 13, .fad 1 (.t 3), some (10, true), [], true, []⟩,
  ⟨some 14, .load 1 false (.t 13), some (10, true), [], true, []⟩,
  ⟨some 15, .eqb false (.t 12) (.t 14), some (10, true), [], true, []⟩,
  ⟨some 16, .pick (.t 10) (.t 15) (.c (.one (.v (.bool false)))), none, [], true, []⟩,
  ⟨some 17, .mv (.t 16), none, [], true, []⟩,
  ⟨some 18, .fad 2 (.t 2), some (17, true), [], true, []⟩,
  ⟨some 19, .load 1 false (.t 18), some (17, true), [], true, []⟩,
  ⟨some 20, .fad 2 (.t 3), some (17, true), [], true, []⟩,
  ⟨some 21, .load 1 false (.t 20), some (17, true), [], true, []⟩,
  ⟨some 22, .call 33 [.t 19, .t 21], some (17, true), [], true, []⟩,
  ⟨some 23, .pick (.t 17) (.t 22) (.c (.one (.v (.bool false)))), none, [], true, []⟩,
  ⟨some 4, .mv (.t 23), none, [], true, []⟩]) (.ret)), res := [.t 4] }
theorem F16_ok : mtF Tryd.prog 16 F16 = true := by kernel_rfl
/- wharf/session.Lasting -/
def F17 : Fun := { n := 11, code := .seq (.reg false [
  ⟨some 2, .mv (.c (.one (.v (.bool false)))), none, [], true, []⟩]) (.seq (.seq (.reg false [
  ⟨some 3, .mv (.t 0), none, [], true, []⟩]) (.block 0 (.seq (.seq (.reg false [
  ⟨some 5, .bin .eql (.t 3) (.c (.one (.v (.int .i64 1)))), none, [], true, []⟩,
  ⟨some 4, .mv (.t 5), none, [], true, []⟩]) (.cond (.t 4) (.skip) (.seq (.reg false [
  ⟨some 6, .bin .eql (.t 3) (.c (.one (.v (.int .i64 4)))), none, [], true, []⟩,
  ⟨some 4, .mv (.t 6), none, [], true, []⟩]) (.cond (.t 4) (.skip) (.seq (.reg false [
  ⟨some 7, .bin .eql (.t 3) (.c (.one (.v (.int .i64 5)))), none, [], true, []⟩,
  ⟨some 4, .mv (.t 7), none, [], true, []⟩]) (.cond (.t 4) (.skip) (.seq (.reg false [
  ⟨some 8, .bin .eql (.t 3) (.c (.one (.v (.int .i64 7)))), none, [], true, []⟩,
  ⟨some 4, .mv (.t 8), none, [], true, []⟩]) (.cond (.t 4) (.skip) (.seq (.reg false [
  ⟨some 9, .bin .eql (.t 3) (.c (.one (.v (.int .i64 8)))), none, [], true, []⟩,
  ⟨some 4, .mv (.t 9), none, [], true, []⟩]) (.cond (.t 4) (.skip) (.reg false [
  ⟨some 10, .bin .eql (.t 3) (.c (.one (.v (.int .i64 17)))), none, [], true, []⟩,
  ⟨some 4, .mv (.t 10), none, [], true, []⟩]))))))))))) (.cond (.t 4) (.seq (.reg false [
  ⟨some 2, .mv (.c (.one (.v (.bool true)))), none, [], true, []⟩]) (.ret)) (.skip))))) (.seq (.reg false [
  ⟨some 2, .mv (.c (.one (.v (.bool false)))), none, [], true, []⟩]) (.ret))), res := [.t 2] }
theorem F17_ok : mtF Tryd.prog 17 F17 = true := by kernel_rfl
/- wharf/wharfref15.Lasting -/
def F18 : Fun := { n := 25, code := .seq (.reg false [
  ⟨some 2, .mv (.c (.one (.v (.bool false)))), none, [], true, []⟩]) (.seq (.reg false [
  ⟨some 3, .mv (.t 0), none, [], true, []⟩,
  ⟨some 4, .bin .eql (.t 3) (.c (.one (.v (.int .i64 1)))), none, [], true, []⟩,
  ⟨some 5, .mv (.t 4), none, [], true, []⟩,
  ⟨some 6, .mv (.t 0), some (5, false), [], true, []⟩,
  ⟨some 7, .bin .eql (.t 6) (.c (.one (.v (.int .i64 4)))), some (5, false), [], true, []⟩,
  ⟨some 8, .pick (.t 5) (.c (.one (.v (.bool true)))) (.t 7), none, [], true, []⟩,
  ⟨some 9, .mv (.t 8), none, [], true, []⟩,
  ⟨some 10, .mv (.t 0), some (9, false), [], true, []⟩,
  ⟨some 11, .bin .eql (.t 10) (.c (.one (.v (.int .i64 5)))), some (9, false), [], true, []⟩,
  ⟨some 12, .pick (.t 9) (.c (.one (.v (.bool true)))) (.t 11), none, [], true, []⟩,
  ⟨some 13, .mv (.t 12), none, [], true, []⟩,
  ⟨some 14, .mv (.t 0), some (13, false), [], true, []⟩,
  ⟨some 15, .bin .eql (.t 14) (.c (.one (.v (.int .i64 7)))), some (13, false), [], true, []⟩,
  ⟨some 16, .pick (.t 13) (.c (.one (.v (.bool true)))) (.t 15), none, [], true, []⟩,
  ⟨some 17, .mv (.t 16), none, [], true, []⟩,
  ⟨some 18, .mv (.t 0), some (17, false), [], true, []⟩,
  ⟨some 19, .bin .eql (.t 18) (.c (.one (.v (.int .i64 8)))), some (17, false), [], true, []⟩,
  ⟨some 20, .pick (.t 17) (.c (.one (.v (.bool true)))) (.t 19), none, [], true, []⟩,
  ⟨some 21, .mv (.t 20), none, [], true, []⟩,
  ⟨some 22, .mv (.t 0), some (21, false), [], true, []⟩,
  ⟨some 23, .bin .eql (.t 22) (.c (.one (.v (.int .i64 17)))), some (21, false), [], true, []⟩,
  ⟨some 24, .pick (.t 21) (.c (.one (.v (.bool true)))) (.t 23), none, [], true, []⟩,
  ⟨some 2, .mv (.t 24), none, [], true, []⟩]) (.ret)), res := [.t 2] }
theorem F18_ok : mtF Tryd.prog 18 F18 = true := by kernel_rfl
/- wharf/wharflaw15.does -/
def F19 : Fun := { n := 33, code := .seq (.reg false [
  ⟨some 2, .box 26 (.t 0), none, [], true, []⟩,
  ⟨some 3, .box 50 (.t 1), none, [], true, []⟩,
  ⟨some 4, .alloc 26 [.v (.int .i64 0), .v (.string ⟨#[]⟩), .v (.string ⟨#[]⟩), .v (.int .i64 0), .v (.int .i64 0), .v (.int .i64 0), .v (.int .i64 0), .v (.int .i64 0), .v (.int .i64 0)], none, [], true, []⟩,
  ⟨some 5, .alloc 29 [.sl .full 11 [], .v (.bool false), .sl .full 11 []], none, [], true, []⟩]) (.seq (.seq (.reg false [
  ⟨some 6, .fad 0 (.t 3), none, [], true, []⟩,
  ⟨some 7, .load 1 false (.t 6), none, [], true, []⟩]) (.block 0 (.seq (.reg false [
  ⟨some 9, .bin .eql (.t 7) (.c (.one (.v (.int .i64 0)))), none, [], true, []⟩,
  ⟨some 8, .mv (.t 9), none, [], true, []⟩]) (.cond (.t 8) (.seq (.reg false [
  ⟨some 10, .load 9 true (.t 2), none, [], true, []⟩,
  ⟨some 11, .fad 1 (.t 3), none, [], true, []⟩,
  ⟨some 12, .load 11 true (.t 11), none, [], true, []⟩,
  ⟨some 13, .call 10 [.t 10, .t 12], none, [], true, []⟩,
  ⟨some 14, .ext (.t 13) 0, none, [], true, []⟩,
  ⟨some 15, .ext (.t 13) 1, none, [], true, []⟩,
  ⟨none, .store 9 (.t 4) (.t 14), none, [], true, []⟩,
  ⟨none, .store 3 (.t 5) (.t 15), none, [], true, []⟩]) (.ret)) (.seq (.reg false [
  ⟨some 17, .bin .eql (.t 7) (.c (.one (.v (.int .i64 1)))), none, [], true, []⟩,
  ⟨some 16, .mv (.t 17), none, [], true, []⟩]) (.cond (.t 16) (.seq (.reg false [
  ⟨some 18, .load 9 true (.t 2), none, [], true, []⟩,
  ⟨some 19, .call 13 [.t 18], none, [], true, []⟩,
  ⟨some 20, .ext (.t 19) 0, none, [], true, []⟩,
  ⟨some 21, .ext (.t 19) 1, none, [], true, []⟩,
  ⟨none, .store 9 (.t 4) (.t 20), none, [], true, []⟩,
  ⟨none, .store 3 (.t 5) (.t 21), none, [], true, []⟩]) (.ret)) (.seq (.reg false [
  ⟨some 23, .bin .eql (.t 7) (.c (.one (.v (.int .i64 2)))), none, [], true, []⟩,
  ⟨some 22, .mv (.t 23), none, [], true, []⟩]) (.cond (.t 22) (.seq (.reg false [
  ⟨some 24, .load 9 true (.t 2), none, [], true, []⟩,
  ⟨some 25, .fad 12 (.t 3), none, [], true, []⟩,
  ⟨some 26, .load 1 false (.t 25), none, [], true, []⟩,
  ⟨some 27, .call 30 [.t 24, .t 26], none, [], true, []⟩,
  ⟨some 28, .ext (.t 27) 0, none, [], true, []⟩,
  ⟨some 29, .ext (.t 27) 1, none, [], true, []⟩,
  ⟨none, .store 9 (.t 4) (.t 28), none, [], true, []⟩,
  ⟨none, .store 3 (.t 5) (.t 29), none, [], true, []⟩]) (.ret)) (.skip))))))))) (.seq (.reg false [
  ⟨some 30, .load 9 true (.t 2), none, [], true, []⟩,
  ⟨some 31, .call 34 [.t 30], none, [], true, []⟩,
  ⟨some 32, .build [.sl .full 11 [], .v (.bool false), .sl .full 11 []] [], none, [], true, []⟩,
  ⟨none, .store 9 (.t 4) (.t 31), none, [], true, []⟩,
  ⟨none, .store 3 (.t 5) (.t 32), none, [], true, []⟩]) (.ret))), res := [.c 4 9 true, .c 5 3 true] }
theorem F19_ok : mtF Tryd.prog 19 F19 = true := by kernel_rfl
/- wharf/wharflaw15.model -/
def F20 : Fun := { n := 33, code := .seq (.reg false [
  ⟨some 2, .box 26 (.t 0), none, [], true, []⟩,
  ⟨some 3, .box 50 (.t 1), none, [], true, []⟩,
  ⟨some 4, .alloc 26 [.v (.int .i64 0), .v (.string ⟨#[]⟩), .v (.string ⟨#[]⟩), .v (.int .i64 0), .v (.int .i64 0), .v (.int .i64 0), .v (.int .i64 0), .v (.int .i64 0), .v (.int .i64 0)], none, [], true, []⟩,
  ⟨some 5, .alloc 29 [.sl .full 11 [], .v (.bool false), .sl .full 11 []], none, [], true, []⟩]) (.seq (.seq (.reg false [
  ⟨some 6, .fad 0 (.t 3), none, [], true, []⟩,
  ⟨some 7, .load 1 false (.t 6), none, [], true, []⟩]) (.block 0 (.seq (.reg false [
  ⟨some 9, .bin .eql (.t 7) (.c (.one (.v (.int .i64 0)))), none, [], true, []⟩,
  ⟨some 8, .mv (.t 9), none, [], true, []⟩]) (.cond (.t 8) (.seq (.reg false [
  ⟨some 10, .load 9 true (.t 2), none, [], true, []⟩,
  ⟨some 11, .fad 1 (.t 3), none, [], true, []⟩,
  ⟨some 12, .load 11 true (.t 11), none, [], true, []⟩,
  ⟨some 13, .call 35 [.t 10, .t 12], none, [], true, []⟩,
  ⟨some 14, .ext (.t 13) 0, none, [], true, []⟩,
  ⟨some 15, .ext (.t 13) 1, none, [], true, []⟩,
  ⟨none, .store 9 (.t 4) (.t 14), none, [], true, []⟩,
  ⟨none, .store 3 (.t 5) (.t 15), none, [], true, []⟩]) (.ret)) (.seq (.reg false [
  ⟨some 17, .bin .eql (.t 7) (.c (.one (.v (.int .i64 1)))), none, [], true, []⟩,
  ⟨some 16, .mv (.t 17), none, [], true, []⟩]) (.cond (.t 16) (.seq (.reg false [
  ⟨some 18, .load 9 true (.t 2), none, [], true, []⟩,
  ⟨some 19, .call 36 [.t 18], none, [], true, []⟩,
  ⟨some 20, .ext (.t 19) 0, none, [], true, []⟩,
  ⟨some 21, .ext (.t 19) 1, none, [], true, []⟩,
  ⟨none, .store 9 (.t 4) (.t 20), none, [], true, []⟩,
  ⟨none, .store 3 (.t 5) (.t 21), none, [], true, []⟩]) (.ret)) (.seq (.reg false [
  ⟨some 23, .bin .eql (.t 7) (.c (.one (.v (.int .i64 2)))), none, [], true, []⟩,
  ⟨some 22, .mv (.t 23), none, [], true, []⟩]) (.cond (.t 22) (.seq (.reg false [
  ⟨some 24, .load 9 true (.t 2), none, [], true, []⟩,
  ⟨some 25, .fad 12 (.t 3), none, [], true, []⟩,
  ⟨some 26, .load 1 false (.t 25), none, [], true, []⟩,
  ⟨some 27, .call 37 [.t 24, .t 26], none, [], true, []⟩,
  ⟨some 28, .ext (.t 27) 0, none, [], true, []⟩,
  ⟨some 29, .ext (.t 27) 1, none, [], true, []⟩,
  ⟨none, .store 9 (.t 4) (.t 28), none, [], true, []⟩,
  ⟨none, .store 3 (.t 5) (.t 29), none, [], true, []⟩]) (.ret)) (.skip))))))))) (.seq (.reg false [
  ⟨some 30, .load 9 true (.t 2), none, [], true, []⟩,
  ⟨some 31, .call 38 [.t 30], none, [], true, []⟩,
  ⟨some 32, .build [.sl .full 11 [], .v (.bool false), .sl .full 11 []] [], none, [], true, []⟩,
  ⟨none, .store 9 (.t 4) (.t 31), none, [], true, []⟩,
  ⟨none, .store 3 (.t 5) (.t 32), none, [], true, []⟩]) (.ret))), res := [.c 4 9 true, .c 5 3 true] }
theorem F20_ok : mtF Tryd.prog 20 F20 = true := by kernel_rfl
/- wharf/session.Start -/
def F21 : Fun := { n := 66, code := .seq (.reg false [
  ⟨some 10, .alloc 26 [.v (.int .i64 0), .v (.string ⟨#[]⟩), .v (.string ⟨#[]⟩), .v (.int .i64 0), .v (.int .i64 0), .v (.int .i64 0), .v (.int .i64 0), .v (.int .i64 0), .v (.int .i64 0)], none, [], true, []⟩,
  ⟨some 11, .alloc 29 [.sl .full 11 [], .v (.bool false), .sl .full 11 []], none, [], true, []⟩,
  ⟨some 12, .mv (.c (.one (.v (.int .i64 0)))), none, [], true, []⟩]) (.seq (.reg false [
  ⟨some 15, .mv (.t 1), none, [], true, []⟩,
  ⟨some 16, .bin .neq (.t 15) (.c (.one (.v (.string ⟨#[]⟩)))), none, [], true, []⟩,
  ⟨some 17, .mv (.t 16), none, [], true, []⟩,
  ⟨some 18, .mv (.t 1), some (17, true), [], true, []⟩,
  ⟨some 19, .len true (.t 18), some (17, true), [], true, []⟩,
  ⟨some 20, .bin .leq (.t 19) (.c (.one (.v (.int .i64 16)))), some (17, true), [], true, []⟩,
  ⟨some 21, .pick (.t 17) (.t 20) (.c (.one (.v (.bool false)))), none, [], true, []⟩,
  ⟨some 22, .mv (.t 21), none, [], true, []⟩,
  ⟨some 23, .mv (.t 1), some (22, true), [], true, []⟩,
  ⟨some 24, .call 39 [.t 23], some (22, true), [], true, []⟩,
  ⟨some 25, .bin .eql (.t 24) (.c (.one (.v (.int .i64 0)))), some (22, true), [], true, []⟩,
  ⟨some 26, .pick (.t 22) (.t 25) (.c (.one (.v (.bool false)))), none, [], true, []⟩,
  ⟨some 13, .mv (.t 26), none, [], true, []⟩]) (.seq (.seq (.reg false [
  ⟨some 27, .mv (.t 0), none, [], true, []⟩,
  ⟨some 28, .call 40 [.t 27], none, [], true, []⟩,
  ⟨some 29, .bin .neq (.t 28) (.c (.one (.v (.int .i64 0)))), none, [], true, []⟩,
  ⟨some 30, .mv (.t 29), none, [], true, []⟩,
  ⟨some 31, .mv (.t 13), some (30, false), [], true, []⟩,
  ⟨some 32, .un .not (.t 31), some (30, false), [], true, []⟩,
  ⟨some 33, .pick (.t 30) (.c (.one (.v (.bool true)))) (.t 32), none, [], true, []⟩,
  ⟨some 34, .mv (.t 33), none, [], true, []⟩,
  ⟨some 35, .mv (.t 2), some (34, false), [], true, []⟩,
  ⟨some 36, .call 41 [.t 35], some (34, false), [], true, []⟩,
  ⟨some 37, .un .not (.t 36), some (34, false), [], true, []⟩,
  ⟨some 38, .pick (.t 34) (.c (.one (.v (.bool true)))) (.t 37), none, [], true, []⟩,
  ⟨some 39, .mv (.t 38), none, [], true, []⟩,
  ⟨some 40, .mv (.t 4), some (39, false), [], true, []⟩,
  ⟨some 41, .call 41 [.t 40], some (39, false), [], true, []⟩,
  ⟨some 42, .un .not (.t 41), some (39, false), [], true, []⟩,
  ⟨some 43, .pick (.t 39) (.c (.one (.v (.bool true)))) (.t 42), none, [], true, []⟩,
  ⟨some 44, .mv (.t 43), none, [], true, []⟩,
  ⟨some 45, .mv (.t 3), some (44, false), [], true, []⟩,
  ⟨some 46, .bin .lss (.t 45) (.c (.one (.v (.int .i64 0)))), some (44, false), [], true, []⟩,
  ⟨some 47, .pick (.t 44) (.c (.one (.v (.bool true)))) (.t 46), none, [], true, []⟩,
  ⟨some 48, .mv (.t 47), none, [], true, []⟩,
  ⟨some 49, .mv (.t 3), some (48, false), [], true, []⟩,
  ⟨some 50, .bin .gtr (.t 49) (.c (.one (.v (.int .i64 4294967295)))), some (48, false), [], true, []⟩,
  ⟨some 51, .pick (.t 48) (.c (.one (.v (.bool true)))) (.t 50), none, [], true, []⟩]) (.cond (.t 51) (.seq (.reg false [
  ⟨some 52, .build [.v (.int .i64 0), .v (.string ⟨#[]⟩), .v (.string ⟨#[]⟩), .v (.int .i64 0), .v (.int .i64 0), .v (.int .i64 0), .v (.int .i64 0), .v (.int .i64 0), .v (.int .i64 0)] [], none, [], true, []⟩,
  ⟨some 53, .build [.sl .full 11 [], .v (.bool false), .sl .full 11 []] [], none, [], true, []⟩,
  ⟨none, .store 9 (.t 10) (.t 52), none, [], true, []⟩,
  ⟨none, .store 3 (.t 11) (.t 53), none, [], true, []⟩,
  ⟨some 12, .mv (.c (.one (.v (.int .i64 2)))), none, [], true, []⟩]) (.ret)) (.skip))) (.seq (.reg false [
  ⟨some 54, .mv (.t 0), none, [], true, []⟩,
  ⟨some 55, .mv (.t 1), none, [], true, []⟩,
  ⟨some 56, .mv (.t 2), none, [], true, []⟩,
  ⟨some 57, .mv (.t 3), none, [], true, []⟩,
  ⟨some 58, .mv (.t 4), none, [], true, []⟩,
  ⟨some 59, .build [.v (.int .i64 0), .v (.string ⟨#[]⟩), .v (.string ⟨#[]⟩), .v (.int .i64 0), .v (.int .i64 0), .v (.int .i64 0), .v (.int .i64 0), .v (.int .i64 0), .v (.int .i64 0)] [(0, 1, .c (.one (.v (.int .i64 1)))), (1, 1, .t 54), (2, 1, .t 55), (3, 1, .t 56), (4, 1, .t 57), (5, 1, .t 58)], none, [], true, []⟩,
  ⟨some 14, .alloc 26 [.v (.int .i64 0), .v (.string ⟨#[]⟩), .v (.string ⟨#[]⟩), .v (.int .i64 0), .v (.int .i64 0), .v (.int .i64 0), .v (.int .i64 0), .v (.int .i64 0), .v (.int .i64 0)], none, [], true, []⟩,
  ⟨none, .store 9 (.t 14) (.t 59), none, [], true, []⟩]) (.seq (.reg false [
  ⟨some 60, .load 9 true (.t 14), none, [], true, []⟩,
  ⟨some 61, .build [.v (.int .i64 0), .v (.string ⟨#[]⟩), .v (.string ⟨#[]⟩), .v (.string ⟨#[]⟩), .v (.int .i64 0), .v (.int .i64 0), .v (.int .i64 0), .v (.int .i64 0), .v (.bool false), .sl .full 6 [], .sl .full 1 []] [(0, 1, .c (.one (.v (.int .i64 1))))], none, [], true, []⟩,
  ⟨some 62, .mv (.t 0), none, [], true, []⟩,
  ⟨some 63, .build [.v (.int .i64 0), .v (.string ⟨#[]⟩), .v (.string ⟨#[]⟩), .v (.string ⟨#[]⟩), .v (.int .i64 0), .v (.int .i64 0), .v (.int .i64 0), .v (.int .i64 0), .v (.bool false), .sl .full 6 [], .sl .full 1 []] [(0, 1, .c (.one (.v (.int .i64 5)))), (1, 1, .t 62)], none, [], true, []⟩,
  ⟨some 64, .bsl 37 11 [.t 61, .t 63], none, [], true, []⟩,
  ⟨some 65, .build [.sl .full 11 [], .v (.bool false), .sl .full 11 []] [(0, 1, .t 64), (1, 1, .c (.one (.v (.bool true))))], none, [], true, []⟩,
  ⟨none, .store 9 (.t 10) (.t 60), none, [], true, []⟩,
  ⟨none, .store 3 (.t 11) (.t 65), none, [], true, []⟩,
  ⟨some 12, .mv (.c (.one (.v (.int .i64 0)))), none, [], true, []⟩]) (.ret))))), res := [.c 10 9 true, .c 11 3 true, .t 12] }
theorem F21_ok : mtF Tryd.prog 21 F21 = true := by kernel_rfl
/- wharf/wharflaw15.take -/
def F22 : Fun := { n := 14, code := .seq (.reg false [
  ⟨some 2, .box 26 (.t 0), none, [], true, []⟩,
  ⟨some 3, .box 37 (.t 1), none, [], true, []⟩,
  ⟨some 4, .alloc 26 [.v (.int .i64 0), .v (.string ⟨#[]⟩), .v (.string ⟨#[]⟩), .v (.int .i64 0), .v (.int .i64 0), .v (.int .i64 0), .v (.int .i64 0), .v (.int .i64 0), .v (.int .i64 0)], none, [], true, []⟩]) (.seq (.reg false [
  ⟨some 8, .load 9 true (.t 2), none, [], true, []⟩,
  ⟨some 9, .load 11 true (.t 3), none, [], true, []⟩,
  ⟨some 10, .call 10 [.t 8, .t 9], none, [], true, []⟩,
  ⟨some 7, .mv (.t 10), none, [], true, []⟩,
  ⟨some 11, .ext (.t 7) 0, none, [], true, []⟩,
  ⟨some 12, .ext (.t 7) 1, none, [], true, []⟩,
  ⟨some 5, .alloc 26 [.v (.int .i64 0), .v (.string ⟨#[]⟩), .v (.string ⟨#[]⟩), .v (.int .i64 0), .v (.int .i64 0), .v (.int .i64 0), .v (.int .i64 0), .v (.int .i64 0), .v (.int .i64 0)], none, [], true, []⟩,
  ⟨some 6, .alloc 29 [.sl .full 11 [], .v (.bool false), .sl .full 11 []], none, [], true, []⟩,
  ⟨none, .store 9 (.t 5) (.t 11), none, [], true, []⟩,
  ⟨none, .store 3 (.t 6) (.t 12), none, [], true, []⟩]) (.seq (.reg false [
  ⟨some 13, .load 9 true (.t 5), none, [], true, []⟩,
  ⟨none, .store 9 (.t 4) (.t 13), none, [], true, []⟩]) (.ret))), res := [.c 4 9 true] }
theorem F22_ok : mtF Tryd.prog 22 F22 = true := by kernel_rfl
/- wharf/wharflaw15.num -/
def F23 : Fun := { n := 4, code := .seq (.reg false [
  ⟨some 2, .mv (.c (.one (.v (.int .i64 0)))), none, [], true, []⟩]) (.seq (.reg false [
  ⟨some 3, .mv (.t 0), none, [], true, []⟩,
  ⟨some 2, .mv (.t 3), none, [], true, []⟩]) (.ret)), res := [.t 2] }
theorem F23_ok : mtF Tryd.prog 23 F23 = true := by kernel_rfl
/- wharf/session.under -/
def F24 : Fun := { n := 11, code := .seq (.reg false [
  ⟨some 1, .box 26 (.t 0), none, [], true, []⟩,
  ⟨some 2, .mv (.c (.one (.v (.bool false)))), none, [], true, []⟩]) (.seq (.reg false [
  ⟨some 3, .fad 0 (.t 1), none, [], true, []⟩,
  ⟨some 4, .load 1 false (.t 3), none, [], true, []⟩,
  ⟨some 5, .bin .geq (.t 4) (.c (.one (.v (.int .i64 1)))), none, [], true, []⟩,
  ⟨some 6, .mv (.t 5), none, [], true, []⟩,
  ⟨some 7, .fad 0 (.t 1), some (6, true), [], true, []⟩,
  ⟨some 8, .load 1 false (.t 7), some (6, true), [], true, []⟩,
  ⟨some 9, .bin .leq (.t 8) (.c (.one (.v (.int .i64 5)))), some (6, true), [], true, []⟩,
  ⟨some 10, .pick (.t 6) (.t 9) (.c (.one (.v (.bool false)))), none, [], true, []⟩,
  ⟨some 2, .mv (.t 10), none, [], true, []⟩]) (.ret)), res := [.t 2] }
theorem F24_ok : mtF Tryd.prog 24 F24 = true := by kernel_rfl
/- wharf/session.over -/
def F25 : Fun := { n := 9, code := .seq (.reg false [
  ⟨some 2, .box 26 (.t 0), none, [], true, []⟩,
  ⟨some 4, .alloc 26 [.v (.int .i64 0), .v (.string ⟨#[]⟩), .v (.string ⟨#[]⟩), .v (.int .i64 0), .v (.int .i64 0), .v (.int .i64 0), .v (.int .i64 0), .v (.int .i64 0), .v (.int .i64 0)], none, [], true, []⟩]) (.seq (.reg false [
  ⟨some 5, .mv (.t 1), none, [], true, []⟩,
  ⟨some 6, .fad 0 (.t 2), none, [], true, []⟩,
  ⟨none, .store 1 (.t 6) (.c (.one (.v (.int .i64 6)))), none, [], true, []⟩,
  ⟨some 7, .fad 8 (.t 2), none, [], true, []⟩,
  ⟨none, .store 1 (.t 7) (.t 5), none, [], true, []⟩]) (.seq (.reg false [
  ⟨some 8, .load 9 true (.t 2), none, [], true, []⟩,
  ⟨none, .store 9 (.t 4) (.t 8), none, [], true, []⟩]) (.ret))), res := [.c 4 9 true] }
theorem F25_ok : mtF Tryd.prog 25 F25 = true := by kernel_rfl
/- wharf/session.says -/
def F26 : Fun := { n := 14, code := .seq (.reg false [
  ⟨some 3, .box 26 (.t 0), none, [], true, []⟩,
  ⟨some 6, .alloc 26 [.v (.int .i64 0), .v (.string ⟨#[]⟩), .v (.string ⟨#[]⟩), .v (.int .i64 0), .v (.int .i64 0), .v (.int .i64 0), .v (.int .i64 0), .v (.int .i64 0), .v (.int .i64 0)], none, [], true, []⟩,
  ⟨some 7, .alloc 29 [.sl .full 11 [], .v (.bool false), .sl .full 11 []], none, [], true, []⟩]) (.seq (.reg false [
  ⟨some 8, .mv (.t 1), none, [], true, []⟩,
  ⟨some 9, .fad 0 (.t 3), none, [], true, []⟩,
  ⟨none, .store 1 (.t 9) (.t 8), none, [], true, []⟩,
  ⟨some 10, .fad 7 (.t 3), none, [], true, []⟩,
  ⟨none, .store 1 (.t 10) (.c (.one (.v (.int .i64 0)))), none, [], true, []⟩]) (.seq (.reg false [
  ⟨some 11, .load 9 true (.t 3), none, [], true, []⟩,
  ⟨some 12, .mv (.t 2), none, [], true, []⟩,
  ⟨some 13, .build [.sl .full 11 [], .v (.bool false), .sl .full 11 []] [(0, 1, .t 12)], none, [], true, []⟩,
  ⟨none, .store 9 (.t 6) (.t 11), none, [], true, []⟩,
  ⟨none, .store 3 (.t 7) (.t 13), none, [], true, []⟩]) (.ret))), res := [.c 6 9 true, .c 7 3 true] }
theorem F26_ok : mtF Tryd.prog 26 F26 = true := by kernel_rfl
/- wharf/digest.Salted -/
def F27 : Fun := { n := 14, code := .seq (.reg false [
  ⟨some 6, .mv (.c (.one (.v (.string ⟨#[]⟩)))), none, [], true, []⟩]) (.seq (.reg false [
  ⟨some 7, .mv (.t 0), none, [], true, []⟩,
  ⟨some 8, .mv (.t 1), none, [], true, []⟩,
  ⟨some 9, .call 42 [.t 8], none, [], true, []⟩,
  ⟨some 10, .bin .add (.t 7) (.t 9), none, [], true, []⟩,
  ⟨some 11, .mv (.t 2), none, [], true, []⟩,
  ⟨some 12, .bin .add (.t 10) (.t 11), none, [], true, []⟩,
  ⟨some 13, .call 42 [.t 12], none, [], true, []⟩,
  ⟨some 6, .mv (.t 13), none, [], true, []⟩]) (.ret)), res := [.t 6] }
theorem F27_ok : mtF Tryd.prog 27 F27 = true := by kernel_rfl
/- wharf/handle.Same -/
def F28 : Fun := { n := 10, code := .seq (.reg false [
  ⟨some 4, .mv (.c (.one (.v (.bool false)))), none, [], true, []⟩]) (.seq (.reg false [
  ⟨some 5, .mv (.t 0), none, [], true, []⟩,
  ⟨some 6, .call 43 [.t 5], none, [], true, []⟩,
  ⟨some 7, .mv (.t 1), none, [], true, []⟩,
  ⟨some 8, .call 43 [.t 7], none, [], true, []⟩,
  ⟨some 9, .bin .eql (.t 6) (.t 8), none, [], true, []⟩,
  ⟨some 4, .mv (.t 9), none, [], true, []⟩]) (.ret)), res := [.t 4] }
theorem F28_ok : mtF Tryd.prog 28 F28 = true := by kernel_rfl
/- wharf/wharfref07.Md5 -/
def F29 : Fun := { n := 141, code := .seq (.reg false [
  ⟨some 2, .mv (.c (.one (.v (.string ⟨#[]⟩)))), none, [], true, []⟩]) (.seq (.reg false [
  ⟨some 15, .bsl 76 1 [.c (.one (.v (.int .u32 1732584193))), .c (.one (.v (.int .u32 4023233417))), .c (.one (.v (.int .u32 2562383102))), .c (.one (.v (.int .u32 271733878)))], none, [], true, []⟩,
  ⟨some 3, .mv (.t 15), none, [], true, []⟩]) (.seq (.reg false [
  ⟨some 16, .call 44 [], none, [], true, []⟩,
  ⟨some 4, .mv (.t 16), none, [], true, []⟩]) (.seq (.reg false [
  ⟨some 17, .mv (.t 0), none, [], true, []⟩,
  ⟨some 18, .call 45 [.t 17, .c (.one (.v (.bool true)))], none, [], true, []⟩,
  ⟨some 5, .mv (.t 18), none, [], true, []⟩]) (.seq (.seq (.reg false [
  ⟨some 6, .mv (.c (.one (.v (.int .i64 0)))), none, [], true, []⟩]) (.block 0 (.loop (.seq (.seq (.reg false [
  ⟨some 19, .mv (.t 6), none, [], true, []⟩,
  ⟨some 20, .mv (.t 5), none, [], true, []⟩,
  ⟨some 21, .len false (.t 20), none, [], true, []⟩,
  ⟨some 22, .bin .lss (.t 19) (.t 21), none, [], true, []⟩]) (.cond (.t 22) (.skip) (.exit 0))) (.seq (.block 1 (.seq (.reg true [
  ⟨some 25, .mv (.t 3), none, [], false, []⟩,
  ⟨some 26, .iad 1 (.t 25) (.c (.one (.v (.int .i64 0)))), none, [0], false, []⟩,
  ⟨some 27, .load 1 false (.t 26), none, [1], false, []⟩,
  ⟨some 28, .mv (.t 3), none, [], false, []⟩,
  ⟨some 29, .iad 1 (.t 28) (.c (.one (.v (.int .i64 1)))), none, [3], false, []⟩,
  ⟨some 30, .load 1 false (.t 29), none, [4], false, []⟩,
  ⟨some 31, .mv (.t 3), none, [], false, []⟩,
  ⟨some 32, .iad 1 (.t 31) (.c (.one (.v (.int .i64 2)))), none, [6], false, []⟩,
  ⟨some 33, .load 1 false (.t 32), none, [7], false, []⟩,
  ⟨some 34, .mv (.t 3), none, [], false, []⟩,
  ⟨some 35, .iad 1 (.t 34) (.c (.one (.v (.int .i64 3)))), none, [9], false, []⟩,
  ⟨some 36, .load 1 false (.t 35), none, [10], false, []⟩,
  ⟨some 7, .mv (.t 27), none, [2, 0, 1, 2], false, []⟩,
  ⟨some 8, .mv (.t 30), none, [5, 12, 0, 1, 2, 3, 4, 5, 12], false, []⟩,
  ⟨some 9, .mv (.t 33), none, [8, 13, 0, 1, 2, 3, 4, 5, 6, 7, 8, 12, 13], false, []⟩,
  ⟨some 10, .mv (.t 36), none, [11, 14, 0, 1, 2, 3, 4, 5, 6, 7, 8, 9, 10, 11, 12, 13, 14], false, []⟩]) (.seq (.seq (.reg false [
  ⟨some 11, .mv (.c (.one (.v (.int .i64 0)))), none, [], true, []⟩]) (.block 2 (.loop (.seq (.seq (.reg false [
  ⟨some 37, .mv (.t 11), none, [], true, []⟩,
  ⟨some 38, .bin .lss (.t 37) (.c (.one (.v (.int .i64 64)))), none, [], true, []⟩]) (.cond (.t 38) (.skip) (.exit 2))) (.seq (.block 3 (.seq (.reg false [
  ⟨some 12, .mv (.c (.one (.v (.int .u32 0)))), none, [], true, []⟩,
  ⟨some 13, .mv (.c (.one (.v (.int .i64 0)))), none, [], true, []⟩]) (.seq (.seq (.reg false [
  ⟨some 41, .mv (.t 11), none, [], true, []⟩,
  ⟨some 42, .bin .quo (.t 41) (.c (.one (.v (.int .i64 16)))), none, [], true, []⟩]) (.block 4 (.seq (.reg false [
  ⟨some 53, .bin .eql (.t 42) (.c (.one (.v (.int .i64 0)))), none, [], true, []⟩,
  ⟨some 52, .mv (.t 53), none, [], true, []⟩]) (.cond (.t 52) (.reg false [
  ⟨some 54, .mv (.t 8), none, [], true, []⟩,
  ⟨some 55, .mv (.t 9), none, [], true, []⟩,
  ⟨some 56, .bin .and (.t 54) (.t 55), none, [], true, []⟩,
  ⟨some 57, .mv (.t 8), none, [], true, []⟩,
  ⟨some 58, .un .xor (.t 57), none, [], true, []⟩,
  ⟨some 59, .mv (.t 10), none, [], true, []⟩,
  ⟨some 60, .bin .and (.t 58) (.t 59), none, [], true, []⟩,
  ⟨some 61, .bin .or (.t 56) (.t 60), none, [], true, []⟩,
  ⟨some 62, .mv (.t 11), none, [], true, []⟩,
  ⟨some 12, .mv (.t 61), none, [], true, []⟩,
  ⟨some 13, .mv (.t 62), none, [], true, []⟩]) (.seq (.reg false [
  ⟨some 64, .bin .eql (.t 42) (.c (.one (.v (.int .i64 1)))), none, [], true, []⟩,
  ⟨some 63, .mv (.t 64), none, [], true, []⟩]) (.cond (.t 63) (.reg false [
  ⟨some 65, .mv (.t 10), none, [], true, []⟩,
  ⟨some 66, .mv (.t 8), none, [], true, []⟩,
  ⟨some 67, .bin .and (.t 65) (.t 66), none, [], true, []⟩,
  ⟨some 68, .mv (.t 10), none, [], true, []⟩,
  ⟨some 69, .un .xor (.t 68), none, [], true, []⟩,
  ⟨some 70, .mv (.t 9), none, [], true, []⟩,
  ⟨some 71, .bin .and (.t 69) (.t 70), none, [], true, []⟩,
  ⟨some 72, .bin .or (.t 67) (.t 71), none, [], true, []⟩,
  ⟨some 73, .mv (.t 11), none, [], true, []⟩,
  ⟨some 74, .bin .mul (.c (.one (.v (.int .i64 5)))) (.t 73), none, [], true, []⟩,
  ⟨some 75, .bin .add (.t 74) (.c (.one (.v (.int .i64 1)))), none, [], true, []⟩,
  ⟨some 76, .bin .rem (.t 75) (.c (.one (.v (.int .i64 16)))), none, [], true, []⟩,
  ⟨some 12, .mv (.t 72), none, [], true, []⟩,
  ⟨some 13, .mv (.t 76), none, [], true, []⟩]) (.seq (.reg false [
  ⟨some 78, .bin .eql (.t 42) (.c (.one (.v (.int .i64 2)))), none, [], true, []⟩,
  ⟨some 77, .mv (.t 78), none, [], true, []⟩]) (.cond (.t 77) (.reg false [
  ⟨some 79, .mv (.t 8), none, [], true, []⟩,
  ⟨some 80, .mv (.t 9), none, [], true, []⟩,
  ⟨some 81, .bin .xor (.t 79) (.t 80), none, [], true, []⟩,
  ⟨some 82, .mv (.t 10), none, [], true, []⟩,
  ⟨some 83, .bin .xor (.t 81) (.t 82), none, [], true, []⟩,
  ⟨some 84, .mv (.t 11), none, [], true, []⟩,
  ⟨some 85, .bin .mul (.c (.one (.v (.int .i64 3)))) (.t 84), none, [], true, []⟩,
  ⟨some 86, .bin .add (.t 85) (.c (.one (.v (.int .i64 5)))), none, [], true, []⟩,
  ⟨some 87, .bin .rem (.t 86) (.c (.one (.v (.int .i64 16)))), none, [], true, []⟩,
  ⟨some 12, .mv (.t 83), none, [], true, []⟩,
  ⟨some 13, .mv (.t 87), none, [], true, []⟩]) (.reg false [
  ⟨some 43, .mv (.t 9), none, [], true, []⟩,
  ⟨some 44, .mv (.t 8), none, [], true, []⟩,
  ⟨some 45, .mv (.t 10), none, [], true, []⟩,
  ⟨some 46, .un .xor (.t 45), none, [], true, []⟩,
  ⟨some 47, .bin .or (.t 44) (.t 46), none, [], true, []⟩,
  ⟨some 48, .bin .xor (.t 43) (.t 47), none, [], true, []⟩,
  ⟨some 49, .mv (.t 11), none, [], true, []⟩,
  ⟨some 50, .bin .mul (.c (.one (.v (.int .i64 7)))) (.t 49), none, [], true, []⟩,
  ⟨some 51, .bin .rem (.t 50) (.c (.one (.v (.int .i64 16)))), none, [], true, []⟩,
  ⟨some 12, .mv (.t 48), none, [], true, []⟩,
  ⟨some 13, .mv (.t 51), none, [], true, []⟩]))))))))) (.seq (.reg true [
  ⟨some 88, .mv (.t 7), none, [], false, []⟩,
  ⟨some 89, .mv (.t 12), none, [], false, []⟩,
  ⟨some 90, .bin .add (.t 88) (.t 89), none, [0, 1], false, []⟩,
  ⟨some 91, .mv (.t 4), none, [], false, []⟩,
  ⟨some 92, .mv (.t 11), none, [], false, []⟩,
  ⟨some 93, .iad 1 (.t 91) (.t 92), none, [3, 4], false, []⟩,
  ⟨some 94, .load 1 false (.t 93), none, [5], true, []⟩,
  ⟨some 95, .bin .add (.t 90) (.t 94), none, [2, 6], false, []⟩,
  ⟨some 96, .mv (.t 5), none, [], false, []⟩,
  ⟨some 97, .mv (.t 6), none, [], false, []⟩,
  ⟨some 98, .mv (.t 13), none, [], false, []⟩,
  ⟨some 99, .bin .mul (.c (.one (.v (.int .i64 4)))) (.t 98), none, [10], false, []⟩,
  ⟨some 100, .bin .add (.t 97) (.t 99), none, [9, 11], false, []⟩,
  ⟨some 101, .mv (.t 6), none, [], false, []⟩,
  ⟨some 102, .mv (.t 13), none, [], false, []⟩,
  ⟨some 103, .bin .mul (.c (.one (.v (.int .i64 4)))) (.t 102), none, [14], false, []⟩,
  ⟨some 104, .bin .add (.t 101) (.t 103), none, [13, 15], false, []⟩,
  ⟨some 105, .bin .add (.t 104) (.c (.one (.v (.int .i64 4)))), none, [16], false, []⟩,
  ⟨some 106, .sll 1 (.t 96) (some (.t 100)) (some (.t 105)), none, [8, 12, 17], false, []⟩,
  ⟨some 107, .call 46 [.t 106, .c (.one (.v (.bool true)))], none, [18], false, []⟩,
  ⟨some 108, .bin .add (.t 95) (.t 107), none, [7, 19], false, []⟩,
  ⟨some 14, .mv (.t 108), none, [20, 19, 0, 1, 2, 3, 4, 5, 6, 7, 8, 9, 10, 11, 12, 13, 14, 15, 16, 17, 18, 19, 20], false, []⟩]) (.reg false [
  ⟨some 109, .mv (.t 10), none, [], true, []⟩,
  ⟨some 110, .mv (.t 9), none, [], true, []⟩,
  ⟨some 111, .mv (.t 8), none, [], true, []⟩,
  ⟨some 112, .mv (.t 8), none, [], true, []⟩,
  ⟨some 113, .mv (.t 14), none, [], true, []⟩,
  ⟨some 114, .mv (.t 11), none, [], true, []⟩,
  ⟨some 115, .call 48 [.t 114], none, [], true, []⟩,
  ⟨some 116, .call 47 [.t 113, .t 115], none, [], true, []⟩,
  ⟨some 117, .bin .add (.t 112) (.t 116), none, [], true, []⟩,
  ⟨some 7, .mv (.t 109), none, [], true, []⟩,
  ⟨some 10, .mv (.t 110), none, [], true, []⟩,
  ⟨some 9, .mv (.t 111), none, [], true, []⟩,
  ⟨some 8, .mv (.t 117), none, [], true, []⟩]))))) (.reg false [
  ⟨some 39, .mv (.t 11), none, [], true, []⟩,
  ⟨some 40, .bin .add (.t 39) (.c (.one (.v (.int .i64 1)))), none, [], true, []⟩,
  ⟨some 11, .mv (.t 40), none, [], true, []⟩])))))) (.reg true [
  ⟨some 118, .mv (.t 3), none, [], false, []⟩,
  ⟨some 119, .iad 1 (.t 118) (.c (.one (.v (.int .i64 0)))), none, [0], false, []⟩,
  ⟨some 120, .load 1 false (.t 119), none, [1], false, []⟩,
  ⟨some 121, .mv (.t 7), none, [], false, []⟩,
  ⟨some 122, .bin .add (.t 120) (.t 121), none, [2, 3], false, []⟩,
  ⟨some 123, .mv (.t 3), none, [], false, []⟩,
  ⟨some 124, .iad 1 (.t 123) (.c (.one (.v (.int .i64 1)))), none, [5], false, []⟩,
  ⟨some 125, .load 1 false (.t 124), none, [6], false, []⟩,
  ⟨some 126, .mv (.t 8), none, [], false, []⟩,
  ⟨some 127, .bin .add (.t 125) (.t 126), none, [7, 8], false, []⟩,
  ⟨some 128, .mv (.t 3), none, [], false, []⟩,
  ⟨some 129, .iad 1 (.t 128) (.c (.one (.v (.int .i64 2)))), none, [10], false, []⟩,
  ⟨some 130, .load 1 false (.t 129), none, [11], false, []⟩,
  ⟨some 131, .mv (.t 9), none, [], false, []⟩,
  ⟨some 132, .bin .add (.t 130) (.t 131), none, [12, 13], false, []⟩,
  ⟨some 133, .mv (.t 3), none, [], false, []⟩,
  ⟨some 134, .iad 1 (.t 133) (.c (.one (.v (.int .i64 3)))), none, [15], false, []⟩,
  ⟨some 135, .load 1 false (.t 134), none, [16], false, []⟩,
  ⟨some 136, .mv (.t 10), none, [], false, []⟩,
  ⟨some 137, .bin .add (.t 135) (.t 136), none, [17, 18], false, []⟩,
  ⟨some 138, .bsl 76 1 [.t 122, .t 127, .t 132, .t 137], none, [4, 9, 14, 19], false, []⟩,
  ⟨some 3, .mv (.t 138), none, [20, 0, 1, 2, 3, 4, 5, 6, 7, 8, 9, 10, 11, 12, 13, 14, 15, 16, 17, 18, 19, 20], false, []⟩])))) (.reg false [
  ⟨some 23, .mv (.t 6), none, [], true, []⟩,
  ⟨some 24, .bin .add (.t 23) (.c (.one (.v (.int .i64 64)))), none, [], true, []⟩,
  ⟨some 6, .mv (.t 24), none, [], true, []⟩])))))) (.seq (.reg false [
  ⟨some 139, .mv (.t 3), none, [], true, []⟩,
  ⟨some 140, .call 49 [.t 139, .c (.one (.v (.bool true)))], none, [], true, []⟩,
  ⟨some 2, .mv (.t 140), none, [], true, []⟩]) (.ret)))))), res := [.t 2] }
theorem F29_ok : mtF Tryd.prog 29 F29 = true := by kernel_rfl
/- wharf/session.Stop -/
def F30 : Fun := { n := 19, code := .seq (.reg false [
  ⟨some 2, .box 26 (.t 0), none, [], true, []⟩,
  ⟨some 4, .alloc 26 [.v (.int .i64 0), .v (.string ⟨#[]⟩), .v (.string ⟨#[]⟩), .v (.int .i64 0), .v (.int .i64 0), .v (.int .i64 0), .v (.int .i64 0), .v (.int .i64 0), .v (.int .i64 0)], none, [], true, []⟩,
  ⟨some 5, .alloc 29 [.sl .full 11 [], .v (.bool false), .sl .full 11 []], none, [], true, []⟩]) (.seq (.seq (.reg false [
  ⟨some 6, .load 9 true (.t 2), none, [], true, []⟩,
  ⟨some 7, .call 24 [.t 6], none, [], true, []⟩,
  ⟨some 8, .un .not (.t 7), none, [], true, []⟩]) (.cond (.t 8) (.seq (.reg false [
  ⟨some 9, .load 9 true (.t 2), none, [], true, []⟩,
  ⟨some 10, .build [.sl .full 11 [], .v (.bool false), .sl .full 11 []] [], none, [], true, []⟩,
  ⟨none, .store 9 (.t 4) (.t 9), none, [], true, []⟩,
  ⟨none, .store 3 (.t 5) (.t 10), none, [], true, []⟩]) (.ret)) (.skip))) (.seq (.reg false [
  ⟨some 11, .load 9 true (.t 2), none, [], true, []⟩,
  ⟨some 12, .mv (.t 1), none, [], true, []⟩,
  ⟨some 13, .call 25 [.t 11, .t 12], none, [], true, []⟩,
  ⟨some 14, .build [.v (.int .i64 0), .v (.string ⟨#[]⟩), .v (.string ⟨#[]⟩), .v (.string ⟨#[]⟩), .v (.int .i64 0), .v (.int .i64 0), .v (.int .i64 0), .v (.int .i64 0), .v (.bool false), .sl .full 6 [], .sl .full 1 []] [(0, 1, .c (.one (.v (.int .i64 3))))], none, [], true, []⟩,
  ⟨some 15, .bsl 37 11 [.t 14], none, [], true, []⟩,
  ⟨some 16, .call 26 [.t 13, .c (.one (.v (.int .i64 6))), .t 15], none, [], true, []⟩,
  ⟨some 17, .ext (.t 16) 0, none, [], true, []⟩,
  ⟨some 18, .ext (.t 16) 1, none, [], true, []⟩,
  ⟨none, .store 9 (.t 4) (.t 17), none, [], true, []⟩,
  ⟨none, .store 3 (.t 5) (.t 18), none, [], true, []⟩]) (.ret))), res := [.c 4 9 true, .c 5 3 true] }
theorem F30_ok : mtF Tryd.prog 30 F30 = true := by kernel_rfl
/- wharf/wharfref01.Signs -/
def F31 : Fun := { n := 31, code := .seq (.reg false [
  ⟨some 2, .mv (.c (.one (.sl .full 1 []))), none, [], true, []⟩,
  ⟨some 3, .mv (.c (.one (.v (.bool false)))), none, [], true, []⟩]) (.seq (.reg false [
  ⟨some 4, .mv (.c (.one (.sl .full 1 []))), none, [], true, []⟩]) (.seq (.block 0 (.loop (.seq (.seq (.reg false [
  ⟨some 8, .mv (.t 0), none, [], true, []⟩,
  ⟨some 9, .bin .neq (.t 8) (.c (.one (.v (.string ⟨#[]⟩)))), none, [], true, []⟩]) (.cond (.t 9) (.skip) (.exit 0))) (.block 1 (.seq (.reg false [
  ⟨some 11, .mv (.t 0), none, [], true, []⟩,
  ⟨some 12, .call 50 [.t 11], none, [], true, []⟩,
  ⟨some 10, .mv (.t 12), none, [], true, []⟩,
  ⟨some 13, .ext (.t 10) 0, none, [], true, []⟩,
  ⟨some 14, .ext (.t 10) 1, none, [], true, []⟩,
  ⟨some 15, .ext (.t 10) 2, none, [], true, []⟩,
  ⟨some 5, .mv (.t 13), none, [], true, []⟩,
  ⟨some 6, .mv (.t 14), none, [], true, []⟩,
  ⟨some 7, .mv (.t 15), none, [], true, []⟩]) (.seq (.seq (.reg false [
  ⟨some 16, .mv (.t 7), none, [], true, []⟩,
  ⟨some 17, .bin .neq (.t 16) (.c (.one (.v (.int .i64 0)))), none, [], true, []⟩,
  ⟨some 18, .mv (.t 17), none, [], true, []⟩,
  ⟨some 19, .mv (.t 5), some (18, false), [], true, []⟩,
  ⟨some 20, .call 51 [.t 19], some (18, false), [], true, []⟩,
  ⟨some 21, .un .not (.t 20), some (18, false), [], true, []⟩,
  ⟨some 22, .pick (.t 18) (.c (.one (.v (.bool true)))) (.t 21), none, [], true, []⟩]) (.cond (.t 22) (.seq (.reg false [
  ⟨some 2, .mv (.c (.one (.sl .full 1 []))), none, [], true, []⟩,
  ⟨some 3, .mv (.c (.one (.v (.bool false)))), none, [], true, []⟩]) (.ret)) (.skip))) (.seq (.reg false [
  ⟨some 23, .mv (.t 4), none, [], true, []⟩,
  ⟨some 24, .mv (.t 5), none, [], true, []⟩,
  ⟨some 25, .bsl 3 1 [.t 24], none, [], true, []⟩,
  ⟨some 26, .app 3 1 8 (.t 23) (.t 25), none, [], true, []⟩,
  ⟨some 4, .mv (.t 26), none, [], true, []⟩]) (.reg false [
  ⟨some 27, .mv (.t 0), none, [], true, []⟩,
  ⟨some 28, .mv (.t 6), none, [], true, []⟩,
  ⟨some 29, .sls (.t 27) (some (.t 28)) none, none, [], true, []⟩,
  ⟨some 0, .mv (.t 29), none, [], true, []⟩])))))))) (.seq (.reg false [
  ⟨some 30, .mv (.t 4), none, [], true, []⟩,
  ⟨some 2, .mv (.t 30), none, [], true, []⟩,
  ⟨some 3, .mv (.c (.one (.v (.bool true)))), none, [], true, []⟩]) (.ret)))), res := [.t 2, .t 3] }
theorem F31_ok : mtF Tryd.prog 31 F31 = true := by kernel_rfl
/- wharf/wharfref04.Is -/
def F32 : Fun := { n := 82, code := .seq (.reg false [
  ⟨some 2, .mv (.c (.one (.v (.bool false)))), none, [], true, []⟩]) (.seq (.seq (.reg false [
  ⟨some 5, .mv (.t 0), none, [], true, []⟩,
  ⟨some 6, .call 52 [.t 5], none, [], true, []⟩]) (.cond (.t 6) (.seq (.reg false [
  ⟨some 2, .mv (.c (.one (.v (.bool true)))), none, [], true, []⟩]) (.ret)) (.skip))) (.seq (.seq (.reg false [
  ⟨some 7, .mv (.t 0), none, [], true, []⟩,
  ⟨some 8, .call 53 [.t 7], none, [], true, []⟩,
  ⟨some 9, .len true (.t 8), none, [], true, []⟩,
  ⟨some 10, .bin .lss (.t 9) (.c (.one (.v (.int .i64 3)))), none, [], true, []⟩,
  ⟨some 11, .mv (.t 10), none, [], true, []⟩,
  ⟨some 12, .mv (.t 0), some (11, false), [], true, []⟩,
  ⟨some 13, .len true (.t 12), some (11, false), [], true, []⟩,
  ⟨some 14, .bin .gtr (.t 13) (.c (.one (.v (.int .i64 16)))), some (11, false), [], true, []⟩,
  ⟨some 15, .pick (.t 11) (.c (.one (.v (.bool true)))) (.t 14), none, [], true, []⟩,
  ⟨some 16, .mv (.t 15), none, [], true, []⟩,
  ⟨some 17, .mv (.t 0), some (16, false), [], true, []⟩,
  ⟨some 18, .idx (.t 17) (.c (.one (.v (.int .i64 0)))), some (16, false), [], true, []⟩,
  ⟨some 19, .call 54 [.t 18], some (16, false), [], true, []⟩,
  ⟨some 20, .un .not (.t 19), some (16, false), [], true, []⟩,
  ⟨some 21, .pick (.t 16) (.c (.one (.v (.bool true)))) (.t 20), none, [], true, []⟩,
  ⟨some 22, .mv (.t 21), none, [], true, []⟩,
  ⟨some 23, .mv (.t 0), some (22, false), [], true, []⟩,
  ⟨some 24, .mv (.t 0), some (22, false), [], true, []⟩,
  ⟨some 25, .len true (.t 24), some (22, false), [], true, []⟩,
  ⟨some 26, .bin .sub (.t 25) (.c (.one (.v (.int .i64 1)))), some (22, false), [], true, []⟩,
  ⟨some 27, .idx (.t 23) (.t 26), some (22, false), [], true, []⟩,
  ⟨some 28, .bin .eql (.t 27) (.c (.one (.v (.int .u8 32)))), some (22, false), [], true, []⟩,
  ⟨some 29, .pick (.t 22) (.c (.one (.v (.bool true)))) (.t 28), none, [], true, []⟩,
  ⟨some 30, .mv (.t 29), none, [], true, []⟩,
  ⟨some 31, .mv (.t 0), some (30, false), [], true, []⟩,
  ⟨some 32, .mv (.t 0), some (30, false), [], true, []⟩,
  ⟨some 33, .len true (.t 32), some (30, false), [], true, []⟩,
  ⟨some 34, .bin .sub (.t 33) (.c (.one (.v (.int .i64 1)))), some (30, false), [], true, []⟩,
  ⟨some 35, .idx (.t 31) (.t 34), some (30, false), [], true, []⟩,
  ⟨some 36, .bin .eql (.t 35) (.c (.one (.v (.int .u8 64)))), some (30, false), [], true, []⟩,
  ⟨some 37, .pick (.t 30) (.c (.one (.v (.bool true)))) (.t 36), none, [], true, []⟩]) (.cond (.t 37) (.seq (.reg false [
  ⟨some 2, .mv (.c (.one (.v (.bool false)))), none, [], true, []⟩]) (.ret)) (.skip))) (.seq (.reg false [
  ⟨some 3, .mv (.c (.one (.v (.int .i64 0)))), none, [], true, []⟩]) (.seq (.seq (.reg false [
  ⟨some 4, .mv (.c (.one (.v (.int .i64 0)))), none, [], true, []⟩]) (.block 0 (.loop (.seq (.seq (.reg false [
  ⟨some 38, .mv (.t 4), none, [], true, []⟩,
  ⟨some 39, .mv (.t 0), none, [], true, []⟩,
  ⟨some 40, .len true (.t 39), none, [], true, []⟩,
  ⟨some 41, .bin .lss (.t 38) (.t 40), none, [], true, []⟩]) (.cond (.t 41) (.skip) (.exit 0))) (.seq (.block 1 (.seq (.seq (.reg false [
  ⟨some 44, .mv (.t 0), none, [], true, []⟩,
  ⟨some 45, .mv (.t 4), none, [], true, []⟩,
  ⟨some 46, .idx (.t 44) (.t 45), none, [], true, []⟩,
  ⟨some 47, .call 54 [.t 46], none, [], true, []⟩,
  ⟨some 48, .un .not (.t 47), none, [], true, []⟩,
  ⟨some 49, .mv (.t 48), none, [], true, []⟩,
  ⟨some 50, .mv (.t 0), some (49, true), [], true, []⟩,
  ⟨some 51, .mv (.t 4), some (49, true), [], true, []⟩,
  ⟨some 52, .idx (.t 50) (.t 51), some (49, true), [], true, []⟩,
  ⟨some 53, .call 55 [.t 52], some (49, true), [], true, []⟩,
  ⟨some 54, .un .not (.t 53), some (49, true), [], true, []⟩,
  ⟨some 55, .pick (.t 49) (.t 54) (.c (.one (.v (.bool false)))), none, [], true, []⟩,
  ⟨some 56, .mv (.t 55), none, [], true, []⟩,
  ⟨some 57, .mv (.t 0), some (56, true), [], true, []⟩,
  ⟨some 58, .mv (.t 4), some (56, true), [], true, []⟩,
  ⟨some 59, .idx (.t 57) (.t 58), some (56, true), [], true, []⟩,
  ⟨some 60, .bin .neq (.t 59) (.c (.one (.v (.int .u8 32)))), some (56, true), [], true, []⟩,
  ⟨some 61, .pick (.t 56) (.t 60) (.c (.one (.v (.bool false)))), none, [], true, []⟩,
  ⟨some 62, .mv (.t 61), none, [], true, []⟩,
  ⟨some 63, .mv (.t 0), some (62, true), [], true, []⟩,
  ⟨some 64, .mv (.t 4), some (62, true), [], true, []⟩,
  ⟨some 65, .idx (.t 63) (.t 64), some (62, true), [], true, []⟩,
  ⟨some 66, .bin .neq (.t 65) (.c (.one (.v (.int .u8 46)))), some (62, true), [], true, []⟩,
  ⟨some 67, .pick (.t 62) (.t 66) (.c (.one (.v (.bool false)))), none, [], true, []⟩,
  ⟨some 68, .mv (.t 67), none, [], true, []⟩,
  ⟨some 69, .mv (.t 0), some (68, true), [], true, []⟩,
  ⟨some 70, .mv (.t 4), some (68, true), [], true, []⟩,
  ⟨some 71, .idx (.t 69) (.t 70), some (68, true), [], true, []⟩,
  ⟨some 72, .bin .neq (.t 71) (.c (.one (.v (.int .u8 64)))), some (68, true), [], true, []⟩,
  ⟨some 73, .pick (.t 68) (.t 72) (.c (.one (.v (.bool false)))), none, [], true, []⟩]) (.cond (.t 73) (.seq (.reg false [
  ⟨some 2, .mv (.c (.one (.v (.bool false)))), none, [], true, []⟩]) (.ret)) (.skip))) (.seq (.reg false [
  ⟨some 74, .mv (.t 0), none, [], true, []⟩,
  ⟨some 75, .mv (.t 4), none, [], true, []⟩,
  ⟨some 76, .idx (.t 74) (.t 75), none, [], true, []⟩,
  ⟨some 77, .bin .eql (.t 76) (.c (.one (.v (.int .u8 64)))), none, [], true, []⟩]) (.cond (.t 77) (.reg false [
  ⟨some 78, .mv (.t 3), none, [], true, []⟩,
  ⟨some 79, .bin .add (.t 78) (.c (.one (.v (.int .i64 1)))), none, [], true, []⟩,
  ⟨some 3, .mv (.t 79), none, [], true, []⟩]) (.skip))))) (.reg false [
  ⟨some 42, .mv (.t 4), none, [], true, []⟩,
  ⟨some 43, .bin .add (.t 42) (.c (.one (.v (.int .i64 1)))), none, [], true, []⟩,
  ⟨some 4, .mv (.t 43), none, [], true, []⟩])))))) (.seq (.reg false [
  ⟨some 80, .mv (.t 3), none, [], true, []⟩,
  ⟨some 81, .bin .leq (.t 80) (.c (.one (.v (.int .i64 1)))), none, [], true, []⟩,
  ⟨some 2, .mv (.t 81), none, [], true, []⟩]) (.ret)))))), res := [.t 2] }
theorem F32_ok : mtF Tryd.prog 32 F32 = true := by kernel_rfl
/- wharf/wharfref14.List -/
def F33 : Fun := { n := 27, code := .seq (.reg false [
  ⟨some 4, .mv (.c (.one (.v (.bool false)))), none, [], true, []⟩]) (.seq (.seq (.reg false [
  ⟨some 6, .mv (.t 0), none, [], true, []⟩,
  ⟨some 7, .len false (.t 6), none, [], true, []⟩,
  ⟨some 8, .mv (.t 1), none, [], true, []⟩,
  ⟨some 9, .len false (.t 8), none, [], true, []⟩,
  ⟨some 10, .bin .neq (.t 7) (.t 9), none, [], true, []⟩]) (.cond (.t 10) (.seq (.reg false [
  ⟨some 4, .mv (.c (.one (.v (.bool false)))), none, [], true, []⟩]) (.ret)) (.skip))) (.seq (.seq (.reg false [
  ⟨some 5, .mv (.c (.one (.v (.int .i64 0)))), none, [], true, []⟩]) (.block 0 (.loop (.seq (.seq (.reg false [
  ⟨some 11, .mv (.t 5), none, [], true, []⟩,
  ⟨some 12, .mv (.t 0), none, [], true, []⟩,
  ⟨some 13, .len false (.t 12), none, [], true, []⟩,
  ⟨some 14, .bin .lss (.t 11) (.t 13), none, [], true, []⟩]) (.cond (.t 14) (.skip) (.exit 0))) (.seq (.block 1 (.seq (.reg true [
  ⟨some 17, .mv (.t 0), none, [], false, []⟩,
  ⟨some 18, .mv (.t 5), none, [], false, []⟩,
  ⟨some 19, .iad 11 (.t 17) (.t 18), none, [0, 1], false, []⟩,
  ⟨some 20, .load 11 true (.t 19), none, [2], false, []⟩,
  ⟨some 21, .mv (.t 1), none, [], false, []⟩,
  ⟨some 22, .mv (.t 5), none, [], false, []⟩,
  ⟨some 23, .iad 11 (.t 21) (.t 22), none, [4, 5], false, []⟩,
  ⟨some 24, .load 11 true (.t 23), none, [6], false, []⟩,
  ⟨some 25, .call 56 [.t 20, .t 24], none, [3, 7], false, []⟩,
  ⟨some 26, .un .not (.t 25), none, [8], false, []⟩]) (.cond (.t 26) (.seq (.reg false [
  ⟨some 4, .mv (.c (.one (.v (.bool false)))), none, [], true, []⟩]) (.ret)) (.skip)))) (.reg false [
  ⟨some 15, .mv (.t 5), none, [], true, []⟩,
  ⟨some 16, .bin .add (.t 15) (.c (.one (.v (.int .i64 1)))), none, [], true, []⟩,
  ⟨some 5, .mv (.t 16), none, [], true, []⟩])))))) (.seq (.reg false [
  ⟨some 4, .mv (.c (.one (.v (.bool true)))), none, [], true, []⟩]) (.ret)))), res := [.t 4] }
theorem F33_ok : mtF Tryd.prog 33 F33 = true := by kernel_rfl
/- wharf/session.Sent -/
def F34 : Fun := { n := 7, code := .seq (.reg false [
  ⟨some 1, .box 26 (.t 0), none, [], true, []⟩,
  ⟨some 2, .alloc 26 [.v (.int .i64 0), .v (.string ⟨#[]⟩), .v (.string ⟨#[]⟩), .v (.int .i64 0), .v (.int .i64 0), .v (.int .i64 0), .v (.int .i64 0), .v (.int .i64 0), .v (.int .i64 0)], none, [], true, []⟩]) (.seq (.seq (.reg false [
  ⟨some 3, .load 9 true (.t 1), none, [], true, []⟩,
  ⟨some 4, .call 24 [.t 3], none, [], true, []⟩]) (.cond (.t 4) (.reg false [
  ⟨some 5, .fad 7 (.t 1), none, [], true, []⟩,
  ⟨none, .store 1 (.t 5) (.c (.one (.v (.int .i64 0)))), none, [], true, []⟩]) (.skip))) (.seq (.reg false [
  ⟨some 6, .load 9 true (.t 1), none, [], true, []⟩,
  ⟨none, .store 9 (.t 2) (.t 6), none, [], true, []⟩]) (.ret))), res := [.c 2 9 true] }
theorem F34_ok : mtF Tryd.prog 34 F34 = true := by kernel_rfl
/- wharf/wharfref15.Take -/
def F35 : Fun := { n := 142, code := .seq (.reg false [
  ⟨some 2, .box 26 (.t 0), none, [], true, []⟩,
  ⟨some 3, .box 37 (.t 1), none, [], true, []⟩,
  ⟨some 4, .alloc 26 [.v (.int .i64 0), .v (.string ⟨#[]⟩), .v (.string ⟨#[]⟩), .v (.int .i64 0), .v (.int .i64 0), .v (.int .i64 0), .v (.int .i64 0), .v (.int .i64 0), .v (.int .i64 0)], none, [], true, []⟩,
  ⟨some 5, .alloc 29 [.sl .full 11 [], .v (.bool false), .sl .full 11 []], none, [], true, []⟩]) (.seq (.seq (.reg false [
  ⟨some 7, .load 9 true (.t 2), none, [], true, []⟩,
  ⟨some 8, .call 57 [.t 7], none, [], true, []⟩,
  ⟨some 9, .un .not (.t 8), none, [], true, []⟩]) (.cond (.t 9) (.seq (.reg false [
  ⟨some 10, .load 9 true (.t 2), none, [], true, []⟩,
  ⟨some 11, .build [.sl .full 11 [], .v (.bool false), .sl .full 11 []] [], none, [], true, []⟩,
  ⟨none, .store 9 (.t 4) (.t 10), none, [], true, []⟩,
  ⟨none, .store 3 (.t 5) (.t 11), none, [], true, []⟩]) (.ret)) (.skip))) (.seq (.reg false [
  ⟨some 12, .fad 6 (.t 2), none, [], true, []⟩,
  ⟨none, .store 1 (.t 12) (.c (.one (.v (.int .i64 0)))), none, [], true, []⟩]) (.seq (.reg false [
  ⟨some 13, .build [.sl .full 11 [], .v (.bool false), .sl .full 11 []] [], none, [], true, []⟩,
  ⟨some 6, .alloc 29 [.sl .full 11 [], .v (.bool false), .sl .full 11 []], none, [], true, []⟩,
  ⟨none, .store 3 (.t 6) (.t 13), none, [], true, []⟩]) (.seq (.block 0 (.seq (.reg false [
  ⟨some 15, .fad 0 (.t 3), none, [], true, []⟩,
  ⟨some 16, .load 1 false (.t 15), none, [], true, []⟩,
  ⟨some 17, .bin .eql (.t 16) (.c (.one (.v (.int .i64 3)))), none, [], true, []⟩,
  ⟨some 14, .mv (.t 17), none, [], true, []⟩]) (.cond (.t 14) (.seq (.reg true [
  ⟨some 18, .fad 4 (.t 3), none, [], false, []⟩,
  ⟨some 19, .load 1 false (.t 18), none, [0], false, []⟩,
  ⟨some 20, .fad 0 (.t 2), none, [], false, []⟩,
  ⟨none, .store 1 (.t 20) (.c (.one (.v (.int .i64 6)))), none, [2], false, [1]⟩,
  ⟨some 21, .fad 8 (.t 2), none, [0, 1, 2, 3], false, []⟩,
  ⟨none, .store 1 (.t 21) (.t 19), none, [4, 1, 3, 0, 1, 2, 3], true, []⟩]) (.reg false [
  ⟨some 22, .load 11 true (.t 3), none, [], true, []⟩,
  ⟨some 23, .bsl 37 11 [.t 22], none, [], true, []⟩,
  ⟨some 24, .fad 2 (.t 6), none, [], true, []⟩,
  ⟨none, .store 1 (.t 24) (.t 23), none, [], true, []⟩])) (.seq (.reg false [
  ⟨some 26, .fad 0 (.t 3), none, [], true, []⟩,
  ⟨some 27, .load 1 false (.t 26), none, [], true, []⟩,
  ⟨some 28, .bin .eql (.t 27) (.c (.one (.v (.int .i64 6)))), none, [], true, []⟩,
  ⟨some 29, .mv (.t 28), none, [], true, []⟩,
  ⟨some 30, .fad 0 (.t 2), some (29, true), [], true, []⟩,
  ⟨some 31, .load 1 false (.t 30), some (29, true), [], true, []⟩,
  ⟨some 32, .bin .eql (.t 31) (.c (.one (.v (.int .i64 1)))), some (29, true), [], true, []⟩,
  ⟨some 33, .pick (.t 29) (.t 32) (.c (.one (.v (.bool false)))), none, [], true, []⟩,
  ⟨some 25, .mv (.t 33), none, [], true, []⟩]) (.cond (.t 25) (.seq (.reg false [
  ⟨some 34, .fad 0 (.t 2), none, [], true, []⟩,
  ⟨none, .store 1 (.t 34) (.c (.one (.v (.int .i64 2)))), none, [], true, []⟩]) (.reg true [
  ⟨some 35, .fad 1 (.t 2), none, [], false, []⟩,
  ⟨some 36, .load 1 false (.t 35), none, [0], false, []⟩,
  ⟨some 37, .fad 3 (.t 3), none, [], false, []⟩,
  ⟨some 38, .load 1 false (.t 37), none, [2], false, []⟩,
  ⟨some 39, .fad 2 (.t 2), none, [], false, []⟩,
  ⟨some 40, .load 1 false (.t 39), none, [4], false, []⟩,
  ⟨some 41, .call 11 [.t 38, .t 40], none, [3, 5], false, []⟩,
  ⟨some 42, .build [.v (.int .i64 0), .v (.string ⟨#[]⟩), .v (.string ⟨#[]⟩), .v (.string ⟨#[]⟩), .v (.int .i64 0), .v (.int .i64 0), .v (.int .i64 0), .v (.int .i64 0), .v (.bool false), .sl .full 6 [], .sl .full 1 []] [(0, 1, .c (.one (.v (.int .i64 7)))), (1, 1, .t 36), (3, 1, .t 41)], none, [1, 6], false, []⟩,
  ⟨some 43, .bsl 37 11 [.t 42], none, [7], false, []⟩,
  ⟨some 44, .fad 0 (.t 6), none, [0, 1, 2, 3, 4, 5, 6, 7, 8], false, []⟩,
  ⟨none, .store 1 (.t 44) (.t 43), none, [9, 8, 6, 0, 1, 2, 3, 4, 5, 6, 7, 8], true, []⟩])) (.seq (.reg true [
  ⟨some 46, .fad 0 (.t 3), none, [], false, []⟩,
  ⟨some 47, .load 1 false (.t 46), none, [0], true, []⟩,
  ⟨some 48, .bin .eql (.t 47) (.c (.one (.v (.int .i64 8)))), none, [1], false, []⟩,
  ⟨some 49, .mv (.t 48), none, [2], false, []⟩,
  ⟨some 50, .fad 0 (.t 2), some (49, true), [3], false, []⟩,
  ⟨some 51, .load 1 false (.t 50), some (49, true), [4, 3], true, []⟩,
  ⟨some 52, .bin .eql (.t 51) (.c (.one (.v (.int .i64 2)))), some (49, true), [5, 3], false, []⟩,
  ⟨some 53, .pick (.t 49) (.t 52) (.c (.one (.v (.bool false)))), none, [3, 6], false, []⟩,
  ⟨some 54, .mv (.t 53), none, [7, 3], false, []⟩,
  ⟨some 55, .fad 1 (.t 3), some (54, true), [8], false, []⟩,
  ⟨some 56, .load 1 false (.t 55), some (54, true), [9, 8], false, []⟩,
  ⟨some 57, .call 53 [.t 56], some (54, true), [10, 8, 8], false, []⟩,
  ⟨some 58, .fad 1 (.t 2), some (54, true), [8], false, []⟩,
  ⟨some 59, .load 1 false (.t 58), some (54, true), [12, 8], false, []⟩,
  ⟨some 60, .call 53 [.t 59], some (54, true), [13, 11, 8], false, []⟩,
  ⟨some 61, .bin .eql (.t 57) (.t 60), some (54, true), [11, 14, 8], false, []⟩,
  ⟨some 62, .pick (.t 54) (.t 61) (.c (.one (.v (.bool false)))), none, [8, 15], false, []⟩,
  ⟨some 45, .mv (.t 62), none, [16, 14], false, []⟩]) (.cond (.t 45) (.seq (.reg false [
  ⟨some 63, .fad 4 (.t 3), none, [], true, []⟩,
  ⟨some 64, .load 1 false (.t 63), none, [], true, []⟩,
  ⟨some 65, .bin .neq (.t 64) (.c (.one (.v (.int .i64 0)))), none, [], true, []⟩]) (.cond (.t 65) (.seq (.reg true [
  ⟨some 66, .fad 4 (.t 3), none, [], false, []⟩,
  ⟨some 67, .load 1 false (.t 66), none, [0], false, []⟩,
  ⟨some 68, .fad 0 (.t 2), none, [], false, []⟩,
  ⟨none, .store 1 (.t 68) (.c (.one (.v (.int .i64 6)))), none, [2], false, [1]⟩,
  ⟨some 69, .fad 8 (.t 2), none, [0, 1, 2, 3], false, []⟩,
  ⟨none, .store 1 (.t 69) (.t 67), none, [4, 1, 3, 0, 1, 2, 3], true, []⟩]) (.reg false [
  ⟨some 70, .fad 4 (.t 3), none, [], true, []⟩,
  ⟨some 71, .load 1 false (.t 70), none, [], true, []⟩,
  ⟨some 72, .build [.v (.int .i64 0), .v (.string ⟨#[]⟩), .v (.string ⟨#[]⟩), .v (.string ⟨#[]⟩), .v (.int .i64 0), .v (.int .i64 0), .v (.int .i64 0), .v (.int .i64 0), .v (.bool false), .sl .full 6 [], .sl .full 1 []] [(0, 1, .c (.one (.v (.int .i64 3)))), (4, 1, .t 71)], none, [], true, []⟩,
  ⟨some 73, .bsl 37 11 [.t 72], none, [], true, []⟩,
  ⟨some 74, .fad 2 (.t 6), none, [], true, []⟩,
  ⟨none, .store 1 (.t 74) (.t 73), none, [], true, []⟩])) (.seq (.reg false [
  ⟨some 75, .fad 0 (.t 2), none, [], true, []⟩,
  ⟨none, .store 1 (.t 75) (.c (.one (.v (.int .i64 3)))), none, [], true, []⟩]) (.seq (.reg false [
  ⟨some 76, .fad 3 (.t 3), none, [], true, []⟩,
  ⟨some 77, .load 1 false (.t 76), none, [], true, []⟩,
  ⟨some 78, .build [.v (.int .i64 0), .v (.string ⟨#[]⟩), .v (.string ⟨#[]⟩), .v (.string ⟨#[]⟩), .v (.int .i64 0), .v (.int .i64 0), .v (.int .i64 0), .v (.int .i64 0), .v (.bool false), .sl .full 6 [], .sl .full 1 []] [(0, 1, .c (.one (.v (.int .i64 2)))), (3, 1, .t 77)], none, [], true, []⟩,
  ⟨some 79, .bsl 37 11 [.t 78], none, [], true, []⟩,
  ⟨some 80, .fad 0 (.t 6), none, [], true, []⟩,
  ⟨none, .store 1 (.t 80) (.t 79), none, [], true, []⟩]) (.reg false [
  ⟨some 81, .fad 1 (.t 6), none, [], true, []⟩,
  ⟨none, .store 1 (.t 81) (.c (.one (.v (.bool true)))), none, [], true, []⟩]))))) (.seq (.reg false [
  ⟨some 83, .fad 0 (.t 3), none, [], true, []⟩,
  ⟨some 84, .load 1 false (.t 83), none, [], true, []⟩,
  ⟨some 85, .bin .eql (.t 84) (.c (.one (.v (.int .i64 9)))), none, [], true, []⟩,
  ⟨some 86, .mv (.t 85), none, [], true, []⟩,
  ⟨some 87, .fad 0 (.t 2), some (86, true), [], true, []⟩,
  ⟨some 88, .load 1 false (.t 87), some (86, true), [], true, []⟩,
  ⟨some 89, .bin .eql (.t 88) (.c (.one (.v (.int .i64 3)))), some (86, true), [], true, []⟩,
  ⟨some 90, .pick (.t 86) (.t 89) (.c (.one (.v (.bool false)))), none, [], true, []⟩,
  ⟨some 82, .mv (.t 90), none, [], true, []⟩]) (.cond (.t 82) (.seq (.reg false [
  ⟨some 91, .fad 0 (.t 2), none, [], true, []⟩,
  ⟨none, .store 1 (.t 91) (.c (.one (.v (.int .i64 4)))), none, [], true, []⟩]) (.reg false [
  ⟨some 92, .fad 4 (.t 2), none, [], true, []⟩,
  ⟨some 93, .load 1 false (.t 92), none, [], true, []⟩,
  ⟨some 94, .fad 5 (.t 2), none, [], true, []⟩,
  ⟨some 95, .load 1 false (.t 94), none, [], true, []⟩,
  ⟨some 96, .build [.v (.int .i64 0), .v (.string ⟨#[]⟩), .v (.string ⟨#[]⟩), .v (.string ⟨#[]⟩), .v (.int .i64 0), .v (.int .i64 0), .v (.int .i64 0), .v (.int .i64 0), .v (.bool false), .sl .full 6 [], .sl .full 1 []] [(0, 1, .c (.one (.v (.int .i64 17)))), (7, 1, .t 93), (4, 1, .t 95)], none, [], true, []⟩,
  ⟨some 97, .bsl 37 11 [.t 96], none, [], true, []⟩,
  ⟨some 98, .fad 0 (.t 6), none, [], true, []⟩,
  ⟨none, .store 1 (.t 98) (.t 97), none, [], true, []⟩])) (.seq (.reg false [
  ⟨some 100, .fad 0 (.t 3), none, [], true, []⟩,
  ⟨some 101, .load 1 false (.t 100), none, [], true, []⟩,
  ⟨some 102, .bin .eql (.t 101) (.c (.one (.v (.int .i64 18)))), none, [], true, []⟩,
  ⟨some 103, .mv (.t 102), none, [], true, []⟩,
  ⟨some 104, .fad 0 (.t 3), some (103, false), [], true, []⟩,
  ⟨some 105, .load 1 false (.t 104), some (103, false), [], true, []⟩,
  ⟨some 106, .bin .eql (.t 105) (.c (.one (.v (.int .i64 19)))), some (103, false), [], true, []⟩,
  ⟨some 107, .pick (.t 103) (.c (.one (.v (.bool true)))) (.t 106), none, [], true, []⟩,
  ⟨some 108, .mv (.t 107), none, [], true, []⟩,
  ⟨some 109, .fad 0 (.t 2), some (108, true), [], true, []⟩,
  ⟨some 110, .load 1 false (.t 109), some (108, true), [], true, []⟩,
  ⟨some 111, .bin .eql (.t 110) (.c (.one (.v (.int .i64 4)))), some (108, true), [], true, []⟩,
  ⟨some 112, .pick (.t 108) (.t 111) (.c (.one (.v (.bool false)))), none, [], true, []⟩,
  ⟨some 99, .mv (.t 112), none, [], true, []⟩]) (.cond (.t 99) (.seq (.reg false [
  ⟨some 113, .fad 0 (.t 2), none, [], true, []⟩,
  ⟨none, .store 1 (.t 113) (.c (.one (.v (.int .i64 5)))), none, [], true, []⟩]) (.seq (.reg false [
  ⟨some 114, .build [.v (.int .i64 0), .v (.string ⟨#[]⟩), .v (.string ⟨#[]⟩), .v (.string ⟨#[]⟩), .v (.int .i64 0), .v (.int .i64 0), .v (.int .i64 0), .v (.int .i64 0), .v (.bool false), .sl .full 6 [], .sl .full 1 []] [(0, 1, .c (.one (.v (.int .i64 10))))], none, [], true, []⟩,
  ⟨some 115, .fad 3 (.t 2), none, [], true, []⟩,
  ⟨some 116, .load 1 false (.t 115), none, [], true, []⟩,
  ⟨some 117, .build [.v (.int .i64 0), .v (.string ⟨#[]⟩), .v (.string ⟨#[]⟩), .v (.string ⟨#[]⟩), .v (.int .i64 0), .v (.int .i64 0), .v (.int .i64 0), .v (.int .i64 0), .v (.bool false), .sl .full 6 [], .sl .full 1 []] [(0, 1, .c (.one (.v (.int .i64 11)))), (5, 1, .t 116)], none, [], true, []⟩,
  ⟨some 118, .bsl 37 11 [.t 114, .t 117], none, [], true, []⟩,
  ⟨some 119, .fad 0 (.t 6), none, [], true, []⟩,
  ⟨none, .store 1 (.t 119) (.t 118), none, [], true, []⟩]) (.reg false [
  ⟨some 120, .load 11 true (.t 3), none, [], true, []⟩,
  ⟨some 121, .bsl 37 11 [.t 120], none, [], true, []⟩,
  ⟨some 122, .fad 2 (.t 6), none, [], true, []⟩,
  ⟨none, .store 1 (.t 122) (.t 121), none, [], true, []⟩]))) (.seq (.reg false [
  ⟨some 124, .fad 0 (.t 2), none, [], true, []⟩,
  ⟨some 125, .load 1 false (.t 124), none, [], true, []⟩,
  ⟨some 126, .bin .eql (.t 125) (.c (.one (.v (.int .i64 5)))), none, [], true, []⟩,
  ⟨some 127, .mv (.t 126), none, [], true, []⟩,
  ⟨some 128, .fad 0 (.t 3), some (127, true), [], true, []⟩,
  ⟨some 129, .load 1 false (.t 128), some (127, true), [], true, []⟩,
  ⟨some 130, .call 58 [.t 129], some (127, true), [], true, []⟩,
  ⟨some 131, .pick (.t 127) (.t 130) (.c (.one (.v (.bool false)))), none, [], true, []⟩,
  ⟨some 123, .mv (.t 131), none, [], true, []⟩]) (.cond (.t 123) (.reg false [
  ⟨some 132, .load 11 true (.t 3), none, [], true, []⟩,
  ⟨some 133, .bsl 37 11 [.t 132], none, [], true, []⟩,
  ⟨some 134, .fad 2 (.t 6), none, [], true, []⟩,
  ⟨none, .store 1 (.t 134) (.t 133), none, [], true, []⟩]) (.skip)))))))))))))) (.seq (.seq (.reg false [
  ⟨some 135, .fad 0 (.t 6), none, [], true, []⟩,
  ⟨some 136, .load 1 false (.t 135), none, [], true, []⟩,
  ⟨some 137, .len false (.t 136), none, [], true, []⟩,
  ⟨some 138, .bin .gtr (.t 137) (.c (.one (.v (.int .i64 0)))), none, [], true, []⟩]) (.cond (.t 138) (.reg false [
  ⟨some 139, .fad 7 (.t 2), none, [], true, []⟩,
  ⟨none, .store 1 (.t 139) (.c (.one (.v (.int .i64 0)))), none, [], true, []⟩]) (.skip))) (.seq (.reg true [
  ⟨some 140, .load 9 true (.t 2), none, [], false, []⟩,
  ⟨some 141, .load 3 true (.t 6), none, [], false, []⟩,
  ⟨none, .store 9 (.t 4) (.t 140), none, [0, 0], false, [1]⟩,
  ⟨none, .store 3 (.t 5) (.t 141), none, [1, 2, 0, 1, 2], true, []⟩]) (.ret))))))), res := [.c 4 9 true, .c 5 3 true] }
theorem F35_ok : mtF Tryd.prog 35 F35 = true := by kernel_rfl
/- wharf/wharfref15.Tick -/
def F36 : Fun := { n := 44, code := .seq (.reg false [
  ⟨some 1, .box 26 (.t 0), none, [], true, []⟩,
  ⟨some 2, .alloc 26 [.v (.int .i64 0), .v (.string ⟨#[]⟩), .v (.string ⟨#[]⟩), .v (.int .i64 0), .v (.int .i64 0), .v (.int .i64 0), .v (.int .i64 0), .v (.int .i64 0), .v (.int .i64 0)], none, [], true, []⟩,
  ⟨some 3, .alloc 29 [.sl .full 11 [], .v (.bool false), .sl .full 11 []], none, [], true, []⟩]) (.seq (.seq (.reg false [
  ⟨some 4, .load 9 true (.t 1), none, [], true, []⟩,
  ⟨some 5, .call 57 [.t 4], none, [], true, []⟩,
  ⟨some 6, .un .not (.t 5), none, [], true, []⟩]) (.cond (.t 6) (.seq (.reg false [
  ⟨some 7, .load 9 true (.t 1), none, [], true, []⟩,
  ⟨some 8, .build [.sl .full 11 [], .v (.bool false), .sl .full 11 []] [], none, [], true, []⟩,
  ⟨none, .store 9 (.t 2) (.t 7), none, [], true, []⟩,
  ⟨none, .store 3 (.t 3) (.t 8), none, [], true, []⟩]) (.ret)) (.skip))) (.seq (.reg false [
  ⟨some 9, .fad 6 (.t 1), none, [], true, []⟩,
  ⟨some 10, .load 1 false (.t 9), none, [], true, []⟩,
  ⟨some 11, .bin .add (.t 10) (.c (.one (.v (.int .i64 1)))), none, [], true, []⟩,
  ⟨some 12, .fad 6 (.t 1), none, [], true, []⟩,
  ⟨none, .store 1 (.t 12) (.t 11), none, [], true, []⟩]) (.seq (.reg false [
  ⟨some 13, .fad 7 (.t 1), none, [], true, []⟩,
  ⟨some 14, .load 1 false (.t 13), none, [], true, []⟩,
  ⟨some 15, .bin .add (.t 14) (.c (.one (.v (.int .i64 1)))), none, [], true, []⟩,
  ⟨some 16, .fad 7 (.t 1), none, [], true, []⟩,
  ⟨none, .store 1 (.t 16) (.t 15), none, [], true, []⟩]) (.seq (.seq (.reg false [
  ⟨some 17, .fad 6 (.t 1), none, [], true, []⟩,
  ⟨some 18, .load 1 false (.t 17), none, [], true, []⟩,
  ⟨some 19, .bin .geq (.t 18) (.c (.one (.v (.int .i64 90)))), none, [], true, []⟩]) (.cond (.t 19) (.seq (.reg false [
  ⟨some 20, .fad 0 (.t 1), none, [], true, []⟩,
  ⟨none, .store 1 (.t 20) (.c (.one (.v (.int .i64 6)))), none, [], true, []⟩,
  ⟨some 21, .fad 8 (.t 1), none, [], true, []⟩,
  ⟨none, .store 1 (.t 21) (.c (.one (.v (.int .i64 200)))), none, [], true, []⟩,
  ⟨some 22, .fad 7 (.t 1), none, [], true, []⟩,
  ⟨none, .store 1 (.t 22) (.c (.one (.v (.int .i64 0)))), none, [], true, []⟩]) (.seq (.reg false [
  ⟨some 23, .load 9 true (.t 1), none, [], true, []⟩,
  ⟨some 24, .build [.v (.int .i64 0), .v (.string ⟨#[]⟩), .v (.string ⟨#[]⟩), .v (.string ⟨#[]⟩), .v (.int .i64 0), .v (.int .i64 0), .v (.int .i64 0), .v (.int .i64 0), .v (.bool false), .sl .full 6 [], .sl .full 1 []] [(0, 1, .c (.one (.v (.int .i64 3))))], none, [], true, []⟩,
  ⟨some 25, .bsl 37 11 [.t 24], none, [], true, []⟩,
  ⟨some 26, .build [.v (.int .i64 0), .v (.string ⟨#[]⟩), .v (.string ⟨#[]⟩), .v (.string ⟨#[]⟩), .v (.int .i64 0), .v (.int .i64 0), .v (.int .i64 0), .v (.int .i64 0), .v (.bool false), .sl .full 6 [], .sl .full 1 []] [(0, 1, .c (.one (.v (.int .i64 3)))), (4, 1, .c (.one (.v (.int .i64 200))))], none, [], true, []⟩,
  ⟨some 27, .bsl 37 11 [.t 26], none, [], true, []⟩,
  ⟨some 28, .build [.sl .full 11 [], .v (.bool false), .sl .full 11 []] [(0, 1, .t 25), (2, 1, .t 27)], none, [], true, []⟩,
  ⟨none, .store 9 (.t 2) (.t 23), none, [], true, []⟩,
  ⟨none, .store 3 (.t 3) (.t 28), none, [], true, []⟩]) (.ret))) (.skip))) (.seq (.seq (.reg false [
  ⟨some 29, .fad 7 (.t 1), none, [], true, []⟩,
  ⟨some 30, .load 1 false (.t 29), none, [], true, []⟩,
  ⟨some 31, .bin .geq (.t 30) (.c (.one (.v (.int .i64 30)))), none, [], true, []⟩,
  ⟨some 32, .mv (.t 31), none, [], true, []⟩,
  ⟨some 33, .fad 0 (.t 1), some (32, true), [], true, []⟩,
  ⟨some 34, .load 1 false (.t 33), some (32, true), [], true, []⟩,
  ⟨some 35, .bin .eql (.t 34) (.c (.one (.v (.int .i64 5)))), some (32, true), [], true, []⟩,
  ⟨some 36, .pick (.t 32) (.t 35) (.c (.one (.v (.bool false)))), none, [], true, []⟩]) (.cond (.t 36) (.seq (.reg false [
  ⟨some 37, .fad 7 (.t 1), none, [], true, []⟩,
  ⟨none, .store 1 (.t 37) (.c (.one (.v (.int .i64 0)))), none, [], true, []⟩]) (.seq (.reg false [
  ⟨some 38, .load 9 true (.t 1), none, [], true, []⟩,
  ⟨some 39, .build [.v (.int .i64 0), .v (.string ⟨#[]⟩), .v (.string ⟨#[]⟩), .v (.string ⟨#[]⟩), .v (.int .i64 0), .v (.int .i64 0), .v (.int .i64 0), .v (.int .i64 0), .v (.bool false), .sl .full 6 [], .sl .full 1 []] [(0, 1, .c (.one (.v (.int .i64 4))))], none, [], true, []⟩,
  ⟨some 40, .bsl 37 11 [.t 39], none, [], true, []⟩,
  ⟨some 41, .build [.sl .full 11 [], .v (.bool false), .sl .full 11 []] [(0, 1, .t 40)], none, [], true, []⟩,
  ⟨none, .store 9 (.t 2) (.t 38), none, [], true, []⟩,
  ⟨none, .store 3 (.t 3) (.t 41), none, [], true, []⟩]) (.ret))) (.skip))) (.seq (.reg false [
  ⟨some 42, .load 9 true (.t 1), none, [], true, []⟩,
  ⟨some 43, .build [.sl .full 11 [], .v (.bool false), .sl .full 11 []] [], none, [], true, []⟩,
  ⟨none, .store 9 (.t 2) (.t 42), none, [], true, []⟩,
  ⟨none, .store 3 (.t 3) (.t 43), none, [], true, []⟩]) (.ret))))))), res := [.c 2 9 true, .c 3 3 true] }
theorem F36_ok : mtF Tryd.prog 36 F36 = true := by kernel_rfl
/- wharf/wharfref15.Stop -/
def F37 : Fun := { n := 19, code := .seq (.reg false [
  ⟨some 2, .box 26 (.t 0), none, [], true, []⟩,
  ⟨some 4, .alloc 26 [.v (.int .i64 0), .v (.string ⟨#[]⟩), .v (.string ⟨#[]⟩), .v (.int .i64 0), .v (.int .i64 0), .v (.int .i64 0), .v (.int .i64 0), .v (.int .i64 0), .v (.int .i64 0)], none, [], true, []⟩,
  ⟨some 5, .alloc 29 [.sl .full 11 [], .v (.bool false), .sl .full 11 []], none, [], true, []⟩]) (.seq (.seq (.reg false [
  ⟨some 6, .load 9 true (.t 2), none, [], true, []⟩,
  ⟨some 7, .call 57 [.t 6], none, [], true, []⟩,
  ⟨some 8, .un .not (.t 7), none, [], true, []⟩]) (.cond (.t 8) (.seq (.reg false [
  ⟨some 9, .load 9 true (.t 2), none, [], true, []⟩,
  ⟨some 10, .build [.sl .full 11 [], .v (.bool false), .sl .full 11 []] [], none, [], true, []⟩,
  ⟨none, .store 9 (.t 4) (.t 9), none, [], true, []⟩,
  ⟨none, .store 3 (.t 5) (.t 10), none, [], true, []⟩]) (.ret)) (.skip))) (.seq (.reg false [
  ⟨some 11, .mv (.t 1), none, [], true, []⟩,
  ⟨some 12, .fad 0 (.t 2), none, [], true, []⟩,
  ⟨none, .store 1 (.t 12) (.c (.one (.v (.int .i64 6)))), none, [], true, []⟩,
  ⟨some 13, .fad 8 (.t 2), none, [], true, []⟩,
  ⟨none, .store 1 (.t 13) (.t 11), none, [], true, []⟩,
  ⟨some 14, .fad 7 (.t 2), none, [], true, []⟩,
  ⟨none, .store 1 (.t 14) (.c (.one (.v (.int .i64 0)))), none, [], true, []⟩]) (.seq (.reg false [
  ⟨some 15, .load 9 true (.t 2), none, [], true, []⟩,
  ⟨some 16, .build [.v (.int .i64 0), .v (.string ⟨#[]⟩), .v (.string ⟨#[]⟩), .v (.string ⟨#[]⟩), .v (.int .i64 0), .v (.int .i64 0), .v (.int .i64 0), .v (.int .i64 0), .v (.bool false), .sl .full 6 [], .sl .full 1 []] [(0, 1, .c (.one (.v (.int .i64 3))))], none, [], true, []⟩,
  ⟨some 17, .bsl 37 11 [.t 16], none, [], true, []⟩,
  ⟨some 18, .build [.sl .full 11 [], .v (.bool false), .sl .full 11 []] [(0, 1, .t 17)], none, [], true, []⟩,
  ⟨none, .store 9 (.t 4) (.t 15), none, [], true, []⟩,
  ⟨none, .store 3 (.t 5) (.t 18), none, [], true, []⟩]) (.ret)))), res := [.c 4 9 true, .c 5 3 true] }
theorem F37_ok : mtF Tryd.prog 37 F37 = true := by kernel_rfl
/- wharf/wharfref15.Sent -/
def F38 : Fun := { n := 7, code := .seq (.reg false [
  ⟨some 1, .box 26 (.t 0), none, [], true, []⟩,
  ⟨some 2, .alloc 26 [.v (.int .i64 0), .v (.string ⟨#[]⟩), .v (.string ⟨#[]⟩), .v (.int .i64 0), .v (.int .i64 0), .v (.int .i64 0), .v (.int .i64 0), .v (.int .i64 0), .v (.int .i64 0)], none, [], true, []⟩]) (.seq (.seq (.reg false [
  ⟨some 3, .load 9 true (.t 1), none, [], true, []⟩,
  ⟨some 4, .call 57 [.t 3], none, [], true, []⟩]) (.cond (.t 4) (.reg false [
  ⟨some 5, .fad 7 (.t 1), none, [], true, []⟩,
  ⟨none, .store 1 (.t 5) (.c (.one (.v (.int .i64 0)))), none, [], true, []⟩]) (.skip))) (.seq (.reg false [
  ⟨some 6, .load 9 true (.t 1), none, [], true, []⟩,
  ⟨none, .store 9 (.t 2) (.t 6), none, [], true, []⟩]) (.ret))), res := [.c 2 9 true] }
theorem F38_ok : mtF Tryd.prog 38 F38 = true := by kernel_rfl
/- wharf/glyph.Check -/
def F39 : Fun := { n := 11, code := .seq (.reg false [
  ⟨some 2, .mv (.c (.one (.v (.int .i64 0)))), none, [], true, []⟩]) (.seq (.reg false [
  ⟨some 6, .mv (.t 0), none, [], true, []⟩,
  ⟨some 7, .call 59 [.t 6], none, [], true, []⟩,
  ⟨some 5, .mv (.t 7), none, [], true, []⟩,
  ⟨some 8, .ext (.t 5) 0, none, [], true, []⟩,
  ⟨some 9, .ext (.t 5) 1, none, [], true, []⟩,
  ⟨some 3, .mv (.t 8), none, [], true, []⟩,
  ⟨some 4, .mv (.t 9), none, [], true, []⟩]) (.seq (.reg false [
  ⟨some 10, .mv (.t 4), none, [], true, []⟩,
  ⟨some 2, .mv (.t 10), none, [], true, []⟩]) (.ret))), res := [.t 2] }
theorem F39_ok : mtF Tryd.prog 39 F39 = true := by kernel_rfl
/- wharf/handle.Check -/
def F40 : Fun := { n := 9, code := .seq (.reg false [
  ⟨some 2, .mv (.c (.one (.v (.int .i64 0)))), none, [], true, []⟩]) (.seq (.seq (.reg false [
  ⟨some 3, .mv (.t 0), none, [], true, []⟩,
  ⟨some 4, .call 60 [.t 3], none, [], true, []⟩,
  ⟨some 5, .mv (.t 4), none, [], true, []⟩,
  ⟨some 6, .mv (.t 0), some (5, false), [], true, []⟩,
  ⟨some 7, .call 61 [.t 6], some (5, false), [], true, []⟩,
  ⟨some 8, .pick (.t 5) (.c (.one (.v (.bool true)))) (.t 7), none, [], true, []⟩]) (.cond (.t 8) (.seq (.reg false [
  ⟨some 2, .mv (.c (.one (.v (.int .i64 0)))), none, [], true, []⟩]) (.ret)) (.skip))) (.seq (.reg false [
  ⟨some 2, .mv (.c (.one (.v (.int .i64 40)))), none, [], true, []⟩]) (.ret))), res := [.t 2] }
theorem F40_ok : mtF Tryd.prog 40 F40 = true := by kernel_rfl
/- wharf/session.isTwo -/
def F41 : Fun := { n := 9, code := .seq (.reg false [
  ⟨some 2, .mv (.c (.one (.v (.bool false)))), none, [], true, []⟩]) (.seq (.reg false [
  ⟨some 3, .mv (.t 0), none, [], true, []⟩,
  ⟨some 4, .bin .geq (.t 3) (.c (.one (.v (.int .i64 0)))), none, [], true, []⟩,
  ⟨some 5, .mv (.t 4), none, [], true, []⟩,
  ⟨some 6, .mv (.t 0), some (5, true), [], true, []⟩,
  ⟨some 7, .bin .leq (.t 6) (.c (.one (.v (.int .i64 65535)))), some (5, true), [], true, []⟩,
  ⟨some 8, .pick (.t 5) (.t 7) (.c (.one (.v (.bool false)))), none, [], true, []⟩,
  ⟨some 2, .mv (.t 8), none, [], true, []⟩]) (.ret)), res := [.t 2] }
theorem F41_ok : mtF Tryd.prog 41 F41 = true := by kernel_rfl
/- wharf/digest.Md5 -/
def F42 : Fun := { n := 30, code := .seq (.reg false [
  ⟨some 2, .mv (.c (.one (.v (.string ⟨#[]⟩)))), none, [], true, []⟩]) (.seq (.regp [
  .k (some 9) (.bda [.v (.int .u32 0), .v (.int .u32 0), .v (.int .u32 0), .v (.int .u32 0)] [(0, 1, .c (.one (.v (.int .u32 1732584193)))), (1, 1, .c (.one (.v (.int .u32 4023233417)))), (2, 1, .c (.one (.v (.int .u32 2562383102)))), (3, 1, .c (.one (.v (.int .u32 271733878))))]),
  .r ⟨some 3, .alloc 92 [.v (.int .u32 0), .v (.int .u32 0), .v (.int .u32 0), .v (.int .u32 0)], none, [], true, []⟩,
  .r ⟨none, .store 4 (.t 3) (.t 9), none, [], true, []⟩]) (.seq (.reg false [
  ⟨some 10, .call 62 [], none, [], true, []⟩,
  ⟨some 4, .alloc 93 [.v (.int .u32 0), .v (.int .u32 0), .v (.int .u32 0), .v (.int .u32 0), .v (.int .u32 0), .v (.int .u32 0), .v (.int .u32 0), .v (.int .u32 0), .v (.int .u32 0), .v (.int .u32 0), .v (.int .u32 0), .v (.int .u32 0), .v (.int .u32 0), .v (.int .u32 0), .v (.int .u32 0), .v (.int .u32 0), .v (.int .u32 0), .v (.int .u32 0), .v (.int .u32 0), .v (.int .u32 0), .v (.int .u32 0), .v (.int .u32 0), .v (.int .u32 0), .v (.int .u32 0), .v (.int .u32 0), .v (.int .u32 0), .v (.int .u32 0), .v (.int .u32 0), .v (.int .u32 0), .v (.int .u32 0), .v (.int .u32 0), .v (.int .u32 0), .v (.int .u32 0), .v (.int .u32 0), .v (.int .u32 0), .v (.int .u32 0), .v (.int .u32 0), .v (.int .u32 0), .v (.int .u32 0), .v (.int .u32 0), .v (.int .u32 0), .v (.int .u32 0), .v (.int .u32 0), .v (.int .u32 0), .v (.int .u32 0), .v (.int .u32 0), .v (.int .u32 0), .v (.int .u32 0), .v (.int .u32 0), .v (.int .u32 0), .v (.int .u32 0), .v (.int .u32 0), .v (.int .u32 0), .v (.int .u32 0), .v (.int .u32 0), .v (.int .u32 0), .v (.int .u32 0), .v (.int .u32 0), .v (.int .u32 0), .v (.int .u32 0), .v (.int .u32 0), .v (.int .u32 0), .v (.int .u32 0), .v (.int .u32 0)], none, [], true, []⟩,
  ⟨none, .store 64 (.t 4) (.t 10), none, [], true, []⟩]) (.seq (.seq (.reg false [
  ⟨some 11, .mv (.t 0), none, [], true, []⟩,
  ⟨some 12, .call 63 [.t 11, .c (.one (.v (.bool true)))], none, [], true, []⟩,
  ⟨some 5, .mv (.t 12), none, [], true, []⟩]) (.block 0 (.loop (.seq (.seq (.reg false [
  ⟨some 13, .mv (.t 5), none, [], true, []⟩,
  ⟨some 14, .len false (.t 13), none, [], true, []⟩,
  ⟨some 15, .bin .gtr (.t 14) (.c (.one (.v (.int .i64 0)))), none, [], true, []⟩]) (.cond (.t 15) (.skip) (.exit 0))) (.seq (.block 1 (.regp [
  .r ⟨some 18, .mv (.t 5), none, [], true, []⟩,
  .p (some 19) 64 [.t 3, .t 18, .t 4]])) (.reg false [
  ⟨some 16, .mv (.t 5), none, [], true, []⟩,
  ⟨some 17, .sll 1 (.t 16) (some (.c (.one (.v (.int .i64 64))))) none, none, [], true, []⟩,
  ⟨some 5, .mv (.t 17), none, [], true, []⟩])))))) (.seq (.reg false [
  ⟨some 6, .mv (.c (.one (.sl .full 1 []))), none, [], true, []⟩]) (.seq (.seq (.reg false [
  ⟨some 20, .load 4 true (.t 3), none, [], true, []⟩,
  ⟨some 21, .mv (.c (.one (.v (.int .i64 0)))), none, [], true, []⟩]) (.block 2 (.loop (.seq (.reg false [
  ⟨some 22, .bin .lss (.t 21) (.c (.one (.v (.int .i64 4)))), none, [], true, []⟩]) (.seq (.cond (.t 22) (.skip) (.exit 2)) (.seq (.block 3 (.seq (.regp [
  .k (some 23) (.ixa 4 (.t 20) (.t 21)),
  .r ⟨some 8, .mv (.t 23), none, [], true, []⟩]) (.regp [
  .r ⟨some 24, .mv (.t 6), none, [], true, []⟩,
  .r ⟨some 25, .mv (.t 8), none, [], true, []⟩,
  .t (some 26) 65 5 (.t 24) [.t 25, .c (.one (.v (.bool true)))],
  .r ⟨some 6, .mv (.t 26), none, [], true, []⟩]))) (.reg false [
  ⟨some 27, .bin .add (.t 21) (.c (.one (.v (.int .i64 1)))), none, [], true, []⟩,
  ⟨some 21, .mv (.t 27), none, [], true, []⟩]))))))) (.seq (.reg false [
  ⟨some 28, .mv (.t 6), none, [], true, []⟩,
  ⟨some 29, .cvs (.t 28), none, [], true, []⟩,
  ⟨some 2, .mv (.t 29), none, [], true, []⟩]) (.ret))))))), res := [.t 2] }
theorem F42_ok : mtF Tryd.prog 42 F42 = true := by kernel_rfl
/- wharf/handle.Norm -/
def F43 : Fun := { n := 6, code := .seq (.reg false [
  ⟨some 2, .mv (.c (.one (.v (.string ⟨#[]⟩)))), none, [], true, []⟩]) (.seq (.reg false [
  ⟨some 3, .mv (.t 0), none, [], true, []⟩,
  ⟨some 4, .call 67 [.t 3], none, [], true, []⟩,
  ⟨some 5, .call 66 [.t 4, .c (.one (.v (.string ⟨#[32]⟩))), .c (.one (.v (.string ⟨#[]⟩)))], none, [], true, []⟩,
  ⟨some 2, .mv (.t 5), none, [], true, []⟩]) (.ret)), res := [.t 2] }
theorem F43_ok : mtF Tryd.prog 43 F43 = true := by kernel_rfl
/- wharf/wharfref07.table -/
def F44 : Fun := { n := 2, code := .seq (.reg false [
  ⟨some 0, .mv (.c (.one (.sl .full 1 []))), none, [], true, []⟩]) (.seq (.reg false [
  ⟨some 1, .bsl 76 1 [.c (.one (.v (.int .u32 3614090360))), .c (.one (.v (.int .u32 3905402710))), .c (.one (.v (.int .u32 606105819))), .c (.one (.v (.int .u32 3250441966))), .c (.one (.v (.int .u32 4118548399))), .c (.one (.v (.int .u32 1200080426))), .c (.one (.v (.int .u32 2821735955))), .c (.one (.v (.int .u32 4249261313))), .c (.one (.v (.int .u32 1770035416))), .c (.one (.v (.int .u32 2336552879))), .c (.one (.v (.int .u32 4294925233))), .c (.one (.v (.int .u32 2304563134))), .c (.one (.v (.int .u32 1804603682))), .c (.one (.v (.int .u32 4254626195))), .c (.one (.v (.int .u32 2792965006))), .c (.one (.v (.int .u32 1236535329))), .c (.one (.v (.int .u32 4129170786))), .c (.one (.v (.int .u32 3225465664))), .c (.one (.v (.int .u32 643717713))), .c (.one (.v (.int .u32 3921069994))), .c (.one (.v (.int .u32 3593408605))), .c (.one (.v (.int .u32 38016083))), .c (.one (.v (.int .u32 3634488961))), .c (.one (.v (.int .u32 3889429448))), .c (.one (.v (.int .u32 568446438))), .c (.one (.v (.int .u32 3275163606))), .c (.one (.v (.int .u32 4107603335))), .c (.one (.v (.int .u32 1163531501))), .c (.one (.v (.int .u32 2850285829))), .c (.one (.v (.int .u32 4243563512))), .c (.one (.v (.int .u32 1735328473))), .c (.one (.v (.int .u32 2368359562))), .c (.one (.v (.int .u32 4294588738))), .c (.one (.v (.int .u32 2272392833))), .c (.one (.v (.int .u32 1839030562))), .c (.one (.v (.int .u32 4259657740))), .c (.one (.v (.int .u32 2763975236))), .c (.one (.v (.int .u32 1272893353))), .c (.one (.v (.int .u32 4139469664))), .c (.one (.v (.int .u32 3200236656))), .c (.one (.v (.int .u32 681279174))), .c (.one (.v (.int .u32 3936430074))), .c (.one (.v (.int .u32 3572445317))), .c (.one (.v (.int .u32 76029189))), .c (.one (.v (.int .u32 3654602809))), .c (.one (.v (.int .u32 3873151461))), .c (.one (.v (.int .u32 530742520))), .c (.one (.v (.int .u32 3299628645))), .c (.one (.v (.int .u32 4096336452))), .c (.one (.v (.int .u32 1126891415))), .c (.one (.v (.int .u32 2878612391))), .c (.one (.v (.int .u32 4237533241))), .c (.one (.v (.int .u32 1700485571))), .c (.one (.v (.int .u32 2399980690))), .c (.one (.v (.int .u32 4293915773))), .c (.one (.v (.int .u32 2240044497))), .c (.one (.v (.int .u32 1873313359))), .c (.one (.v (.int .u32 4264355552))), .c (.one (.v (.int .u32 2734768916))), .c (.one (.v (.int .u32 1309151649))), .c (.one (.v (.int .u32 4149444226))), .c (.one (.v (.int .u32 3174756917))), .c (.one (.v (.int .u32 718787259))), .c (.one (.v (.int .u32 3951481745)))], none, [], true, []⟩,
  ⟨some 0, .mv (.t 1), none, [], true, []⟩]) (.ret)), res := [.t 0] }
theorem F44_ok : mtF Tryd.prog 44 F44 = true := by kernel_rfl
/- wharf/wharfref07.fill -/
def F45 : Fun := { n := 42, code := .seq (.reg false [
  ⟨some 4, .mv (.c (.one (.sl .full 1 []))), none, [], true, []⟩]) (.seq (.regp [
  .r ⟨some 9, .mv (.t 0), none, [], true, []⟩,
  .k (some 10) (.cb 5 (.t 9)),
  .r ⟨some 11, .bsl 5 1 [.c (.one (.v (.int .u8 128)))], none, [], true, []⟩,
  .r ⟨some 12, .app 5 1 1 (.t 10) (.t 11), none, [], true, []⟩,
  .r ⟨some 5, .mv (.t 12), none, [], true, []⟩]) (.seq (.block 0 (.loop (.seq (.seq (.reg false [
  ⟨some 13, .mv (.t 5), none, [], true, []⟩,
  ⟨some 14, .len false (.t 13), none, [], true, []⟩,
  ⟨some 15, .bin .rem (.t 14) (.c (.one (.v (.int .i64 64)))), none, [], true, []⟩,
  ⟨some 16, .bin .neq (.t 15) (.c (.one (.v (.int .i64 56)))), none, [], true, []⟩]) (.cond (.t 16) (.skip) (.exit 0))) (.block 1 (.reg false [
  ⟨some 17, .mv (.t 5), none, [], true, []⟩,
  ⟨some 18, .bsl 5 1 [.c (.one (.v (.int .u8 0)))], none, [], true, []⟩,
  ⟨some 19, .app 5 1 1 (.t 17) (.t 18), none, [], true, []⟩,
  ⟨some 5, .mv (.t 19), none, [], true, []⟩]))))) (.seq (.reg false [
  ⟨some 20, .mv (.t 0), none, [], true, []⟩,
  ⟨some 21, .len true (.t 20), none, [], true, []⟩,
  ⟨some 22, .cvi .u64 (.t 21), none, [], true, []⟩,
  ⟨some 23, .bin .mul (.t 22) (.c (.one (.v (.int .u64 8)))), none, [], true, []⟩,
  ⟨some 6, .mv (.t 23), none, [], true, []⟩]) (.seq (.seq (.reg false [
  ⟨some 7, .mv (.c (.one (.v (.int .i64 0)))), none, [], true, []⟩]) (.block 2 (.loop (.seq (.seq (.reg false [
  ⟨some 24, .mv (.t 7), none, [], true, []⟩,
  ⟨some 25, .bin .lss (.t 24) (.c (.one (.v (.int .i64 8)))), none, [], true, []⟩]) (.cond (.t 25) (.skip) (.exit 2))) (.seq (.block 3 (.seq (.reg false [
  ⟨some 28, .mv (.t 7), none, [], true, []⟩,
  ⟨some 8, .mv (.t 28), none, [], true, []⟩]) (.seq (.seq (.reg false [
  ⟨some 29, .mv (.t 1), none, [], true, []⟩,
  ⟨some 30, .un .not (.t 29), none, [], true, []⟩]) (.cond (.t 30) (.reg false [
  ⟨some 31, .mv (.t 7), none, [], true, []⟩,
  ⟨some 32, .bin .sub (.c (.one (.v (.int .i64 7)))) (.t 31), none, [], true, []⟩,
  ⟨some 8, .mv (.t 32), none, [], true, []⟩]) (.skip))) (.reg false [
  ⟨some 33, .mv (.t 5), none, [], true, []⟩,
  ⟨some 34, .mv (.t 6), none, [], true, []⟩,
  ⟨some 35, .mv (.t 8), none, [], true, []⟩,
  ⟨some 36, .bin .mul (.c (.one (.v (.int .i64 8)))) (.t 35), none, [], true, []⟩,
  ⟨some 37, .bin .shr (.t 34) (.t 36), none, [], true, []⟩,
  ⟨some 38, .cvi .u8 (.t 37), none, [], true, []⟩,
  ⟨some 39, .bsl 5 1 [.t 38], none, [], true, []⟩,
  ⟨some 40, .app 5 1 1 (.t 33) (.t 39), none, [], true, []⟩,
  ⟨some 5, .mv (.t 40), none, [], true, []⟩])))) (.reg false [
  ⟨some 26, .mv (.t 7), none, [], true, []⟩,
  ⟨some 27, .bin .add (.t 26) (.c (.one (.v (.int .i64 1)))), none, [], true, []⟩,
  ⟨some 7, .mv (.t 27), none, [], true, []⟩])))))) (.seq (.reg false [
  ⟨some 41, .mv (.t 5), none, [], true, []⟩,
  ⟨some 4, .mv (.t 41), none, [], true, []⟩]) (.ret)))))), res := [.t 4] }
theorem F45_ok : mtF Tryd.prog 45 F45 = true := by kernel_rfl
/- wharf/wharfref07.word -/
def F46 : Fun := { n := 50, code := .seq (.reg false [
  ⟨some 4, .mv (.c (.one (.v (.int .u32 0)))), none, [], true, []⟩]) (.seq (.seq (.reg false [
  ⟨some 5, .mv (.t 1), none, [], true, []⟩]) (.cond (.t 5) (.seq (.reg true [
  ⟨some 6, .mv (.t 0), none, [], false, []⟩,
  ⟨some 7, .iad 1 (.t 6) (.c (.one (.v (.int .i64 0)))), none, [0], false, []⟩,
  ⟨some 8, .load 1 false (.t 7), none, [1], false, []⟩,
  ⟨some 9, .cvi .u32 (.t 8), none, [2], false, []⟩,
  ⟨some 10, .mv (.t 0), none, [], false, []⟩,
  ⟨some 11, .iad 1 (.t 10) (.c (.one (.v (.int .i64 1)))), none, [4], false, []⟩,
  ⟨some 12, .load 1 false (.t 11), none, [5], false, []⟩,
  ⟨some 13, .cvi .u32 (.t 12), none, [6], false, []⟩,
  ⟨some 14, .bin .shl (.t 13) (.c (.one (.v (.int .u64 8)))), none, [7], false, []⟩,
  ⟨some 15, .bin .or (.t 9) (.t 14), none, [3, 8], false, []⟩,
  ⟨some 16, .mv (.t 0), none, [], false, []⟩,
  ⟨some 17, .iad 1 (.t 16) (.c (.one (.v (.int .i64 2)))), none, [10], false, []⟩,
  ⟨some 18, .load 1 false (.t 17), none, [11], false, []⟩,
  ⟨some 19, .cvi .u32 (.t 18), none, [12], false, []⟩,
  ⟨some 20, .bin .shl (.t 19) (.c (.one (.v (.int .u64 16)))), none, [13], false, []⟩,
  ⟨some 21, .bin .or (.t 15) (.t 20), none, [9, 14], false, []⟩,
  ⟨some 22, .mv (.t 0), none, [], false, []⟩,
  ⟨some 23, .iad 1 (.t 22) (.c (.one (.v (.int .i64 3)))), none, [16], false, []⟩,
  ⟨some 24, .load 1 false (.t 23), none, [17], false, []⟩,
  ⟨some 25, .cvi .u32 (.t 24), none, [18], false, []⟩,
  ⟨some 26, .bin .shl (.t 25) (.c (.one (.v (.int .u64 24)))), none, [19], false, []⟩,
  ⟨some 27, .bin .or (.t 21) (.t 26), none, [15, 20], false, []⟩,
  ⟨some 4, .mv (.t 27), none, [21, 0, 1, 2, 3, 4, 5, 6, 7, 8, 9, 10, 11, 12, 13, 14, 15, 16, 17, 18, 19, 20, 21], false, []⟩]) (.ret)) (.skip))) (.seq (.reg true [
  ⟨some 28, .mv (.t 0), none, [], false, []⟩,
  ⟨some 29, .iad 1 (.t 28) (.c (.one (.v (.int .i64 3)))), none, [0], false, []⟩,
  ⟨some 30, .load 1 false (.t 29), none, [1], false, []⟩,
  ⟨some 31, .cvi .u32 (.t 30), none, [2], false, []⟩,
  ⟨some 32, .mv (.t 0), none, [], false, []⟩,
  ⟨some 33, .iad 1 (.t 32) (.c (.one (.v (.int .i64 2)))), none, [4], false, []⟩,
  ⟨some 34, .load 1 false (.t 33), none, [5], false, []⟩,
  ⟨some 35, .cvi .u32 (.t 34), none, [6], false, []⟩,
  ⟨some 36, .bin .shl (.t 35) (.c (.one (.v (.int .u64 8)))), none, [7], false, []⟩,
  ⟨some 37, .bin .or (.t 31) (.t 36), none, [3, 8], false, []⟩,
  ⟨some 38, .mv (.t 0), none, [], false, []⟩,
  ⟨some 39, .iad 1 (.t 38) (.c (.one (.v (.int .i64 1)))), none, [10], false, []⟩,
  ⟨some 40, .load 1 false (.t 39), none, [11], false, []⟩,
  ⟨some 41, .cvi .u32 (.t 40), none, [12], false, []⟩,
  ⟨some 42, .bin .shl (.t 41) (.c (.one (.v (.int .u64 16)))), none, [13], false, []⟩,
  ⟨some 43, .bin .or (.t 37) (.t 42), none, [9, 14], false, []⟩,
  ⟨some 44, .mv (.t 0), none, [], false, []⟩,
  ⟨some 45, .iad 1 (.t 44) (.c (.one (.v (.int .i64 0)))), none, [16], false, []⟩,
  ⟨some 46, .load 1 false (.t 45), none, [17], false, []⟩,
  ⟨some 47, .cvi .u32 (.t 46), none, [18], false, []⟩,
  ⟨some 48, .bin .shl (.t 47) (.c (.one (.v (.int .u64 24)))), none, [19], false, []⟩,
  ⟨some 49, .bin .or (.t 43) (.t 48), none, [15, 20], false, []⟩,
  ⟨some 4, .mv (.t 49), none, [21, 0, 1, 2, 3, 4, 5, 6, 7, 8, 9, 10, 11, 12, 13, 14, 15, 16, 17, 18, 19, 20, 21], false, []⟩]) (.ret))), res := [.t 4] }
theorem F46_ok : mtF Tryd.prog 46 F46 = true := by kernel_rfl
/- wharf/wharfref07.turn -/
def F47 : Fun := { n := 13, code := .seq (.reg false [
  ⟨some 4, .mv (.c (.one (.v (.int .u32 0)))), none, [], true, []⟩]) (.seq (.reg true [
  ⟨some 5, .mv (.t 0), none, [], false, []⟩,
  ⟨some 6, .mv (.t 1), none, [], false, []⟩,
  ⟨some 7, .bin .shl (.t 5) (.t 6), none, [0, 1], false, []⟩,
  ⟨some 8, .mv (.t 0), none, [], false, []⟩,
  ⟨some 9, .mv (.t 1), none, [], false, []⟩,
  ⟨some 10, .bin .sub (.c (.one (.v (.int .i64 32)))) (.t 9), none, [4], false, []⟩,
  ⟨some 11, .bin .shr (.t 8) (.t 10), none, [3, 5], false, []⟩,
  ⟨some 12, .bin .or (.t 7) (.t 11), none, [2, 6], false, []⟩,
  ⟨some 4, .mv (.t 12), none, [7, 0, 1, 2, 3, 4, 5, 6, 7], false, []⟩]) (.ret)), res := [.t 4] }
theorem F47_ok : mtF Tryd.prog 47 F47 = true := by kernel_rfl
/- wharf/wharfref07.turns -/
def F48 : Fun := { n := 14, code := .seq (.reg false [
  ⟨some 2, .mv (.c (.one (.v (.int .i64 0)))), none, [], true, []⟩]) (.seq (.reg false [
  ⟨some 4, .bsl 3 1 [.c (.one (.v (.int .i64 7))), .c (.one (.v (.int .i64 12))), .c (.one (.v (.int .i64 17))), .c (.one (.v (.int .i64 22))), .c (.one (.v (.int .i64 5))), .c (.one (.v (.int .i64 9))), .c (.one (.v (.int .i64 14))), .c (.one (.v (.int .i64 20))), .c (.one (.v (.int .i64 4))), .c (.one (.v (.int .i64 11))), .c (.one (.v (.int .i64 16))), .c (.one (.v (.int .i64 23))), .c (.one (.v (.int .i64 6))), .c (.one (.v (.int .i64 10))), .c (.one (.v (.int .i64 15))), .c (.one (.v (.int .i64 21)))], none, [], true, []⟩,
  ⟨some 3, .mv (.t 4), none, [], true, []⟩]) (.seq (.reg false [
  ⟨some 5, .mv (.t 3), none, [], true, []⟩,
  ⟨some 6, .mv (.t 0), none, [], true, []⟩,
  ⟨some 7, .bin .quo (.t 6) (.c (.one (.v (.int .i64 16)))), none, [], true, []⟩,
  ⟨some 8, .bin .mul (.t 7) (.c (.one (.v (.int .i64 4)))), none, [], true, []⟩,
  ⟨some 9, .mv (.t 0), none, [], true, []⟩,
  ⟨some 10, .bin .rem (.t 9) (.c (.one (.v (.int .i64 4)))), none, [], true, []⟩,
  ⟨some 11, .bin .add (.t 8) (.t 10), none, [], true, []⟩,
  ⟨some 12, .iad 1 (.t 5) (.t 11), none, [], true, []⟩,
  ⟨some 13, .load 1 false (.t 12), none, [], true, []⟩,
  ⟨some 2, .mv (.t 13), none, [], true, []⟩]) (.ret))), res := [.t 2] }
theorem F48_ok : mtF Tryd.prog 48 F48 = true := by kernel_rfl
/- wharf/wharfref07.bytes -/
def F49 : Fun := { n := 37, code := .seq (.reg false [
  ⟨some 4, .mv (.c (.one (.v (.string ⟨#[]⟩)))), none, [], true, []⟩]) (.seq (.reg false [
  ⟨some 5, .mv (.c (.one (.sl .full 1 []))), none, [], true, []⟩]) (.seq (.seq (.reg false [
  ⟨some 6, .mv (.c (.one (.v (.int .i64 0)))), none, [], true, []⟩]) (.block 0 (.loop (.seq (.seq (.reg false [
  ⟨some 9, .mv (.t 6), none, [], true, []⟩,
  ⟨some 10, .mv (.t 0), none, [], true, []⟩,
  ⟨some 11, .len false (.t 10), none, [], true, []⟩,
  ⟨some 12, .bin .lss (.t 9) (.t 11), none, [], true, []⟩]) (.cond (.t 12) (.skip) (.exit 0))) (.seq (.block 1 (.seq (.reg false [
  ⟨some 7, .mv (.c (.one (.v (.int .i64 0)))), none, [], true, []⟩]) (.block 2 (.loop (.seq (.seq (.reg false [
  ⟨some 15, .mv (.t 7), none, [], true, []⟩,
  ⟨some 16, .bin .lss (.t 15) (.c (.one (.v (.int .i64 4)))), none, [], true, []⟩]) (.cond (.t 16) (.skip) (.exit 2))) (.seq (.block 3 (.seq (.reg false [
  ⟨some 19, .mv (.t 7), none, [], true, []⟩,
  ⟨some 8, .mv (.t 19), none, [], true, []⟩]) (.seq (.seq (.reg false [
  ⟨some 20, .mv (.t 1), none, [], true, []⟩,
  ⟨some 21, .un .not (.t 20), none, [], true, []⟩]) (.cond (.t 21) (.reg false [
  ⟨some 22, .mv (.t 7), none, [], true, []⟩,
  ⟨some 23, .bin .sub (.c (.one (.v (.int .i64 3)))) (.t 22), none, [], true, []⟩,
  ⟨some 8, .mv (.t 23), none, [], true, []⟩]) (.skip))) (.reg false [
  ⟨some 24, .mv (.t 5), none, [], true, []⟩,
  ⟨some 25, .mv (.t 0), none, [], true, []⟩,
  ⟨some 26, .mv (.t 6), none, [], true, []⟩,
  ⟨some 27, .iad 1 (.t 25) (.t 26), none, [], true, []⟩,
  ⟨some 28, .load 1 false (.t 27), none, [], true, []⟩,
  ⟨some 29, .mv (.t 8), none, [], true, []⟩,
  ⟨some 30, .bin .mul (.c (.one (.v (.int .i64 8)))) (.t 29), none, [], true, []⟩,
  ⟨some 31, .bin .shr (.t 28) (.t 30), none, [], true, []⟩,
  ⟨some 32, .cvi .u8 (.t 31), none, [], true, []⟩,
  ⟨some 33, .bsl 5 1 [.t 32], none, [], true, []⟩,
  ⟨some 34, .app 5 1 1 (.t 24) (.t 33), none, [], true, []⟩,
  ⟨some 5, .mv (.t 34), none, [], true, []⟩])))) (.reg false [
  ⟨some 17, .mv (.t 7), none, [], true, []⟩,
  ⟨some 18, .bin .add (.t 17) (.c (.one (.v (.int .i64 1)))), none, [], true, []⟩,
  ⟨some 7, .mv (.t 18), none, [], true, []⟩]))))))) (.reg false [
  ⟨some 13, .mv (.t 6), none, [], true, []⟩,
  ⟨some 14, .bin .add (.t 13) (.c (.one (.v (.int .i64 1)))), none, [], true, []⟩,
  ⟨some 6, .mv (.t 14), none, [], true, []⟩])))))) (.seq (.reg false [
  ⟨some 35, .mv (.t 5), none, [], true, []⟩,
  ⟨some 36, .cvs (.t 35), none, [], true, []⟩,
  ⟨some 4, .mv (.t 36), none, [], true, []⟩]) (.ret)))), res := [.t 4] }
theorem F49_ok : mtF Tryd.prog 49 F49 = true := by kernel_rfl
/- wharf/wharfref01.First -/
def F50 : Fun := { n := 90, code := .seq (.reg false [
  ⟨some 2, .mv (.c (.one (.v (.int .i64 0)))), none, [], true, []⟩,
  ⟨some 3, .mv (.c (.one (.v (.int .i64 0)))), none, [], true, []⟩,
  ⟨some 4, .mv (.c (.one (.v (.int .i64 0)))), none, [], true, []⟩]) (.seq (.seq (.reg false [
  ⟨some 11, .mv (.t 0), none, [], true, []⟩,
  ⟨some 12, .bin .eql (.t 11) (.c (.one (.v (.string ⟨#[]⟩)))), none, [], true, []⟩]) (.cond (.t 12) (.seq (.reg false [
  ⟨some 2, .mv (.c (.one (.v (.int .i64 0)))), none, [], true, []⟩,
  ⟨some 3, .mv (.c (.one (.v (.int .i64 0)))), none, [], true, []⟩,
  ⟨some 4, .mv (.c (.one (.v (.int .i64 10)))), none, [], true, []⟩]) (.ret)) (.skip))) (.seq (.reg false [
  ⟨some 13, .mv (.t 0), none, [], true, []⟩,
  ⟨some 14, .idx (.t 13) (.c (.one (.v (.int .i64 0)))), none, [], true, []⟩,
  ⟨some 15, .cvi .i64 (.t 14), none, [], true, []⟩,
  ⟨some 5, .mv (.t 15), none, [], true, []⟩]) (.seq (.reg false [
  ⟨some 16, .mv (.t 5), none, [], true, []⟩,
  ⟨some 6, .mv (.c (.one (.v (.int .i64 1)))), none, [], true, []⟩,
  ⟨some 7, .mv (.t 16), none, [], true, []⟩]) (.seq (.block 0 (.seq (.reg false [
  ⟨some 18, .mv (.t 5), none, [], true, []⟩,
  ⟨some 19, .bin .lss (.t 18) (.c (.one (.v (.int .i64 128)))), none, [], true, []⟩,
  ⟨some 17, .mv (.t 19), none, [], true, []⟩]) (.cond (.t 17) (.skip) (.seq (.reg false [
  ⟨some 21, .mv (.t 5), none, [], true, []⟩,
  ⟨some 22, .bin .geq (.t 21) (.c (.one (.v (.int .i64 192)))), none, [], true, []⟩,
  ⟨some 23, .mv (.t 22), none, [], true, []⟩,
  ⟨some 24, .mv (.t 5), some (23, true), [], true, []⟩,
  ⟨some 25, .bin .lss (.t 24) (.c (.one (.v (.int .i64 224)))), some (23, true), [], true, []⟩,
  ⟨some 26, .pick (.t 23) (.t 25) (.c (.one (.v (.bool false)))), none, [], true, []⟩,
  ⟨some 20, .mv (.t 26), none, [], true, []⟩]) (.cond (.t 20) (.reg false [
  ⟨some 27, .mv (.t 5), none, [], true, []⟩,
  ⟨some 28, .bin .sub (.t 27) (.c (.one (.v (.int .i64 192)))), none, [], true, []⟩,
  ⟨some 6, .mv (.c (.one (.v (.int .i64 2)))), none, [], true, []⟩,
  ⟨some 7, .mv (.t 28), none, [], true, []⟩]) (.seq (.reg false [
  ⟨some 30, .mv (.t 5), none, [], true, []⟩,
  ⟨some 31, .bin .geq (.t 30) (.c (.one (.v (.int .i64 224)))), none, [], true, []⟩,
  ⟨some 32, .mv (.t 31), none, [], true, []⟩,
  ⟨some 33, .mv (.t 5), some (32, true), [], true, []⟩,
  ⟨some 34, .bin .lss (.t 33) (.c (.one (.v (.int .i64 240)))), some (32, true), [], true, []⟩,
  ⟨some 35, .pick (.t 32) (.t 34) (.c (.one (.v (.bool false)))), none, [], true, []⟩,
  ⟨some 29, .mv (.t 35), none, [], true, []⟩]) (.cond (.t 29) (.reg false [
  ⟨some 36, .mv (.t 5), none, [], true, []⟩,
  ⟨some 37, .bin .sub (.t 36) (.c (.one (.v (.int .i64 224)))), none, [], true, []⟩,
  ⟨some 6, .mv (.c (.one (.v (.int .i64 3)))), none, [], true, []⟩,
  ⟨some 7, .mv (.t 37), none, [], true, []⟩]) (.seq (.reg false [
  ⟨some 39, .mv (.t 5), none, [], true, []⟩,
  ⟨some 40, .bin .geq (.t 39) (.c (.one (.v (.int .i64 240)))), none, [], true, []⟩,
  ⟨some 41, .mv (.t 40), none, [], true, []⟩,
  ⟨some 42, .mv (.t 5), some (41, true), [], true, []⟩,
  ⟨some 43, .bin .lss (.t 42) (.c (.one (.v (.int .i64 248)))), some (41, true), [], true, []⟩,
  ⟨some 44, .pick (.t 41) (.t 43) (.c (.one (.v (.bool false)))), none, [], true, []⟩,
  ⟨some 38, .mv (.t 44), none, [], true, []⟩]) (.cond (.t 38) (.reg false [
  ⟨some 45, .mv (.t 5), none, [], true, []⟩,
  ⟨some 46, .bin .sub (.t 45) (.c (.one (.v (.int .i64 240)))), none, [], true, []⟩,
  ⟨some 6, .mv (.c (.one (.v (.int .i64 4)))), none, [], true, []⟩,
  ⟨some 7, .mv (.t 46), none, [], true, []⟩]) (.seq (.reg false [
  ⟨some 2, .mv (.c (.one (.v (.int .i64 0)))), none, [], true, []⟩,
  ⟨some 3, .mv (.c (.one (.v (.int .i64 0)))), none, [], true, []⟩,
  ⟨some 4, .mv (.c (.one (.v (.int .i64 10)))), none, [], true, []⟩]) (.ret))))))))))) (.seq (.seq (.reg false [
  ⟨some 47, .mv (.t 0), none, [], true, []⟩,
  ⟨some 48, .len true (.t 47), none, [], true, []⟩,
  ⟨some 49, .mv (.t 6), none, [], true, []⟩,
  ⟨some 50, .bin .lss (.t 48) (.t 49), none, [], true, []⟩]) (.cond (.t 50) (.seq (.reg false [
  ⟨some 2, .mv (.c (.one (.v (.int .i64 0)))), none, [], true, []⟩,
  ⟨some 3, .mv (.c (.one (.v (.int .i64 0)))), none, [], true, []⟩,
  ⟨some 4, .mv (.c (.one (.v (.int .i64 10)))), none, [], true, []⟩]) (.ret)) (.skip))) (.seq (.seq (.reg false [
  ⟨some 8, .mv (.c (.one (.v (.int .i64 1)))), none, [], true, []⟩]) (.block 1 (.loop (.seq (.seq (.reg false [
  ⟨some 51, .mv (.t 8), none, [], true, []⟩,
  ⟨some 52, .mv (.t 6), none, [], true, []⟩,
  ⟨some 53, .bin .lss (.t 51) (.t 52), none, [], true, []⟩]) (.cond (.t 53) (.skip) (.exit 1))) (.seq (.block 2 (.seq (.seq (.reg false [
  ⟨some 56, .mv (.t 0), none, [], true, []⟩,
  ⟨some 57, .mv (.t 8), none, [], true, []⟩,
  ⟨some 58, .idx (.t 56) (.t 57), none, [], true, []⟩,
  ⟨some 59, .bin .lss (.t 58) (.c (.one (.v (.int .u8 128)))), none, [], true, []⟩,
  ⟨some 60, .mv (.t 59), none, [], true, []⟩,
  ⟨some 61, .mv (.t 0), some (60, false), [], true, []⟩,
  ⟨some 62, .mv (.t 8), some (60, false), [], true, []⟩,
  ⟨some 63, .idx (.t 61) (.t 62), some (60, false), [], true, []⟩,
  ⟨some 64, .bin .geq (.t 63) (.c (.one (.v (.int .u8 192)))), some (60, false), [], true, []⟩,
  ⟨some 65, .pick (.t 60) (.c (.one (.v (.bool true)))) (.t 64), none, [], true, []⟩]) (.cond (.t 65) (.seq (.reg false [
  ⟨some 2, .mv (.c (.one (.v (.int .i64 0)))), none, [], true, []⟩,
  ⟨some 3, .mv (.c (.one (.v (.int .i64 0)))), none, [], true, []⟩,
  ⟨some 4, .mv (.c (.one (.v (.int .i64 10)))), none, [], true, []⟩]) (.ret)) (.skip))) (.reg false [
  ⟨some 66, .mv (.t 7), none, [], true, []⟩,
  ⟨some 67, .bin .mul (.c (.one (.v (.int .i64 64)))) (.t 66), none, [], true, []⟩,
  ⟨some 68, .mv (.t 0), none, [], true, []⟩,
  ⟨some 69, .mv (.t 8), none, [], true, []⟩,
  ⟨some 70, .idx (.t 68) (.t 69), none, [], true, []⟩,
  ⟨some 71, .cvi .i64 (.t 70), none, [], true, []⟩,
  ⟨some 72, .bin .add (.t 67) (.t 71), none, [], true, []⟩,
  ⟨some 73, .bin .sub (.t 72) (.c (.one (.v (.int .i64 128)))), none, [], true, []⟩,
  ⟨some 7, .mv (.t 73), none, [], true, []⟩]))) (.reg false [
  ⟨some 54, .mv (.t 8), none, [], true, []⟩,
  ⟨some 55, .bin .add (.t 54) (.c (.one (.v (.int .i64 1)))), none, [], true, []⟩,
  ⟨some 8, .mv (.t 55), none, [], true, []⟩])))))) (.seq (.reg false [
  ⟨some 75, .mv (.t 7), none, [], true, []⟩,
  ⟨some 76, .call 68 [.t 75], none, [], true, []⟩,
  ⟨some 74, .mv (.t 76), none, [], true, []⟩,
  ⟨some 77, .ext (.t 74) 0, none, [], true, []⟩,
  ⟨some 78, .ext (.t 74) 1, none, [], true, []⟩,
  ⟨some 9, .mv (.t 77), none, [], true, []⟩,
  ⟨some 10, .mv (.t 78), none, [], true, []⟩]) (.seq (.seq (.reg false [
  ⟨some 79, .mv (.t 10), none, [], true, []⟩,
  ⟨some 80, .bin .neq (.t 79) (.c (.one (.v (.int .i64 0)))), none, [], true, []⟩,
  ⟨some 81, .mv (.t 80), none, [], true, []⟩,
  ⟨some 82, .mv (.t 9), some (81, false), [], true, []⟩,
  ⟨some 83, .mv (.t 0), some (81, false), [], true, []⟩,
  ⟨some 84, .mv (.t 6), some (81, false), [], true, []⟩,
  ⟨some 85, .sls (.t 83) none (some (.t 84)), some (81, false), [], true, []⟩,
  ⟨some 86, .bin .neq (.t 82) (.t 85), some (81, false), [], true, []⟩,
  ⟨some 87, .pick (.t 81) (.c (.one (.v (.bool true)))) (.t 86), none, [], true, []⟩]) (.cond (.t 87) (.seq (.reg false [
  ⟨some 2, .mv (.c (.one (.v (.int .i64 0)))), none, [], true, []⟩,
  ⟨some 3, .mv (.c (.one (.v (.int .i64 0)))), none, [], true, []⟩,
  ⟨some 4, .mv (.c (.one (.v (.int .i64 10)))), none, [], true, []⟩]) (.ret)) (.skip))) (.seq (.reg false [
  ⟨some 88, .mv (.t 7), none, [], true, []⟩,
  ⟨some 89, .mv (.t 6), none, [], true, []⟩,
  ⟨some 2, .mv (.t 88), none, [], true, []⟩,
  ⟨some 3, .mv (.t 89), none, [], true, []⟩,
  ⟨some 4, .mv (.c (.one (.v (.int .i64 0)))), none, [], true, []⟩]) (.ret)))))))))), res := [.t 2, .t 3, .t 4] }
theorem F50_ok : mtF Tryd.prog 50 F50 = true := by kernel_rfl
/- wharf/wharfref01.Plain -/
def F51 : Fun := { n := 25, code := .seq (.reg false [
  ⟨some 2, .mv (.c (.one (.v (.bool false)))), none, [], true, []⟩]) (.seq (.reg false [
  ⟨some 3, .mv (.t 0), none, [], true, []⟩,
  ⟨some 4, .bin .eql (.t 3) (.c (.one (.v (.int .i64 9)))), none, [], true, []⟩,
  ⟨some 5, .mv (.t 4), none, [], true, []⟩,
  ⟨some 6, .mv (.t 0), some (5, false), [], true, []⟩,
  ⟨some 7, .bin .eql (.t 6) (.c (.one (.v (.int .i64 10)))), some (5, false), [], true, []⟩,
  ⟨some 8, .pick (.t 5) (.c (.one (.v (.bool true)))) (.t 7), none, [], true, []⟩,
  ⟨some 9, .mv (.t 8), none, [], true, []⟩,
  ⟨some 10, .mv (.t 0), some (9, false), [], true, []⟩,
  ⟨some 11, .bin .eql (.t 10) (.c (.one (.v (.int .i64 13)))), some (9, false), [], true, []⟩,
  ⟨some 12, .pick (.t 9) (.c (.one (.v (.bool true)))) (.t 11), none, [], true, []⟩,
  ⟨some 13, .mv (.t 12), none, [], true, []⟩,
  ⟨some 14, .mv (.t 0), some (13, false), [], true, []⟩,
  ⟨some 15, .bin .geq (.t 14) (.c (.one (.v (.int .i64 32)))), some (13, false), [], true, []⟩,
  ⟨some 16, .mv (.t 15), some (13, false), [], true, []⟩,
  ⟨some 17, .mv (.t 0), some (16, true), [], true, []⟩,
  ⟨some 18, .bin .neq (.t 17) (.c (.one (.v (.int .i64 65534)))), some (16, true), [], true, []⟩,
  ⟨some 19, .pick (.t 16) (.t 18) (.c (.one (.v (.bool false)))), some (13, false), [], true, []⟩,
  ⟨some 20, .mv (.t 19), some (13, false), [], true, []⟩,
  ⟨some 21, .mv (.t 0), some (20, true), [], true, []⟩,
  ⟨some 22, .bin .neq (.t 21) (.c (.one (.v (.int .i64 65535)))), some (20, true), [], true, []⟩,
  ⟨some 23, .pick (.t 20) (.t 22) (.c (.one (.v (.bool false)))), some (13, false), [], true, []⟩,
  ⟨some 24, .pick (.t 13) (.c (.one (.v (.bool true)))) (.t 23), none, [], true, []⟩,
  ⟨some 2, .mv (.t 24), none, [], true, []⟩]) (.ret)), res := [.t 2] }
theorem F51_ok : mtF Tryd.prog 51 F51 = true := by kernel_rfl
/- wharf/wharfref04.number -/
def F52 : Fun := { n := 28, code := .seq (.reg false [
  ⟨some 2, .mv (.c (.one (.v (.bool false)))), none, [], true, []⟩]) (.seq (.seq (.reg false [
  ⟨some 4, .mv (.t 0), none, [], true, []⟩,
  ⟨some 5, .len true (.t 4), none, [], true, []⟩,
  ⟨some 6, .bin .lss (.t 5) (.c (.one (.v (.int .i64 5)))), none, [], true, []⟩,
  ⟨some 7, .mv (.t 6), none, [], true, []⟩,
  ⟨some 8, .mv (.t 0), some (7, false), [], true, []⟩,
  ⟨some 9, .len true (.t 8), some (7, false), [], true, []⟩,
  ⟨some 10, .bin .gtr (.t 9) (.c (.one (.v (.int .i64 9)))), some (7, false), [], true, []⟩,
  ⟨some 11, .pick (.t 7) (.c (.one (.v (.bool true)))) (.t 10), none, [], true, []⟩,
  ⟨some 12, .mv (.t 11), none, [], true, []⟩,
  ⟨some 13, .mv (.t 0), some (12, false), [], true, []⟩,
  ⟨some 14, .idx (.t 13) (.c (.one (.v (.int .i64 0)))), some (12, false), [], true, []⟩,
  ⟨some 15, .bin .eql (.t 14) (.c (.one (.v (.int .u8 48)))), some (12, false), [], true, []⟩,
  ⟨some 16, .pick (.t 12) (.c (.one (.v (.bool true)))) (.t 15), none, [], true, []⟩]) (.cond (.t 16) (.seq (.reg false [
  ⟨some 2, .mv (.c (.one (.v (.bool false)))), none, [], true, []⟩]) (.ret)) (.skip))) (.seq (.seq (.reg false [
  ⟨some 3, .mv (.c (.one (.v (.int .i64 0)))), none, [], true, []⟩]) (.block 0 (.loop (.seq (.seq (.reg false [
  ⟨some 17, .mv (.t 3), none, [], true, []⟩,
  ⟨some 18, .mv (.t 0), none, [], true, []⟩,
  ⟨some 19, .len true (.t 18), none, [], true, []⟩,
  ⟨some 20, .bin .lss (.t 17) (.t 19), none, [], true, []⟩]) (.cond (.t 20) (.skip) (.exit 0))) (.seq (.block 1 (.seq (.reg false [
  ⟨some 23, .mv (.t 0), none, [], true, []⟩,
  ⟨some 24, .mv (.t 3), none, [], true, []⟩,
  ⟨some 25, .idx (.t 23) (.t 24), none, [], true, []⟩,
  ⟨some 26, .call 55 [.t 25], none, [], true, []⟩,
  ⟨some 27, .un .not (.t 26), none, [], true, []⟩]) (.cond (.t 27) (.seq (.reg false [
  ⟨some 2, .mv (.c (.one (.v (.bool false)))), none, [], true, []⟩]) (.ret)) (.skip)))) (.reg false [
  ⟨some 21, .mv (.t 3), none, [], true, []⟩,
  ⟨some 22, .bin .add (.t 21) (.c (.one (.v (.int .i64 1)))), none, [], true, []⟩,
  ⟨some 3, .mv (.t 22), none, [], true, []⟩])))))) (.seq (.reg false [
  ⟨some 2, .mv (.c (.one (.v (.bool true)))), none, [], true, []⟩]) (.ret)))), res := [.t 2] }
theorem F52_ok : mtF Tryd.prog 52 F52 = true := by kernel_rfl
/- wharf/wharfref04.Norm -/
def F53 : Fun := { n := 24, code := .seq (.reg false [
  ⟨some 2, .mv (.c (.one (.v (.string ⟨#[]⟩)))), none, [], true, []⟩]) (.seq (.reg false [
  ⟨some 3, .mv (.c (.one (.v (.string ⟨#[]⟩)))), none, [], true, []⟩]) (.seq (.seq (.reg false [
  ⟨some 4, .mv (.c (.one (.v (.int .i64 0)))), none, [], true, []⟩]) (.block 0 (.loop (.seq (.seq (.reg false [
  ⟨some 5, .mv (.t 4), none, [], true, []⟩,
  ⟨some 6, .mv (.t 0), none, [], true, []⟩,
  ⟨some 7, .len true (.t 6), none, [], true, []⟩,
  ⟨some 8, .bin .lss (.t 5) (.t 7), none, [], true, []⟩]) (.cond (.t 8) (.skip) (.exit 0))) (.seq (.block 1 (.seq (.reg false [
  ⟨some 11, .mv (.t 0), none, [], true, []⟩,
  ⟨some 12, .mv (.t 4), none, [], true, []⟩,
  ⟨some 13, .idx (.t 11) (.t 12), none, [], true, []⟩,
  ⟨some 14, .bin .neq (.t 13) (.c (.one (.v (.int .u8 32)))), none, [], true, []⟩]) (.cond (.t 14) (.reg false [
  ⟨some 15, .mv (.t 3), none, [], true, []⟩,
  ⟨some 16, .mv (.t 0), none, [], true, []⟩,
  ⟨some 17, .mv (.t 4), none, [], true, []⟩,
  ⟨some 18, .mv (.t 4), none, [], true, []⟩,
  ⟨some 19, .bin .add (.t 18) (.c (.one (.v (.int .i64 1)))), none, [], true, []⟩,
  ⟨some 20, .sls (.t 16) (some (.t 17)) (some (.t 19)), none, [], true, []⟩,
  ⟨some 21, .bin .add (.t 15) (.t 20), none, [], true, []⟩,
  ⟨some 3, .mv (.t 21), none, [], true, []⟩]) (.skip)))) (.reg false [
  ⟨some 9, .mv (.t 4), none, [], true, []⟩,
  ⟨some 10, .bin .add (.t 9) (.c (.one (.v (.int .i64 1)))), none, [], true, []⟩,
  ⟨some 4, .mv (.t 10), none, [], true, []⟩])))))) (.seq (.reg false [
  ⟨some 22, .mv (.t 3), none, [], true, []⟩,
  ⟨some 23, .call 69 [.t 22], none, [], true, []⟩,
  ⟨some 2, .mv (.t 23), none, [], true, []⟩]) (.ret)))), res := [.t 2] }
theorem F53_ok : mtF Tryd.prog 53 F53 = true := by kernel_rfl
/- wharf/wharfref04.letter -/
def F54 : Fun := { n := 17, code := .seq (.reg false [
  ⟨some 2, .mv (.c (.one (.v (.bool false)))), none, [], true, []⟩]) (.seq (.reg false [
  ⟨some 3, .mv (.t 0), none, [], true, []⟩,
  ⟨some 4, .bin .geq (.t 3) (.c (.one (.v (.int .u8 97)))), none, [], true, []⟩,
  ⟨some 5, .mv (.t 4), none, [], true, []⟩,
  ⟨some 6, .mv (.t 0), some (5, true), [], true, []⟩,
  ⟨some 7, .bin .leq (.t 6) (.c (.one (.v (.int .u8 122)))), some (5, true), [], true, []⟩,
  ⟨some 8, .pick (.t 5) (.t 7) (.c (.one (.v (.bool false)))), none, [], true, []⟩,
  ⟨some 9, .mv (.t 8), none, [], true, []⟩,
  ⟨some 10, .mv (.t 0), some (9, false), [], true, []⟩,
  ⟨some 11, .bin .geq (.t 10) (.c (.one (.v (.int .u8 65)))), some (9, false), [], true, []⟩,
  ⟨some 12, .mv (.t 11), some (9, false), [], true, []⟩,
  ⟨some 13, .mv (.t 0), some (12, true), [], true, []⟩,
  ⟨some 14, .bin .leq (.t 13) (.c (.one (.v (.int .u8 90)))), some (12, true), [], true, []⟩,
  ⟨some 15, .pick (.t 12) (.t 14) (.c (.one (.v (.bool false)))), some (9, false), [], true, []⟩,
  ⟨some 16, .pick (.t 9) (.c (.one (.v (.bool true)))) (.t 15), none, [], true, []⟩,
  ⟨some 2, .mv (.t 16), none, [], true, []⟩]) (.ret)), res := [.t 2] }
theorem F54_ok : mtF Tryd.prog 54 F54 = true := by kernel_rfl
/- wharf/wharfref04.digit -/
def F55 : Fun := { n := 9, code := .seq (.reg false [
  ⟨some 2, .mv (.c (.one (.v (.bool false)))), none, [], true, []⟩]) (.seq (.reg false [
  ⟨some 3, .mv (.t 0), none, [], true, []⟩,
  ⟨some 4, .bin .geq (.t 3) (.c (.one (.v (.int .u8 48)))), none, [], true, []⟩,
  ⟨some 5, .mv (.t 4), none, [], true, []⟩,
  ⟨some 6, .mv (.t 0), some (5, true), [], true, []⟩,
  ⟨some 7, .bin .leq (.t 6) (.c (.one (.v (.int .u8 57)))), some (5, true), [], true, []⟩,
  ⟨some 8, .pick (.t 5) (.t 7) (.c (.one (.v (.bool false)))), none, [], true, []⟩,
  ⟨some 2, .mv (.t 8), none, [], true, []⟩]) (.ret)), res := [.t 2] }
theorem F55_ok : mtF Tryd.prog 55 F55 = true := by kernel_rfl
/- wharf/wharfref14.Same -/
def F56 : Fun := { n := 122, code := .seq (.reg false [
  ⟨some 2, .box 37 (.t 0), none, [], true, []⟩,
  ⟨some 3, .box 37 (.t 1), none, [], true, []⟩,
  ⟨some 4, .mv (.c (.one (.v (.bool false)))), none, [], true, []⟩]) (.seq (.seq (.reg false [
  ⟨some 7, .fad 0 (.t 2), none, [], true, []⟩,
  ⟨some 8, .load 1 false (.t 7), none, [], true, []⟩,
  ⟨some 9, .fad 0 (.t 3), none, [], true, []⟩,
  ⟨some 10, .load 1 false (.t 9), none, [], true, []⟩,
  ⟨some 11, .bin .neq (.t 8) (.t 10), none, [], true, []⟩,
  ⟨some 12, .mv (.t 11), none, [], true, []⟩,
  ⟨some 13, .fad 1 (.t 2), some (12, false), [], true, []⟩,
  ⟨some 14, .load 1 false (.t 13), some (12, false), [], true, []⟩,
  ⟨some 15, .fad 1 (.t 3), some (12, false), [], true, []⟩,
  ⟨some 16, .load 1 false (.t 15), some (12, false), [], true, []⟩,
  ⟨some 17, .bin .neq (.t 14) (.t 16), some (12, false), [], true, []⟩,
  ⟨some 18, .pick (.t 12) (.c (.one (.v (.bool true)))) (.t 17), none, [], true, []⟩,
  ⟨some 19, .mv (.t 18), none, [], true, []⟩,
  ⟨some 20, .fad 2 (.t 2), some (19, false), [], true, []⟩,
  ⟨some 21, .load 1 false (.t 20), some (19, false), [], true, []⟩,
  ⟨some 22, .fad 2 (.t 3), some (19, false), [], true, []⟩,
  ⟨some 23, .load 1 false (.t 22), some (19, false), [], true, []⟩,
  ⟨some 24, .bin .neq (.t 21) (.t 23), some (19, false), [], true, []⟩,
  ⟨some 25, .pick (.t 19) (.c (.one (.v (.bool true)))) (.t 24), none, [], true, []⟩,
  ⟨some 26, .mv (.t 25), none, [], true, []⟩,
  ⟨some 27, .fad 3 (.t 2), some (26, false), [], true, []⟩,
  ⟨some 28, .load 1 false (.t 27), some (26, false), [], true, []⟩,
  ⟨some 29, .fad 3 (.t 3), some (26, false), [], true, []⟩,
  ⟨some 30, .load 1 false (.t 29), some (26, false), [], true, []⟩,
  ⟨some 31, .bin .neq (.t 28) (.t 30), some (26, false), [], true, []⟩,
  ⟨some 32, .pick (.t 26) (.c (.one (.v (.bool true)))) (.t 31), none, [], true, []⟩,
  ⟨some 33, .mv (.t 32), none, [], true, []⟩,
  ⟨some 34, .fad 4 (.t 2), some (33, false), [], true, []⟩,
  ⟨some 35, .load 1 false (.t 34), some (33, false), [], true, []⟩,
  ⟨some 36, .fad 4 (.t 3), some (33, false), [], true, []⟩,
  ⟨some 37, .load 1 false (.t 36), some (33, false), [], true, []⟩,
  ⟨some 38, .bin .neq (.t 35) (.t 37), some (33, false), [], true, []⟩,
  ⟨some 39, .pick (.t 33) (.c (.one (.v (.bool true)))) (.t 38), none, [], true, []⟩,
  ⟨some 40, .mv (.t 39), none, [], true, []⟩,
  ⟨some 41, .fad 5 (.t 2), some (40, false), [], true, []⟩,
  ⟨some 42, .load 1 false (.t 41), some (40, false), [], true, []⟩,
  ⟨some 43, .fad 5 (.t 3), some (40, false), [], true, []⟩,
  ⟨some 44, .load 1 false (.t 43), some (40, false), [], true, []⟩,
  ⟨some 45, .bin .neq (.t 42) (.t 44), some (40, false), [], true, []⟩,
  ⟨some 46, .pick (.t 40) (.c (.one (.v (.bool true)))) (.t 45), none, [], true, []⟩,
  ⟨some 47, .mv (.t 46), none, [], true, []⟩,
  ⟨some 48, .fad 6 (.t 2), some (47, false), [], true, []⟩,
  ⟨some 49, .load 1 false (.t 48), some (47, false), [], true, []⟩,
  ⟨some 50, .fad 6 (.t 3), some (47, false), [], true, []⟩,
  ⟨some 51, .load 1 false (.t 50), some (47, false), [], true, []⟩,
  ⟨some 52, .bin .neq (.t 49) (.t 51), some (47, false), [], true, []⟩,
  ⟨some 53, .pick (.t 47) (.c (.one (.v (.bool true)))) (.t 52), none, [], true, []⟩,
  ⟨some 54, .mv (.t 53), none, [], true, []⟩,
  ⟨some 55, .fad 7 (.t 2), some (54, false), [], true, []⟩,
  ⟨some 56, .load 1 false (.t 55), some (54, false), [], true, []⟩,
  ⟨some 57, .fad 7 (.t 3), some (54, false), [], true, []⟩,
  ⟨some 58, .load 1 false (.t 57), some (54, false), [], true, []⟩,
  ⟨some 59, .bin .neq (.t 56) (.t 58), some (54, false), [], true, []⟩,
  ⟨some 60, .pick (.t 54) (.c (.one (.v (.bool true)))) (.t 59), none, [], true, []⟩,
  ⟨some 61, .mv (.t 60), none, [], true, []⟩,
  ⟨some 62, .fad 8 (.t 2), some (61, false), [], true, []⟩,
  ⟨some 63, .load 1 false (.t 62), some (61, false), [], true, []⟩,
  ⟨some 64, .fad 8 (.t 3), some (61, false), [], true, []⟩,
  ⟨some 65, .load 1 false (.t 64), some (61, false), [], true, []⟩,
  ⟨some 66, .eqb true (.t 63) (.t 65), some (61, false), [], true, []⟩,
  ⟨some 67, .pick (.t 61) (.c (.one (.v (.bool true)))) (.t 66), none, [], true, []⟩,
  ⟨some 68, .mv (.t 67), none, [], true, []⟩,
  ⟨some 69, .fad 9 (.t 2), some (68, false), [], true, []⟩,
  ⟨some 70, .load 1 false (.t 69), some (68, false), [], true, []⟩,
  ⟨some 71, .len false (.t 70), some (68, false), [], true, []⟩,
  ⟨some 72, .fad 9 (.t 3), some (68, false), [], true, []⟩,
  ⟨some 73, .load 1 false (.t 72), some (68, false), [], true, []⟩,
  ⟨some 74, .len false (.t 73), some (68, false), [], true, []⟩,
  ⟨some 75, .bin .neq (.t 71) (.t 74), some (68, false), [], true, []⟩,
  ⟨some 76, .pick (.t 68) (.c (.one (.v (.bool true)))) (.t 75), none, [], true, []⟩,
  ⟨some 77, .mv (.t 76), none, [], true, []⟩,
  ⟨some 78, .fad 10 (.t 2), some (77, false), [], true, []⟩,
  ⟨some 79, .load 1 false (.t 78), some (77, false), [], true, []⟩,
  ⟨some 80, .len false (.t 79), some (77, false), [], true, []⟩,
  ⟨some 81, .fad 10 (.t 3), some (77, false), [], true, []⟩,
  ⟨some 82, .load 1 false (.t 81), some (77, false), [], true, []⟩,
  ⟨some 83, .len false (.t 82), some (77, false), [], true, []⟩,
  ⟨some 84, .bin .neq (.t 80) (.t 83), some (77, false), [], true, []⟩,
  ⟨some 85, .pick (.t 77) (.c (.one (.v (.bool true)))) (.t 84), none, [], true, []⟩]) (.cond (.t 85) (.seq (.reg false [
  ⟨some 4, .mv (.c (.one (.v (.bool false)))), none, [], true, []⟩]) (.ret)) (.skip))) (.seq (.seq (.reg false [
  ⟨some 5, .mv (.c (.one (.v (.int .i64 0)))), none, [], true, []⟩]) (.block 0 (.loop (.seq (.seq (.reg false [
  ⟨some 86, .mv (.t 5), none, [], true, []⟩,
  ⟨some 87, .fad 9 (.t 2), none, [], true, []⟩,
  ⟨some 88, .load 1 false (.t 87), none, [], true, []⟩,
  ⟨some 89, .len false (.t 88), none, [], true, []⟩,
  ⟨some 90, .bin .lss (.t 86) (.t 89), none, [], true, []⟩]) (.cond (.t 90) (.skip) (.exit 0))) (.seq (.block 1 (.seq (.reg true [
  ⟨some 93, .fad 9 (.t 2), none, [], false, []⟩,
  ⟨some 94, .load 1 false (.t 93), none, [0], false, []⟩,
  ⟨some 95, .mv (.t 5), none, [], false, []⟩,
  ⟨some 96, .iad 6 (.t 94) (.t 95), none, [1, 2], false, []⟩,
  ⟨some 97, .load 6 true (.t 96), none, [3], false, []⟩,
  ⟨some 98, .fad 9 (.t 3), none, [], false, []⟩,
  ⟨some 99, .load 1 false (.t 98), none, [5], false, []⟩,
  ⟨some 100, .mv (.t 5), none, [], false, []⟩,
  ⟨some 101, .iad 6 (.t 99) (.t 100), none, [6, 7], false, []⟩,
  ⟨some 102, .load 6 true (.t 101), none, [8], false, []⟩,
  ⟨some 103, .eqs true [2, 1, 1, 1, 2, 0] (.t 97) (.t 102), none, [4, 9], false, []⟩]) (.cond (.t 103) (.seq (.reg false [
  ⟨some 4, .mv (.c (.one (.v (.bool false)))), none, [], true, []⟩]) (.ret)) (.skip)))) (.reg false [
  ⟨some 91, .mv (.t 5), none, [], true, []⟩,
  ⟨some 92, .bin .add (.t 91) (.c (.one (.v (.int .i64 1)))), none, [], true, []⟩,
  ⟨some 5, .mv (.t 92), none, [], true, []⟩])))))) (.seq (.seq (.reg false [
  ⟨some 6, .mv (.c (.one (.v (.int .i64 0)))), none, [], true, []⟩]) (.block 2 (.loop (.seq (.seq (.reg false [
  ⟨some 104, .mv (.t 6), none, [], true, []⟩,
  ⟨some 105, .fad 10 (.t 2), none, [], true, []⟩,
  ⟨some 106, .load 1 false (.t 105), none, [], true, []⟩,
  ⟨some 107, .len false (.t 106), none, [], true, []⟩,
  ⟨some 108, .bin .lss (.t 104) (.t 107), none, [], true, []⟩]) (.cond (.t 108) (.skip) (.exit 2))) (.seq (.block 3 (.seq (.reg true [
  ⟨some 111, .fad 10 (.t 2), none, [], false, []⟩,
  ⟨some 112, .load 1 false (.t 111), none, [0], false, []⟩,
  ⟨some 113, .mv (.t 6), none, [], false, []⟩,
  ⟨some 114, .iad 1 (.t 112) (.t 113), none, [1, 2], false, []⟩,
  ⟨some 115, .load 1 false (.t 114), none, [3], false, []⟩,
  ⟨some 116, .fad 10 (.t 3), none, [], false, []⟩,
  ⟨some 117, .load 1 false (.t 116), none, [5], false, []⟩,
  ⟨some 118, .mv (.t 6), none, [], false, []⟩,
  ⟨some 119, .iad 1 (.t 117) (.t 118), none, [6, 7], false, []⟩,
  ⟨some 120, .load 1 false (.t 119), none, [8], false, []⟩,
  ⟨some 121, .bin .neq (.t 115) (.t 120), none, [4, 9], false, []⟩]) (.cond (.t 121) (.seq (.reg false [
  ⟨some 4, .mv (.c (.one (.v (.bool false)))), none, [], true, []⟩]) (.ret)) (.skip)))) (.reg false [
  ⟨some 109, .mv (.t 6), none, [], true, []⟩,
  ⟨some 110, .bin .add (.t 109) (.c (.one (.v (.int .i64 1)))), none, [], true, []⟩,
  ⟨some 6, .mv (.t 110), none, [], true, []⟩])))))) (.seq (.reg false [
  ⟨some 4, .mv (.c (.one (.v (.bool true)))), none, [], true, []⟩]) (.ret))))), res := [.t 4] }
theorem F56_ok : mtF Tryd.prog 56 F56 = true := by kernel_rfl
/- wharf/wharfref15.under -/
def F57 : Fun := { n := 11, code := .seq (.reg false [
  ⟨some 1, .box 26 (.t 0), none, [], true, []⟩,
  ⟨some 2, .mv (.c (.one (.v (.bool false)))), none, [], true, []⟩]) (.seq (.reg false [
  ⟨some 3, .fad 0 (.t 1), none, [], true, []⟩,
  ⟨some 4, .load 1 false (.t 3), none, [], true, []⟩,
  ⟨some 5, .bin .geq (.t 4) (.c (.one (.v (.int .i64 1)))), none, [], true, []⟩,
  ⟨some 6, .mv (.t 5), none, [], true, []⟩,
  ⟨some 7, .fad 0 (.t 1), some (6, true), [], true, []⟩,
  ⟨some 8, .load 1 false (.t 7), some (6, true), [], true, []⟩,
  ⟨some 9, .bin .leq (.t 8) (.c (.one (.v (.int .i64 5)))), some (6, true), [], true, []⟩,
  ⟨some 10, .pick (.t 6) (.t 9) (.c (.one (.v (.bool false)))), none, [], true, []⟩,
  ⟨some 2, .mv (.t 10), none, [], true, []⟩]) (.ret)), res := [.t 2] }
theorem F57_ok : mtF Tryd.prog 57 F57 = true := by kernel_rfl
/- wharf/wharfref15.passes -/
def F58 : Fun := { n := 13, code := .seq (.reg false [
  ⟨some 2, .mv (.c (.one (.v (.bool false)))), none, [], true, []⟩]) (.seq (.seq (.reg false [
  ⟨some 3, .mv (.t 0), none, [], true, []⟩]) (.block 0 (.seq (.seq (.reg false [
  ⟨some 5, .bin .eql (.t 3) (.c (.one (.v (.int .i64 13)))), none, [], true, []⟩,
  ⟨some 4, .mv (.t 5), none, [], true, []⟩]) (.cond (.t 4) (.skip) (.seq (.reg false [
  ⟨some 6, .bin .eql (.t 3) (.c (.one (.v (.int .i64 14)))), none, [], true, []⟩,
  ⟨some 4, .mv (.t 6), none, [], true, []⟩]) (.cond (.t 4) (.skip) (.seq (.reg false [
  ⟨some 7, .bin .eql (.t 3) (.c (.one (.v (.int .i64 16)))), none, [], true, []⟩,
  ⟨some 4, .mv (.t 7), none, [], true, []⟩]) (.cond (.t 4) (.skip) (.seq (.reg false [
  ⟨some 8, .bin .eql (.t 3) (.c (.one (.v (.int .i64 18)))), none, [], true, []⟩,
  ⟨some 4, .mv (.t 8), none, [], true, []⟩]) (.cond (.t 4) (.skip) (.seq (.reg false [
  ⟨some 9, .bin .eql (.t 3) (.c (.one (.v (.int .i64 19)))), none, [], true, []⟩,
  ⟨some 4, .mv (.t 9), none, [], true, []⟩]) (.cond (.t 4) (.skip) (.seq (.reg false [
  ⟨some 10, .bin .eql (.t 3) (.c (.one (.v (.int .i64 25)))), none, [], true, []⟩,
  ⟨some 4, .mv (.t 10), none, [], true, []⟩]) (.cond (.t 4) (.skip) (.seq (.reg false [
  ⟨some 11, .bin .eql (.t 3) (.c (.one (.v (.int .i64 27)))), none, [], true, []⟩,
  ⟨some 4, .mv (.t 11), none, [], true, []⟩]) (.cond (.t 4) (.skip) (.reg false [
  ⟨some 12, .bin .eql (.t 3) (.c (.one (.v (.int .i64 29)))), none, [], true, []⟩,
  ⟨some 4, .mv (.t 12), none, [], true, []⟩]))))))))))))))) (.cond (.t 4) (.seq (.reg false [
  ⟨some 2, .mv (.c (.one (.v (.bool true)))), none, [], true, []⟩]) (.ret)) (.skip))))) (.seq (.reg false [
  ⟨some 2, .mv (.c (.one (.v (.bool false)))), none, [], true, []⟩]) (.ret))), res := [.t 2] }
theorem F58_ok : mtF Tryd.prog 58 F58 = true := by kernel_rfl
/- wharf/glyph.Len -/
def F59 : Fun := { n := 28, code := .seq (.reg false [
  ⟨some 2, .mv (.c (.one (.v (.int .i64 0)))), none, [], true, []⟩,
  ⟨some 3, .mv (.c (.one (.v (.int .i64 0)))), none, [], true, []⟩]) (.seq (.block 0 (.loop (.seq (.seq (.reg false [
  ⟨some 7, .mv (.t 0), none, [], true, []⟩,
  ⟨some 8, .bin .neq (.t 7) (.c (.one (.v (.string ⟨#[]⟩)))), none, [], true, []⟩]) (.cond (.t 8) (.skip) (.exit 0))) (.block 1 (.seq (.reg false [
  ⟨some 10, .mv (.t 0), none, [], true, []⟩,
  ⟨some 11, .call 70 [.t 10], none, [], true, []⟩,
  ⟨some 9, .mv (.t 11), none, [], true, []⟩,
  ⟨some 12, .ext (.t 9) 0, none, [], true, []⟩,
  ⟨some 13, .ext (.t 9) 1, none, [], true, []⟩,
  ⟨some 14, .ext (.t 9) 2, none, [], true, []⟩,
  ⟨some 4, .mv (.t 12), none, [], true, []⟩,
  ⟨some 5, .mv (.t 13), none, [], true, []⟩,
  ⟨some 6, .mv (.t 14), none, [], true, []⟩]) (.seq (.seq (.reg false [
  ⟨some 15, .mv (.t 6), none, [], true, []⟩,
  ⟨some 16, .bin .neq (.t 15) (.c (.one (.v (.int .i64 0)))), none, [], true, []⟩,
  ⟨some 17, .mv (.t 16), none, [], true, []⟩,
  ⟨some 18, .mv (.t 4), some (17, false), [], true, []⟩,
  ⟨some 19, .call 71 [.t 18], some (17, false), [], true, []⟩,
  ⟨some 20, .un .not (.t 19), some (17, false), [], true, []⟩,
  ⟨some 21, .pick (.t 17) (.c (.one (.v (.bool true)))) (.t 20), none, [], true, []⟩]) (.cond (.t 21) (.seq (.reg false [
  ⟨some 2, .mv (.c (.one (.v (.int .i64 0)))), none, [], true, []⟩,
  ⟨some 3, .mv (.c (.one (.v (.int .i64 10)))), none, [], true, []⟩]) (.ret)) (.skip))) (.seq (.reg false [
  ⟨some 22, .mv (.t 2), none, [], true, []⟩,
  ⟨some 23, .bin .add (.t 22) (.c (.one (.v (.int .i64 1)))), none, [], true, []⟩,
  ⟨some 2, .mv (.t 23), none, [], true, []⟩]) (.reg false [
  ⟨some 24, .mv (.t 0), none, [], true, []⟩,
  ⟨some 25, .mv (.t 5), none, [], true, []⟩,
  ⟨some 26, .sls (.t 24) (some (.t 25)) none, none, [], true, []⟩,
  ⟨some 0, .mv (.t 26), none, [], true, []⟩])))))))) (.seq (.reg false [
  ⟨some 27, .mv (.t 2), none, [], true, []⟩,
  ⟨some 2, .mv (.t 27), none, [], true, []⟩,
  ⟨some 3, .mv (.c (.one (.v (.int .i64 0)))), none, [], true, []⟩]) (.ret))), res := [.t 2, .t 3] }
theorem F59_ok : mtF Tryd.prog 59 F59 = true := by kernel_rfl
/- wharf/handle.isNumber -/
def F60 : Fun := { n := 28, code := .seq (.reg false [
  ⟨some 2, .mv (.c (.one (.v (.bool false)))), none, [], true, []⟩]) (.seq (.seq (.reg false [
  ⟨some 4, .mv (.t 0), none, [], true, []⟩,
  ⟨some 5, .len true (.t 4), none, [], true, []⟩,
  ⟨some 6, .mv (.c (.one (.v (.int .i64 0)))), none, [], true, []⟩]) (.block 0 (.loop (.seq (.reg false [
  ⟨some 7, .bin .lss (.t 6) (.t 5), none, [], true, []⟩]) (.seq (.cond (.t 7) (.skip) (.exit 0)) (.seq (.block 1 (.seq (.reg false [
  ⟨some 8, .mv (.t 6), none, [], true, []⟩,
  ⟨some 3, .mv (.t 8), none, [], true, []⟩]) (.seq (.reg false [
  ⟨some 9, .mv (.t 0), none, [], true, []⟩,
  ⟨some 10, .mv (.t 3), none, [], true, []⟩,
  ⟨some 11, .idx (.t 9) (.t 10), none, [], true, []⟩,
  ⟨some 12, .call 72 [.t 11], none, [], true, []⟩,
  ⟨some 13, .un .not (.t 12), none, [], true, []⟩,
  ⟨some 14, .mv (.t 13), none, [], true, []⟩,
  ⟨some 15, .mv (.t 0), some (14, false), [], true, []⟩,
  ⟨some 16, .idx (.t 15) (.c (.one (.v (.int .i64 0)))), some (14, false), [], true, []⟩,
  ⟨some 17, .bin .eql (.t 16) (.c (.one (.v (.int .u8 48)))), some (14, false), [], true, []⟩,
  ⟨some 18, .pick (.t 14) (.c (.one (.v (.bool true)))) (.t 17), none, [], true, []⟩]) (.cond (.t 18) (.seq (.reg false [
  ⟨some 2, .mv (.c (.one (.v (.bool false)))), none, [], true, []⟩]) (.ret)) (.skip))))) (.reg false [
  ⟨some 19, .bin .add (.t 6) (.c (.one (.v (.int .i64 1)))), none, [], true, []⟩,
  ⟨some 6, .mv (.t 19), none, [], true, []⟩]))))))) (.seq (.reg false [
  ⟨some 20, .mv (.t 0), none, [], true, []⟩,
  ⟨some 21, .len true (.t 20), none, [], true, []⟩,
  ⟨some 22, .bin .geq (.t 21) (.c (.one (.v (.int .i64 5)))), none, [], true, []⟩,
  ⟨some 23, .mv (.t 22), none, [], true, []⟩,
  ⟨some 24, .mv (.t 0), some (23, true), [], true, []⟩,
  ⟨some 25, .len true (.t 24), some (23, true), [], true, []⟩,
  ⟨some 26, .bin .leq (.t 25) (.c (.one (.v (.int .i64 9)))), some (23, true), [], true, []⟩,
  ⟨some 27, .pick (.t 23) (.t 26) (.c (.one (.v (.bool false)))), none, [], true, []⟩,
  ⟨some 2, .mv (.t 27), none, [], true, []⟩]) (.ret))), res := [.t 2] }
theorem F60_ok : mtF Tryd.prog 60 F60 = true := by kernel_rfl
/- wharf/handle.isScreenName -/
def F61 : Fun := { n := 54, code := .seq (.reg false [
  ⟨some 2, .mv (.c (.one (.v (.bool false)))), none, [], true, []⟩]) (.seq (.seq (.reg false [
  ⟨some 6, .mv (.t 0), none, [], true, []⟩,
  ⟨some 7, .call 43 [.t 6], none, [], true, []⟩,
  ⟨some 8, .len true (.t 7), none, [], true, []⟩,
  ⟨some 9, .bin .lss (.t 8) (.c (.one (.v (.int .i64 3)))), none, [], true, []⟩,
  ⟨some 10, .mv (.t 9), none, [], true, []⟩,
  ⟨some 11, .mv (.t 0), some (10, false), [], true, []⟩,
  ⟨some 12, .len true (.t 11), some (10, false), [], true, []⟩,
  ⟨some 13, .bin .gtr (.t 12) (.c (.one (.v (.int .i64 16)))), some (10, false), [], true, []⟩,
  ⟨some 14, .pick (.t 10) (.c (.one (.v (.bool true)))) (.t 13), none, [], true, []⟩,
  ⟨some 15, .mv (.t 14), none, [], true, []⟩,
  ⟨some 16, .mv (.t 0), some (15, false), [], true, []⟩,
  ⟨some 17, .idx (.t 16) (.c (.one (.v (.int .i64 0)))), some (15, false), [], true, []⟩,
  ⟨some 18, .call 73 [.t 17], some (15, false), [], true, []⟩,
  ⟨some 19, .un .not (.t 18), some (15, false), [], true, []⟩,
  ⟨some 20, .pick (.t 15) (.c (.one (.v (.bool true)))) (.t 19), none, [], true, []⟩]) (.cond (.t 20) (.seq (.reg false [
  ⟨some 2, .mv (.c (.one (.v (.bool false)))), none, [], true, []⟩]) (.ret)) (.skip))) (.seq (.reg false [
  ⟨some 3, .mv (.c (.one (.v (.int .i64 0)))), none, [], true, []⟩]) (.seq (.seq (.reg false [
  ⟨some 21, .mv (.t 0), none, [], true, []⟩,
  ⟨some 22, .len true (.t 21), none, [], true, []⟩,
  ⟨some 23, .mv (.c (.one (.v (.int .i64 0)))), none, [], true, []⟩]) (.block 0 (.loop (.seq (.reg false [
  ⟨some 24, .bin .lss (.t 23) (.t 22), none, [], true, []⟩]) (.seq (.cond (.t 24) (.skip) (.exit 0)) (.seq (.block 1 (.seq (.reg false [
  ⟨some 25, .mv (.t 23), none, [], true, []⟩,
  ⟨some 4, .mv (.t 25), none, [], true, []⟩]) (.seq (.reg false [
  ⟨some 26, .mv (.t 0), none, [], true, []⟩,
  ⟨some 27, .mv (.t 4), none, [], true, []⟩,
  ⟨some 28, .idx (.t 26) (.t 27), none, [], true, []⟩,
  ⟨some 5, .mv (.t 28), none, [], true, []⟩]) (.seq (.reg false [
  ⟨some 29, .mv (.t 5), none, [], true, []⟩]) (.block 2 (.seq (.block 6 (.seq (.block 5 (.seq (.block 4 (.seq (.block 3 (.seq (.seq (.seq (.reg false [
  ⟨some 31, .bin .eql (.t 29) (.c (.one (.v (.int .u8 64)))), none, [], true, []⟩,
  ⟨some 30, .mv (.t 31), none, [], true, []⟩]) (.cond (.t 30) (.exit 3) (.skip))) (.seq (.seq (.reg false [
  ⟨some 33, .bin .eql (.t 29) (.c (.one (.v (.int .u8 32)))), none, [], true, []⟩,
  ⟨some 32, .mv (.t 33), none, [], true, []⟩]) (.cond (.t 32) (.exit 4) (.skip))) (.seq (.reg false [
  ⟨some 35, .bin .eql (.t 29) (.c (.one (.v (.int .u8 46)))), none, [], true, []⟩,
  ⟨some 34, .mv (.t 35), none, [], true, []⟩]) (.cond (.t 34) (.exit 5) (.skip))))) (.exit 6))) (.reg false [
  ⟨some 36, .mv (.t 3), none, [], true, []⟩,
  ⟨some 37, .bin .add (.t 36) (.c (.one (.v (.int .i64 1)))), none, [], true, []⟩,
  ⟨some 3, .mv (.t 37), none, [], true, []⟩]))) (.seq (.seq (.reg false [
  ⟨some 38, .mv (.t 4), none, [], true, []⟩,
  ⟨some 39, .mv (.t 0), none, [], true, []⟩,
  ⟨some 40, .len true (.t 39), none, [], true, []⟩,
  ⟨some 41, .bin .sub (.t 40) (.c (.one (.v (.int .i64 1)))), none, [], true, []⟩,
  ⟨some 42, .bin .eql (.t 38) (.t 41), none, [], true, []⟩]) (.cond (.t 42) (.seq (.reg false [
  ⟨some 2, .mv (.c (.one (.v (.bool false)))), none, [], true, []⟩]) (.ret)) (.skip))) (.exit 2)))) (.exit 2))) (.seq (.seq (.reg false [
  ⟨some 43, .mv (.t 5), none, [], true, []⟩,
  ⟨some 44, .call 73 [.t 43], none, [], true, []⟩,
  ⟨some 45, .un .not (.t 44), none, [], true, []⟩,
  ⟨some 46, .mv (.t 45), none, [], true, []⟩,
  ⟨some 47, .mv (.t 5), some (46, true), [], true, []⟩,
  ⟨some 48, .call 72 [.t 47], some (46, true), [], true, []⟩,
  ⟨some 49, .un .not (.t 48), some (46, true), [], true, []⟩,
  ⟨some 50, .pick (.t 46) (.t 49) (.c (.one (.v (.bool false)))), none, [], true, []⟩]) (.cond (.t 50) (.seq (.reg false [
  ⟨some 2, .mv (.c (.one (.v (.bool false)))), none, [], true, []⟩]) (.ret)) (.skip))) (.exit 2)))))))) (.reg false [
  ⟨some 51, .bin .add (.t 23) (.c (.one (.v (.int .i64 1)))), none, [], true, []⟩,
  ⟨some 23, .mv (.t 51), none, [], true, []⟩]))))))) (.seq (.reg false [
  ⟨some 52, .mv (.t 3), none, [], true, []⟩,
  ⟨some 53, .bin .leq (.t 52) (.c (.one (.v (.int .i64 1)))), none, [], true, []⟩,
  ⟨some 2, .mv (.t 53), none, [], true, []⟩]) (.ret))))), res := [.t 2] }
theorem F61_ok : mtF Tryd.prog 61 F61 = true := by kernel_rfl
/- wharf/digest.sines -/
def F62 : Fun := { n := 2, code := .seq (.reg false [
  ⟨some 0, .alloc 93 [.v (.int .u32 0), .v (.int .u32 0), .v (.int .u32 0), .v (.int .u32 0), .v (.int .u32 0), .v (.int .u32 0), .v (.int .u32 0), .v (.int .u32 0), .v (.int .u32 0), .v (.int .u32 0), .v (.int .u32 0), .v (.int .u32 0), .v (.int .u32 0), .v (.int .u32 0), .v (.int .u32 0), .v (.int .u32 0), .v (.int .u32 0), .v (.int .u32 0), .v (.int .u32 0), .v (.int .u32 0), .v (.int .u32 0), .v (.int .u32 0), .v (.int .u32 0), .v (.int .u32 0), .v (.int .u32 0), .v (.int .u32 0), .v (.int .u32 0), .v (.int .u32 0), .v (.int .u32 0), .v (.int .u32 0), .v (.int .u32 0), .v (.int .u32 0), .v (.int .u32 0), .v (.int .u32 0), .v (.int .u32 0), .v (.int .u32 0), .v (.int .u32 0), .v (.int .u32 0), .v (.int .u32 0), .v (.int .u32 0), .v (.int .u32 0), .v (.int .u32 0), .v (.int .u32 0), .v (.int .u32 0), .v (.int .u32 0), .v (.int .u32 0), .v (.int .u32 0), .v (.int .u32 0), .v (.int .u32 0), .v (.int .u32 0), .v (.int .u32 0), .v (.int .u32 0), .v (.int .u32 0), .v (.int .u32 0), .v (.int .u32 0), .v (.int .u32 0), .v (.int .u32 0), .v (.int .u32 0), .v (.int .u32 0), .v (.int .u32 0), .v (.int .u32 0), .v (.int .u32 0), .v (.int .u32 0), .v (.int .u32 0)], none, [], true, []⟩]) (.seq (.regp [
  .k (some 1) (.bda [.v (.int .u32 0), .v (.int .u32 0), .v (.int .u32 0), .v (.int .u32 0), .v (.int .u32 0), .v (.int .u32 0), .v (.int .u32 0), .v (.int .u32 0), .v (.int .u32 0), .v (.int .u32 0), .v (.int .u32 0), .v (.int .u32 0), .v (.int .u32 0), .v (.int .u32 0), .v (.int .u32 0), .v (.int .u32 0), .v (.int .u32 0), .v (.int .u32 0), .v (.int .u32 0), .v (.int .u32 0), .v (.int .u32 0), .v (.int .u32 0), .v (.int .u32 0), .v (.int .u32 0), .v (.int .u32 0), .v (.int .u32 0), .v (.int .u32 0), .v (.int .u32 0), .v (.int .u32 0), .v (.int .u32 0), .v (.int .u32 0), .v (.int .u32 0), .v (.int .u32 0), .v (.int .u32 0), .v (.int .u32 0), .v (.int .u32 0), .v (.int .u32 0), .v (.int .u32 0), .v (.int .u32 0), .v (.int .u32 0), .v (.int .u32 0), .v (.int .u32 0), .v (.int .u32 0), .v (.int .u32 0), .v (.int .u32 0), .v (.int .u32 0), .v (.int .u32 0), .v (.int .u32 0), .v (.int .u32 0), .v (.int .u32 0), .v (.int .u32 0), .v (.int .u32 0), .v (.int .u32 0), .v (.int .u32 0), .v (.int .u32 0), .v (.int .u32 0), .v (.int .u32 0), .v (.int .u32 0), .v (.int .u32 0), .v (.int .u32 0), .v (.int .u32 0), .v (.int .u32 0), .v (.int .u32 0), .v (.int .u32 0)] [(0, 1, .c (.one (.v (.int .u32 3614090360)))), (1, 1, .c (.one (.v (.int .u32 3905402710)))), (2, 1, .c (.one (.v (.int .u32 606105819)))), (3, 1, .c (.one (.v (.int .u32 3250441966)))), (4, 1, .c (.one (.v (.int .u32 4118548399)))), (5, 1, .c (.one (.v (.int .u32 1200080426)))), (6, 1, .c (.one (.v (.int .u32 2821735955)))), (7, 1, .c (.one (.v (.int .u32 4249261313)))), (8, 1, .c (.one (.v (.int .u32 1770035416)))), (9, 1, .c (.one (.v (.int .u32 2336552879)))), (10, 1, .c (.one (.v (.int .u32 4294925233)))), (11, 1, .c (.one (.v (.int .u32 2304563134)))), (12, 1, .c (.one (.v (.int .u32 1804603682)))), (13, 1, .c (.one (.v (.int .u32 4254626195)))), (14, 1, .c (.one (.v (.int .u32 2792965006)))), (15, 1, .c (.one (.v (.int .u32 1236535329)))), (16, 1, .c (.one (.v (.int .u32 4129170786)))), (17, 1, .c (.one (.v (.int .u32 3225465664)))), (18, 1, .c (.one (.v (.int .u32 643717713)))), (19, 1, .c (.one (.v (.int .u32 3921069994)))), (20, 1, .c (.one (.v (.int .u32 3593408605)))), (21, 1, .c (.one (.v (.int .u32 38016083)))), (22, 1, .c (.one (.v (.int .u32 3634488961)))), (23, 1, .c (.one (.v (.int .u32 3889429448)))), (24, 1, .c (.one (.v (.int .u32 568446438)))), (25, 1, .c (.one (.v (.int .u32 3275163606)))), (26, 1, .c (.one (.v (.int .u32 4107603335)))), (27, 1, .c (.one (.v (.int .u32 1163531501)))), (28, 1, .c (.one (.v (.int .u32 2850285829)))), (29, 1, .c (.one (.v (.int .u32 4243563512)))), (30, 1, .c (.one (.v (.int .u32 1735328473)))), (31, 1, .c (.one (.v (.int .u32 2368359562)))), (32, 1, .c (.one (.v (.int .u32 4294588738)))), (33, 1, .c (.one (.v (.int .u32 2272392833)))), (34, 1, .c (.one (.v (.int .u32 1839030562)))), (35, 1, .c (.one (.v (.int .u32 4259657740)))), (36, 1, .c (.one (.v (.int .u32 2763975236)))), (37, 1, .c (.one (.v (.int .u32 1272893353)))), (38, 1, .c (.one (.v (.int .u32 4139469664)))), (39, 1, .c (.one (.v (.int .u32 3200236656)))), (40, 1, .c (.one (.v (.int .u32 681279174)))), (41, 1, .c (.one (.v (.int .u32 3936430074)))), (42, 1, .c (.one (.v (.int .u32 3572445317)))), (43, 1, .c (.one (.v (.int .u32 76029189)))), (44, 1, .c (.one (.v (.int .u32 3654602809)))), (45, 1, .c (.one (.v (.int .u32 3873151461)))), (46, 1, .c (.one (.v (.int .u32 530742520)))), (47, 1, .c (.one (.v (.int .u32 3299628645)))), (48, 1, .c (.one (.v (.int .u32 4096336452)))), (49, 1, .c (.one (.v (.int .u32 1126891415)))), (50, 1, .c (.one (.v (.int .u32 2878612391)))), (51, 1, .c (.one (.v (.int .u32 4237533241)))), (52, 1, .c (.one (.v (.int .u32 1700485571)))), (53, 1, .c (.one (.v (.int .u32 2399980690)))), (54, 1, .c (.one (.v (.int .u32 4293915773)))), (55, 1, .c (.one (.v (.int .u32 2240044497)))), (56, 1, .c (.one (.v (.int .u32 1873313359)))), (57, 1, .c (.one (.v (.int .u32 4264355552)))), (58, 1, .c (.one (.v (.int .u32 2734768916)))), (59, 1, .c (.one (.v (.int .u32 1309151649)))), (60, 1, .c (.one (.v (.int .u32 4149444226)))), (61, 1, .c (.one (.v (.int .u32 3174756917)))), (62, 1, .c (.one (.v (.int .u32 718787259)))), (63, 1, .c (.one (.v (.int .u32 3951481745))))]),
  .r ⟨none, .store 64 (.t 0) (.t 1), none, [], true, []⟩]) (.ret)), res := [.c 0 64 true] }
theorem F62_ok : mtF Tryd.prog 62 F62 = true := by kernel_rfl
/- wharf/digest.filled -/
def F63 : Fun := { n := 52, code := .seq (.reg false [
  ⟨some 4, .mv (.c (.one (.sl .full 1 []))), none, [], true, []⟩]) (.seq (.regp [
  .r ⟨some 9, .mv (.t 0), none, [], true, []⟩,
  .r ⟨some 10, .len true (.t 9), none, [], true, []⟩,
  .r ⟨some 11, .mv (.t 0), none, [], true, []⟩,
  .r ⟨some 12, .len true (.t 11), none, [], true, []⟩,
  .r ⟨some 13, .bin .add (.t 12) (.c (.one (.v (.int .i64 72)))), none, [], true, []⟩,
  .k (some 14) (.mk 5 (.v (.int .u8 0)) 1 (.t 10) (.t 13)),
  .r ⟨some 5, .mv (.t 14), none, [], true, []⟩]) (.seq (.regp [
  .r ⟨some 15, .mv (.t 5), none, [], true, []⟩,
  .r ⟨some 16, .mv (.t 0), none, [], true, []⟩,
  .k (some 17) (.cp (.t 15) (.t 16))]) (.seq (.regp [
  .k (some 18) (.fz 5 (.t 5)),
  .r ⟨some 19, .bsl 5 1 [.c (.one (.v (.int .u8 128)))], none, [], true, []⟩,
  .r ⟨some 20, .app 5 1 1 (.t 18) (.t 19), none, [], true, []⟩,
  .r ⟨some 5, .mv (.t 20), none, [], true, []⟩]) (.seq (.block 0 (.loop (.seq (.seq (.reg false [
  ⟨some 21, .mv (.t 5), none, [], true, []⟩,
  ⟨some 22, .len false (.t 21), none, [], true, []⟩,
  ⟨some 23, .bin .rem (.t 22) (.c (.one (.v (.int .i64 64)))), none, [], true, []⟩,
  ⟨some 24, .bin .neq (.t 23) (.c (.one (.v (.int .i64 56)))), none, [], true, []⟩]) (.cond (.t 24) (.skip) (.exit 0))) (.block 1 (.reg false [
  ⟨some 25, .mv (.t 5), none, [], true, []⟩,
  ⟨some 26, .bsl 5 1 [.c (.one (.v (.int .u8 0)))], none, [], true, []⟩,
  ⟨some 27, .app 5 1 1 (.t 25) (.t 26), none, [], true, []⟩,
  ⟨some 5, .mv (.t 27), none, [], true, []⟩]))))) (.seq (.reg false [
  ⟨some 28, .mv (.t 0), none, [], true, []⟩,
  ⟨some 29, .len true (.t 28), none, [], true, []⟩,
  ⟨some 30, .cvi .u64 (.t 29), none, [], true, []⟩,
  ⟨some 31, .bin .shl (.t 30) (.c (.one (.v (.int .u64 3)))), none, [], true, []⟩,
  ⟨some 6, .mv (.t 31), none, [], true, []⟩]) (.seq (.reg false [
  ⟨some 32, .mv (.t 6), none, [], true, []⟩,
  ⟨some 33, .cvi .u32 (.t 32), none, [], true, []⟩,
  ⟨some 34, .mv (.t 6), none, [], true, []⟩,
  ⟨some 35, .bin .shr (.t 34) (.c (.one (.v (.int .u64 32)))), none, [], true, []⟩,
  ⟨some 36, .cvi .u32 (.t 35), none, [], true, []⟩,
  ⟨some 7, .mv (.t 33), none, [], true, []⟩,
  ⟨some 8, .mv (.t 36), none, [], true, []⟩]) (.seq (.seq (.reg false [
  ⟨some 37, .mv (.t 1), none, [], true, []⟩]) (.cond (.t 37) (.seq (.regp [
  .r ⟨some 38, .mv (.t 5), none, [], true, []⟩,
  .r ⟨some 39, .mv (.t 7), none, [], true, []⟩,
  .r ⟨some 40, .mv (.t 1), none, [], true, []⟩,
  .t (some 41) 65 5 (.t 38) [.t 39, .t 40],
  .r ⟨some 42, .mv (.t 8), none, [], true, []⟩,
  .r ⟨some 43, .mv (.t 1), none, [], true, []⟩,
  .t (some 44) 65 5 (.t 41) [.t 42, .t 43],
  .r ⟨some 4, .mv (.t 44), none, [], true, []⟩]) (.ret)) (.skip))) (.seq (.regp [
  .r ⟨some 45, .mv (.t 5), none, [], true, []⟩,
  .r ⟨some 46, .mv (.t 8), none, [], true, []⟩,
  .r ⟨some 47, .mv (.t 1), none, [], true, []⟩,
  .t (some 48) 65 5 (.t 45) [.t 46, .t 47],
  .r ⟨some 49, .mv (.t 7), none, [], true, []⟩,
  .r ⟨some 50, .mv (.t 1), none, [], true, []⟩,
  .t (some 51) 65 5 (.t 48) [.t 49, .t 50],
  .r ⟨some 4, .mv (.t 51), none, [], true, []⟩]) (.ret))))))))), res := [.t 4] }
theorem F63_ok : mtF Tryd.prog 63 F63 = true := by kernel_rfl
/- (*wharf/digest.md5).block -/
def F64 : Fun := { n := 86, code := .seq (.reg false [
  ⟨some 6, .alloc 105 [.v (.int .u32 0), .v (.int .u32 0), .v (.int .u32 0), .v (.int .u32 0), .v (.int .u32 0), .v (.int .u32 0), .v (.int .u32 0), .v (.int .u32 0), .v (.int .u32 0), .v (.int .u32 0), .v (.int .u32 0), .v (.int .u32 0), .v (.int .u32 0), .v (.int .u32 0), .v (.int .u32 0), .v (.int .u32 0)], none, [], true, []⟩]) (.seq (.seq (.reg false [
  ⟨some 14, .mv (.c (.one (.v (.int .i64 0)))), none, [], true, []⟩]) (.block 0 (.loop (.seq (.reg false [
  ⟨some 15, .bin .lss (.t 14) (.c (.one (.v (.int .i64 16)))), none, [], true, []⟩]) (.seq (.cond (.t 15) (.skip) (.exit 0)) (.seq (.block 1 (.seq (.reg false [
  ⟨some 16, .mv (.t 14), none, [], true, []⟩,
  ⟨some 7, .mv (.t 16), none, [], true, []⟩]) (.reg false [
  ⟨some 17, .mv (.t 7), none, [], true, []⟩,
  ⟨some 18, .mv (.t 1), none, [], true, []⟩,
  ⟨some 19, .mv (.t 7), none, [], true, []⟩,
  ⟨some 20, .bin .mul (.c (.one (.v (.int .i64 4)))) (.t 19), none, [], true, []⟩,
  ⟨some 21, .sll 1 (.t 18) (some (.t 20)) none, none, [], true, []⟩,
  ⟨some 22, .call 74 [.t 21, .c (.one (.v (.bool true)))], none, [], true, []⟩,
  ⟨some 23, .iada 16 1 (.t 6) (.t 17), none, [], true, []⟩,
  ⟨none, .store 1 (.t 23) (.t 22), none, [], true, []⟩]))) (.reg false [
  ⟨some 24, .bin .add (.t 14) (.c (.one (.v (.int .i64 1)))), none, [], true, []⟩,
  ⟨some 14, .mv (.t 24), none, [], true, []⟩]))))))) (.seq (.reg false [
  ⟨some 25, .mv (.t 0), none, [], true, []⟩,
  ⟨some 26, .nchk (.t 25), none, [], true, []⟩,
  ⟨some 27, .load 4 true (.t 26), none, [], true, []⟩,
  ⟨some 8, .alloc 92 [.v (.int .u32 0), .v (.int .u32 0), .v (.int .u32 0), .v (.int .u32 0)], none, [], true, []⟩,
  ⟨none, .store 4 (.t 8) (.t 27), none, [], true, []⟩]) (.seq (.seq (.reg false [
  ⟨some 28, .mv (.c (.one (.v (.int .i64 0)))), none, [], true, []⟩]) (.block 2 (.loop (.seq (.reg false [
  ⟨some 29, .bin .lss (.t 28) (.c (.one (.v (.int .i64 64)))), none, [], true, []⟩]) (.seq (.cond (.t 29) (.skip) (.exit 2)) (.seq (.block 3 (.seq (.reg false [
  ⟨some 30, .mv (.t 28), none, [], true, []⟩,
  ⟨some 9, .mv (.t 30), none, [], true, []⟩]) (.seq (.reg false [
  ⟨some 32, .iada 4 1 (.t 8) (.c (.one (.v (.int .i64 1)))), none, [], true, []⟩,
  ⟨some 33, .load 1 false (.t 32), none, [], true, []⟩,
  ⟨some 34, .iada 4 1 (.t 8) (.c (.one (.v (.int .i64 2)))), none, [], true, []⟩,
  ⟨some 35, .load 1 false (.t 34), none, [], true, []⟩,
  ⟨some 36, .iada 4 1 (.t 8) (.c (.one (.v (.int .i64 3)))), none, [], true, []⟩,
  ⟨some 37, .load 1 false (.t 36), none, [], true, []⟩,
  ⟨some 38, .mv (.t 9), none, [], true, []⟩,
  ⟨some 39, .call 75 [.t 33, .t 35, .t 37, .t 38], none, [], true, []⟩,
  ⟨some 31, .mv (.t 39), none, [], true, []⟩,
  ⟨some 40, .ext (.t 31) 0, none, [], true, []⟩,
  ⟨some 41, .ext (.t 31) 1, none, [], true, []⟩,
  ⟨some 10, .mv (.t 40), none, [], true, []⟩,
  ⟨some 11, .mv (.t 41), none, [], true, []⟩]) (.seq (.reg true [
  ⟨some 42, .iada 4 1 (.t 8) (.c (.one (.v (.int .i64 0)))), none, [], false, []⟩,
  ⟨some 43, .load 1 false (.t 42), none, [0], false, []⟩,
  ⟨some 44, .mv (.t 10), none, [], false, []⟩,
  ⟨some 45, .bin .add (.t 43) (.t 44), none, [1, 2], false, []⟩,
  ⟨some 46, .mv (.t 2), none, [], false, []⟩,
  ⟨some 47, .mv (.t 9), none, [], false, []⟩,
  ⟨some 48, .nchk (.t 46), none, [4], false, []⟩,
  ⟨some 49, .iada 64 1 (.t 48) (.t 47), none, [6, 5], false, []⟩,
  ⟨some 50, .load 1 false (.t 49), none, [7], false, []⟩,
  ⟨some 51, .bin .add (.t 45) (.t 50), none, [3, 8], false, []⟩,
  ⟨some 52, .mv (.t 11), none, [], false, []⟩,
  ⟨some 53, .iada 16 1 (.t 6) (.t 52), none, [10], false, []⟩,
  ⟨some 54, .load 1 false (.t 53), none, [11], false, []⟩,
  ⟨some 55, .bin .add (.t 51) (.t 54), none, [9, 12], false, []⟩,
  ⟨some 56, .mv (.t 9), none, [], false, []⟩,
  ⟨some 57, .call 77 [.t 56], none, [14], false, []⟩,
  ⟨some 58, .call 76 [.t 55, .t 57], none, [13, 15, 15], false, []⟩,
  ⟨some 12, .mv (.t 58), none, [16, 16, 0, 1, 2, 3, 4, 5, 6, 7, 8, 9, 10, 11, 12, 13, 14, 15, 16], false, []⟩]) (.regp [
  .r ⟨some 59, .iada 4 1 (.t 8) (.c (.one (.v (.int .i64 3)))), none, [], true, []⟩,
  .r ⟨some 60, .load 1 false (.t 59), none, [], true, []⟩,
  .r ⟨some 61, .iada 4 1 (.t 8) (.c (.one (.v (.int .i64 1)))), none, [], true, []⟩,
  .r ⟨some 62, .load 1 false (.t 61), none, [], true, []⟩,
  .r ⟨some 63, .mv (.t 12), none, [], true, []⟩,
  .r ⟨some 64, .bin .add (.t 62) (.t 63), none, [], true, []⟩,
  .r ⟨some 65, .iada 4 1 (.t 8) (.c (.one (.v (.int .i64 1)))), none, [], true, []⟩,
  .r ⟨some 66, .load 1 false (.t 65), none, [], true, []⟩,
  .r ⟨some 67, .iada 4 1 (.t 8) (.c (.one (.v (.int .i64 2)))), none, [], true, []⟩,
  .r ⟨some 68, .load 1 false (.t 67), none, [], true, []⟩,
  .k (some 69) (.bda [.v (.int .u32 0), .v (.int .u32 0), .v (.int .u32 0), .v (.int .u32 0)] [(0, 1, .t 60), (1, 1, .t 64), (2, 1, .t 66), (3, 1, .t 68)]),
  .r ⟨none, .store 4 (.t 8) (.t 69), none, [], true, []⟩]))))) (.reg false [
  ⟨some 70, .bin .add (.t 28) (.c (.one (.v (.int .i64 1)))), none, [], true, []⟩,
  ⟨some 28, .mv (.t 70), none, [], true, []⟩]))))))) (.seq (.reg false [
  ⟨some 71, .mv (.c (.one (.v (.int .i64 0)))), none, [], true, []⟩]) (.block 4 (.loop (.seq (.reg false [
  ⟨some 72, .bin .lss (.t 71) (.c (.one (.v (.int .i64 4)))), none, [], true, []⟩]) (.seq (.cond (.t 72) (.skip) (.exit 4)) (.seq (.block 5 (.seq (.reg false [
  ⟨some 73, .mv (.t 71), none, [], true, []⟩,
  ⟨some 13, .mv (.t 73), none, [], true, []⟩]) (.reg true [
  ⟨some 74, .mv (.t 0), none, [], false, []⟩,
  ⟨some 75, .mv (.t 13), none, [], false, []⟩,
  ⟨some 76, .nchk (.t 74), none, [0], false, []⟩,
  ⟨some 77, .iada 4 1 (.t 76) (.t 75), none, [2, 1], false, []⟩,
  ⟨some 78, .load 1 false (.t 77), none, [3], false, []⟩,
  ⟨some 79, .mv (.t 13), none, [], false, []⟩,
  ⟨some 80, .iada 4 1 (.t 8) (.t 79), none, [5], false, []⟩,
  ⟨some 81, .load 1 false (.t 80), none, [6], false, []⟩,
  ⟨some 82, .bin .add (.t 78) (.t 81), none, [4, 7], false, []⟩,
  ⟨some 83, .nchk (.t 74), none, [0], false, []⟩,
  ⟨some 84, .iada 4 1 (.t 83) (.t 75), none, [9, 1, 0, 1, 2, 3, 4, 5, 6, 7, 8], false, []⟩,
  ⟨none, .store 1 (.t 84) (.t 82), none, [10, 8, 0, 1, 2, 3, 4, 5, 6, 7, 8], true, []⟩]))) (.reg false [
  ⟨some 85, .bin .add (.t 71) (.c (.one (.v (.int .i64 1)))), none, [], true, []⟩,
  ⟨some 71, .mv (.t 85), none, [], true, []⟩])))))))))), res := [] }
theorem F64_ok : mtF Tryd.prog 64 F64 = true := by kernel_rfl
/- wharf/digest.appended -/
def F65 : Fun := { n := 24, code := .seq (.reg false [
  ⟨some 6, .mv (.c (.one (.sl .full 1 []))), none, [], true, []⟩]) (.seq (.seq (.reg false [
  ⟨some 7, .mv (.t 2), none, [], true, []⟩]) (.cond (.t 7) (.reg false [
  ⟨some 8, .mv (.t 1), none, [], true, []⟩,
  ⟨some 9, .call 78 [.t 8], none, [], true, []⟩,
  ⟨some 1, .mv (.t 9), none, [], true, []⟩]) (.skip))) (.seq (.reg false [
  ⟨some 10, .mv (.t 0), none, [], true, []⟩,
  ⟨some 11, .mv (.t 1), none, [], true, []⟩,
  ⟨some 12, .bin .shr (.t 11) (.c (.one (.v (.int .u64 24)))), none, [], true, []⟩,
  ⟨some 13, .cvi .u8 (.t 12), none, [], true, []⟩,
  ⟨some 14, .mv (.t 1), none, [], true, []⟩,
  ⟨some 15, .bin .shr (.t 14) (.c (.one (.v (.int .u64 16)))), none, [], true, []⟩,
  ⟨some 16, .cvi .u8 (.t 15), none, [], true, []⟩,
  ⟨some 17, .mv (.t 1), none, [], true, []⟩,
  ⟨some 18, .bin .shr (.t 17) (.c (.one (.v (.int .u64 8)))), none, [], true, []⟩,
  ⟨some 19, .cvi .u8 (.t 18), none, [], true, []⟩,
  ⟨some 20, .mv (.t 1), none, [], true, []⟩,
  ⟨some 21, .cvi .u8 (.t 20), none, [], true, []⟩,
  ⟨some 22, .bsl 5 1 [.t 13, .t 16, .t 19, .t 21], none, [], true, []⟩,
  ⟨some 23, .app 5 1 1 (.t 10) (.t 22), none, [], true, []⟩,
  ⟨some 6, .mv (.t 23), none, [], true, []⟩]) (.ret))), res := [.t 6] }
theorem F65_ok : mtF Tryd.prog 65 F65 = true := by kernel_rfl
/- wharf/glyph.Fold -/
def F67 : Fun := { n := 26, code := .seq (.reg false [
  ⟨some 2, .mv (.c (.one (.v (.string ⟨#[]⟩)))), none, [], true, []⟩]) (.seq (.reg false [
  ⟨some 6, .mv (.t 0), none, [], true, []⟩,
  ⟨some 7, .cvm 5 (.t 6), none, [], true, []⟩,
  ⟨some 3, .mv (.t 7), none, [], true, []⟩]) (.seq (.seq (.reg false [
  ⟨some 8, .mv (.t 3), none, [], true, []⟩,
  ⟨some 9, .len false (.t 8), none, [], true, []⟩,
  ⟨some 10, .mv (.c (.one (.v (.int .i64 0)))), none, [], true, []⟩]) (.block 0 (.loop (.seq (.reg false [
  ⟨some 11, .bin .lss (.t 10) (.t 9), none, [], true, []⟩]) (.seq (.cond (.t 11) (.skip) (.exit 0)) (.seq (.block 1 (.seq (.reg false [
  ⟨some 12, .mv (.t 10), none, [], true, []⟩,
  ⟨some 13, .iad 1 (.t 8) (.t 10), none, [], true, []⟩,
  ⟨some 14, .load 1 false (.t 13), none, [], true, []⟩,
  ⟨some 4, .mv (.t 12), none, [], true, []⟩,
  ⟨some 5, .mv (.t 14), none, [], true, []⟩]) (.seq (.reg false [
  ⟨some 15, .mv (.t 5), none, [], true, []⟩,
  ⟨some 16, .bin .sub (.t 15) (.c (.one (.v (.int .u8 65)))), none, [], true, []⟩,
  ⟨some 17, .bin .lss (.t 16) (.c (.one (.v (.int .u8 26)))), none, [], true, []⟩]) (.cond (.t 17) (.reg false [
  ⟨some 18, .mv (.t 3), none, [], true, []⟩,
  ⟨some 19, .mv (.t 4), none, [], true, []⟩,
  ⟨some 20, .mv (.t 5), none, [], true, []⟩,
  ⟨some 21, .bin .or (.t 20) (.c (.one (.v (.int .u8 32)))), none, [], true, []⟩,
  ⟨some 22, .iad 1 (.t 18) (.t 19), none, [], true, []⟩,
  ⟨none, .store 1 (.t 22) (.t 21), none, [], true, []⟩]) (.skip))))) (.reg false [
  ⟨some 23, .bin .add (.t 10) (.c (.one (.v (.int .i64 1)))), none, [], true, []⟩,
  ⟨some 10, .mv (.t 23), none, [], true, []⟩]))))))) (.seq (.reg false [
  ⟨some 24, .mv (.t 3), none, [], true, []⟩,
  ⟨some 25, .cvs (.t 24), none, [], true, []⟩,
  ⟨some 2, .mv (.t 25), none, [], true, []⟩]) (.ret)))), res := [.t 2] }
theorem F67_ok : mtF Tryd.prog 67 F67 = true := by kernel_rfl
/- wharf/wharfref01.Put -/
def F68 : Fun := { n := 64, code := .seq (.reg false [
  ⟨some 2, .mv (.c (.one (.v (.string ⟨#[]⟩)))), none, [], true, []⟩,
  ⟨some 3, .mv (.c (.one (.v (.int .i64 0)))), none, [], true, []⟩]) (.seq (.seq (.reg false [
  ⟨some 5, .mv (.t 0), none, [], true, []⟩,
  ⟨some 6, .call 80 [.t 5], none, [], true, []⟩,
  ⟨some 7, .un .not (.t 6), none, [], true, []⟩]) (.cond (.t 7) (.seq (.reg false [
  ⟨some 2, .mv (.c (.one (.v (.string ⟨#[]⟩)))), none, [], true, []⟩,
  ⟨some 3, .mv (.c (.one (.v (.int .i64 10)))), none, [], true, []⟩]) (.ret)) (.skip))) (.seq (.reg false [
  ⟨some 4, .mv (.c (.one (.sl .full 1 []))), none, [], true, []⟩]) (.seq (.block 0 (.seq (.reg false [
  ⟨some 28, .mv (.t 0), none, [], true, []⟩,
  ⟨some 29, .bin .lss (.t 28) (.c (.one (.v (.int .i64 128)))), none, [], true, []⟩,
  ⟨some 27, .mv (.t 29), none, [], true, []⟩]) (.cond (.t 27) (.reg false [
  ⟨some 30, .mv (.t 0), none, [], true, []⟩,
  ⟨some 31, .cvi .u8 (.t 30), none, [], true, []⟩,
  ⟨some 32, .bsl 5 1 [.t 31], none, [], true, []⟩,
  ⟨some 4, .mv (.t 32), none, [], true, []⟩]) (.seq (.reg false [
  ⟨some 34, .mv (.t 0), none, [], true, []⟩,
  ⟨some 35, .bin .lss (.t 34) (.c (.one (.v (.int .i64 2048)))), none, [], true, []⟩,
  ⟨some 33, .mv (.t 35), none, [], true, []⟩]) (.cond (.t 33) (.reg false [
  ⟨some 36, .mv (.t 0), none, [], true, []⟩,
  ⟨some 37, .bin .quo (.t 36) (.c (.one (.v (.int .i64 64)))), none, [], true, []⟩,
  ⟨some 38, .bin .add (.c (.one (.v (.int .i64 192)))) (.t 37), none, [], true, []⟩,
  ⟨some 39, .cvi .u8 (.t 38), none, [], true, []⟩,
  ⟨some 40, .mv (.t 0), none, [], true, []⟩,
  ⟨some 41, .bin .rem (.t 40) (.c (.one (.v (.int .i64 64)))), none, [], true, []⟩,
  ⟨some 42, .bin .add (.c (.one (.v (.int .i64 128)))) (.t 41), none, [], true, []⟩,
  ⟨some 43, .cvi .u8 (.t 42), none, [], true, []⟩,
  ⟨some 44, .bsl 5 1 [.t 39, .t 43], none, [], true, []⟩,
  ⟨some 4, .mv (.t 44), none, [], true, []⟩]) (.seq (.reg false [
  ⟨some 46, .mv (.t 0), none, [], true, []⟩,
  ⟨some 47, .bin .lss (.t 46) (.c (.one (.v (.int .i64 65536)))), none, [], true, []⟩,
  ⟨some 45, .mv (.t 47), none, [], true, []⟩]) (.cond (.t 45) (.reg false [
  ⟨some 48, .mv (.t 0), none, [], true, []⟩,
  ⟨some 49, .bin .quo (.t 48) (.c (.one (.v (.int .i64 4096)))), none, [], true, []⟩,
  ⟨some 50, .bin .add (.c (.one (.v (.int .i64 224)))) (.t 49), none, [], true, []⟩,
  ⟨some 51, .cvi .u8 (.t 50), none, [], true, []⟩,
  ⟨some 52, .mv (.t 0), none, [], true, []⟩,
  ⟨some 53, .bin .quo (.t 52) (.c (.one (.v (.int .i64 64)))), none, [], true, []⟩,
  ⟨some 54, .bin .rem (.t 53) (.c (.one (.v (.int .i64 64)))), none, [], true, []⟩,
  ⟨some 55, .bin .add (.c (.one (.v (.int .i64 128)))) (.t 54), none, [], true, []⟩,
  ⟨some 56, .cvi .u8 (.t 55), none, [], true, []⟩,
  ⟨some 57, .mv (.t 0), none, [], true, []⟩,
  ⟨some 58, .bin .rem (.t 57) (.c (.one (.v (.int .i64 64)))), none, [], true, []⟩,
  ⟨some 59, .bin .add (.c (.one (.v (.int .i64 128)))) (.t 58), none, [], true, []⟩,
  ⟨some 60, .cvi .u8 (.t 59), none, [], true, []⟩,
  ⟨some 61, .bsl 5 1 [.t 51, .t 56, .t 60], none, [], true, []⟩,
  ⟨some 4, .mv (.t 61), none, [], true, []⟩]) (.reg false [
  ⟨some 8, .mv (.t 0), none, [], true, []⟩,
  ⟨some 9, .bin .quo (.t 8) (.c (.one (.v (.int .i64 262144)))), none, [], true, []⟩,
  ⟨some 10, .bin .add (.c (.one (.v (.int .i64 240)))) (.t 9), none, [], true, []⟩,
  ⟨some 11, .cvi .u8 (.t 10), none, [], true, []⟩,
  ⟨some 12, .mv (.t 0), none, [], true, []⟩,
  ⟨some 13, .bin .quo (.t 12) (.c (.one (.v (.int .i64 4096)))), none, [], true, []⟩,
  ⟨some 14, .bin .rem (.t 13) (.c (.one (.v (.int .i64 64)))), none, [], true, []⟩,
  ⟨some 15, .bin .add (.c (.one (.v (.int .i64 128)))) (.t 14), none, [], true, []⟩,
  ⟨some 16, .cvi .u8 (.t 15), none, [], true, []⟩,
  ⟨some 17, .mv (.t 0), none, [], true, []⟩,
  ⟨some 18, .bin .quo (.t 17) (.c (.one (.v (.int .i64 64)))), none, [], true, []⟩,
  ⟨some 19, .bin .rem (.t 18) (.c (.one (.v (.int .i64 64)))), none, [], true, []⟩,
  ⟨some 20, .bin .add (.c (.one (.v (.int .i64 128)))) (.t 19), none, [], true, []⟩,
  ⟨some 21, .cvi .u8 (.t 20), none, [], true, []⟩,
  ⟨some 22, .mv (.t 0), none, [], true, []⟩,
  ⟨some 23, .bin .rem (.t 22) (.c (.one (.v (.int .i64 64)))), none, [], true, []⟩,
  ⟨some 24, .bin .add (.c (.one (.v (.int .i64 128)))) (.t 23), none, [], true, []⟩,
  ⟨some 25, .cvi .u8 (.t 24), none, [], true, []⟩,
  ⟨some 26, .bsl 5 1 [.t 11, .t 16, .t 21, .t 25], none, [], true, []⟩,
  ⟨some 4, .mv (.t 26), none, [], true, []⟩])))))))) (.seq (.reg false [
  ⟨some 62, .mv (.t 4), none, [], true, []⟩,
  ⟨some 63, .cvs (.t 62), none, [], true, []⟩,
  ⟨some 2, .mv (.t 63), none, [], true, []⟩,
  ⟨some 3, .mv (.c (.one (.v (.int .i64 0)))), none, [], true, []⟩]) (.ret))))), res := [.t 2, .t 3] }
theorem F68_ok : mtF Tryd.prog 68 F68 = true := by kernel_rfl
/- wharf/wharfref01.Fold -/
def F69 : Fun := { n := 35, code := .seq (.reg false [
  ⟨some 2, .mv (.c (.one (.v (.string ⟨#[]⟩)))), none, [], true, []⟩]) (.seq (.reg false [
  ⟨some 5, .mv (.t 0), none, [], true, []⟩,
  ⟨some 6, .cvb 5 (.t 5), none, [], true, []⟩,
  ⟨some 3, .mv (.t 6), none, [], true, []⟩]) (.seq (.seq (.reg false [
  ⟨some 4, .mv (.c (.one (.v (.int .i64 0)))), none, [], true, []⟩]) (.block 0 (.loop (.seq (.seq (.reg false [
  ⟨some 7, .mv (.t 4), none, [], true, []⟩,
  ⟨some 8, .mv (.t 3), none, [], true, []⟩,
  ⟨some 9, .len false (.t 8), none, [], true, []⟩,
  ⟨some 10, .bin .lss (.t 7) (.t 9), none, [], true, []⟩]) (.cond (.t 10) (.skip) (.exit 0))) (.seq (.block 1 (.seq (.reg false [
  ⟨some 13, .mv (.t 3), none, [], true, []⟩,
  ⟨some 14, .mv (.t 4), none, [], true, []⟩,
  ⟨some 15, .iad 1 (.t 13) (.t 14), none, [], true, []⟩,
  ⟨some 16, .load 1 false (.t 15), none, [], true, []⟩,
  ⟨some 17, .bin .geq (.t 16) (.c (.one (.v (.int .u8 65)))), none, [], true, []⟩,
  ⟨some 18, .mv (.t 17), none, [], true, []⟩,
  ⟨some 19, .mv (.t 3), some (18, true), [], true, []⟩,
  ⟨some 20, .mv (.t 4), some (18, true), [], true, []⟩,
  ⟨some 21, .iad 1 (.t 19) (.t 20), some (18, true), [], true, []⟩,
  ⟨some 22, .load 1 false (.t 21), some (18, true), [], true, []⟩,
  ⟨some 23, .bin .leq (.t 22) (.c (.one (.v (.int .u8 90)))), some (18, true), [], true, []⟩,
  ⟨some 24, .pick (.t 18) (.t 23) (.c (.one (.v (.bool false)))), none, [], true, []⟩]) (.cond (.t 24) (.reg false [
  ⟨some 25, .mv (.t 3), none, [], true, []⟩,
  ⟨some 26, .mv (.t 4), none, [], true, []⟩,
  ⟨some 27, .mv (.t 3), none, [], true, []⟩,
  ⟨some 28, .mv (.t 4), none, [], true, []⟩,
  ⟨some 29, .iad 1 (.t 27) (.t 28), none, [], true, []⟩,
  ⟨some 30, .load 1 false (.t 29), none, [], true, []⟩,
  ⟨some 31, .bin .add (.t 30) (.c (.one (.v (.int .u8 32)))), none, [], true, []⟩,
  ⟨some 32, .iad 1 (.t 25) (.t 26), none, [], true, []⟩,
  ⟨none, .store 1 (.t 32) (.t 31), none, [], true, []⟩]) (.skip)))) (.reg false [
  ⟨some 11, .mv (.t 4), none, [], true, []⟩,
  ⟨some 12, .bin .add (.t 11) (.c (.one (.v (.int .i64 1)))), none, [], true, []⟩,
  ⟨some 4, .mv (.t 12), none, [], true, []⟩])))))) (.seq (.reg false [
  ⟨some 33, .mv (.t 3), none, [], true, []⟩,
  ⟨some 34, .cvs (.t 33), none, [], true, []⟩,
  ⟨some 2, .mv (.t 34), none, [], true, []⟩]) (.ret)))), res := [.t 2] }
theorem F69_ok : mtF Tryd.prog 69 F69 = true := by kernel_rfl
/- wharf/glyph.First -/
def F70 : Fun := { n := 34, code := .seq (.reg false [
  ⟨some 2, .mv (.c (.one (.v (.int .i64 0)))), none, [], true, []⟩,
  ⟨some 3, .mv (.c (.one (.v (.int .i64 0)))), none, [], true, []⟩,
  ⟨some 4, .mv (.c (.one (.v (.int .i64 0)))), none, [], true, []⟩]) (.seq (.seq (.regp [
  .r ⟨some 8, .mv (.t 0), none, [], true, []⟩,
  .k (some 9) (.rg (.t 8))]) (.block 0 (.loop (.seq (.regp [
  .k (some 10) (.nx (.t 9)),
  .r ⟨some 11, .ext (.t 10) 0, none, [], true, []⟩]) (.seq (.cond (.t 11) (.skip) (.exit 0)) (.block 1 (.seq (.reg false [
  ⟨some 12, .ext (.t 10) 1, none, [], true, []⟩,
  ⟨some 13, .ext (.t 10) 2, none, [], true, []⟩,
  ⟨some 5, .mv (.t 12), none, [], true, []⟩,
  ⟨some 6, .mv (.t 13), none, [], true, []⟩]) (.seq (.seq (.reg false [
  ⟨some 14, .mv (.t 5), none, [], true, []⟩,
  ⟨some 15, .bin .gtr (.t 14) (.c (.one (.v (.int .i64 0)))), none, [], true, []⟩]) (.cond (.t 15) (.exit 0) (.skip))) (.seq (.reg false [
  ⟨some 16, .mv (.t 6), none, [], true, []⟩,
  ⟨some 17, .cvi .i64 (.t 16), none, [], true, []⟩,
  ⟨some 18, .call 81 [.t 17], none, [], true, []⟩,
  ⟨some 7, .mv (.t 18), none, [], true, []⟩]) (.seq (.seq (.reg false [
  ⟨some 19, .mv (.t 6), none, [], true, []⟩,
  ⟨some 20, .bin .eql (.t 19) (.c (.one (.v (.int .i32 65533)))), none, [], true, []⟩,
  ⟨some 21, .mv (.t 20), none, [], true, []⟩,
  ⟨some 22, .mv (.t 0), some (21, true), [], true, []⟩,
  ⟨some 23, .len true (.t 22), some (21, true), [], true, []⟩,
  ⟨some 24, .bin .lss (.t 23) (.c (.one (.v (.int .i64 3)))), some (21, true), [], true, []⟩,
  ⟨some 25, .mv (.t 24), some (21, true), [], true, []⟩,
  ⟨some 26, .mv (.t 0), some (25, false), [], true, []⟩,
  ⟨some 27, .sls (.t 26) none (some (.c (.one (.v (.int .i64 3))))), some (25, false), [], true, []⟩,
  ⟨some 28, .bin .neq (.t 27) (.c (.one (.v (.string ⟨#[239, 191, 189]⟩)))), some (25, false), [], true, []⟩,
  ⟨some 29, .pick (.t 25) (.c (.one (.v (.bool true)))) (.t 28), some (21, true), [], true, []⟩,
  ⟨some 30, .pick (.t 21) (.t 29) (.c (.one (.v (.bool false)))), none, [], true, []⟩]) (.cond (.t 30) (.seq (.reg false [
  ⟨some 2, .mv (.c (.one (.v (.int .i64 0)))), none, [], true, []⟩,
  ⟨some 3, .mv (.c (.one (.v (.int .i64 0)))), none, [], true, []⟩,
  ⟨some 4, .mv (.c (.one (.v (.int .i64 10)))), none, [], true, []⟩]) (.ret)) (.skip))) (.seq (.reg false [
  ⟨some 31, .mv (.t 6), none, [], true, []⟩,
  ⟨some 32, .cvi .i64 (.t 31), none, [], true, []⟩,
  ⟨some 33, .mv (.t 7), none, [], true, []⟩,
  ⟨some 2, .mv (.t 32), none, [], true, []⟩,
  ⟨some 3, .mv (.t 33), none, [], true, []⟩,
  ⟨some 4, .mv (.c (.one (.v (.int .i64 0)))), none, [], true, []⟩]) (.ret)))))))))))) (.seq (.reg false [
  ⟨some 2, .mv (.c (.one (.v (.int .i64 0)))), none, [], true, []⟩,
  ⟨some 3, .mv (.c (.one (.v (.int .i64 0)))), none, [], true, []⟩,
  ⟨some 4, .mv (.c (.one (.v (.int .i64 10)))), none, [], true, []⟩]) (.ret))), res := [.t 2, .t 3, .t 4] }
theorem F70_ok : mtF Tryd.prog 70 F70 = true := by kernel_rfl
/- wharf/glyph.plain -/
def F71 : Fun := { n := 13, code := .seq (.reg false [
  ⟨some 2, .mv (.c (.one (.v (.bool false)))), none, [], true, []⟩]) (.seq (.seq (.reg false [
  ⟨some 3, .mv (.t 0), none, [], true, []⟩]) (.block 0 (.seq (.seq (.reg false [
  ⟨some 5, .bin .eql (.t 3) (.c (.one (.v (.int .i64 9)))), none, [], true, []⟩,
  ⟨some 4, .mv (.t 5), none, [], true, []⟩]) (.cond (.t 4) (.skip) (.seq (.reg false [
  ⟨some 6, .bin .eql (.t 3) (.c (.one (.v (.int .i64 10)))), none, [], true, []⟩,
  ⟨some 4, .mv (.t 6), none, [], true, []⟩]) (.cond (.t 4) (.skip) (.reg false [
  ⟨some 7, .bin .eql (.t 3) (.c (.one (.v (.int .i64 13)))), none, [], true, []⟩,
  ⟨some 4, .mv (.t 7), none, [], true, []⟩]))))) (.cond (.t 4) (.seq (.reg false [
  ⟨some 2, .mv (.c (.one (.v (.bool true)))), none, [], true, []⟩]) (.ret)) (.seq (.seq (.reg false [
  ⟨some 9, .bin .eql (.t 3) (.c (.one (.v (.int .i64 65534)))), none, [], true, []⟩,
  ⟨some 8, .mv (.t 9), none, [], true, []⟩]) (.cond (.t 8) (.skip) (.reg false [
  ⟨some 10, .bin .eql (.t 3) (.c (.one (.v (.int .i64 65535)))), none, [], true, []⟩,
  ⟨some 8, .mv (.t 10), none, [], true, []⟩]))) (.cond (.t 8) (.seq (.reg false [
  ⟨some 2, .mv (.c (.one (.v (.bool false)))), none, [], true, []⟩]) (.ret)) (.skip))))))) (.seq (.reg false [
  ⟨some 11, .mv (.t 0), none, [], true, []⟩,
  ⟨some 12, .bin .geq (.t 11) (.c (.one (.v (.int .i64 32)))), none, [], true, []⟩,
  ⟨some 2, .mv (.t 12), none, [], true, []⟩]) (.ret))), res := [.t 2] }
theorem F71_ok : mtF Tryd.prog 71 F71 = true := by kernel_rfl
/- wharf/handle.isDigit -/
def F72 : Fun := { n := 9, code := .seq (.reg false [
  ⟨some 2, .mv (.c (.one (.v (.bool false)))), none, [], true, []⟩]) (.seq (.reg false [
  ⟨some 3, .mv (.t 0), none, [], true, []⟩,
  ⟨some 4, .bin .geq (.t 3) (.c (.one (.v (.int .u8 48)))), none, [], true, []⟩,
  ⟨some 5, .mv (.t 4), none, [], true, []⟩,
  ⟨some 6, .mv (.t 0), some (5, true), [], true, []⟩,
  ⟨some 7, .bin .leq (.t 6) (.c (.one (.v (.int .u8 57)))), some (5, true), [], true, []⟩,
  ⟨some 8, .pick (.t 5) (.t 7) (.c (.one (.v (.bool false)))), none, [], true, []⟩,
  ⟨some 2, .mv (.t 8), none, [], true, []⟩]) (.ret)), res := [.t 2] }
theorem F72_ok : mtF Tryd.prog 72 F72 = true := by kernel_rfl
/- wharf/handle.isLetter -/
def F73 : Fun := { n := 11, code := .seq (.reg false [
  ⟨some 2, .mv (.c (.one (.v (.bool false)))), none, [], true, []⟩]) (.seq (.reg false [
  ⟨some 3, .mv (.t 0), none, [], true, []⟩,
  ⟨some 4, .bin .or (.t 3) (.c (.one (.v (.int .u8 32)))), none, [], true, []⟩,
  ⟨some 5, .bin .geq (.t 4) (.c (.one (.v (.int .u8 97)))), none, [], true, []⟩,
  ⟨some 6, .mv (.t 5), none, [], true, []⟩,
  ⟨some 7, .mv (.t 0), some (6, true), [], true, []⟩,
  ⟨some 8, .bin .or (.t 7) (.c (.one (.v (.int .u8 32)))), some (6, true), [], true, []⟩,
  ⟨some 9, .bin .leq (.t 8) (.c (.one (.v (.int .u8 122)))), some (6, true), [], true, []⟩,
  ⟨some 10, .pick (.t 6) (.t 9) (.c (.one (.v (.bool false)))), none, [], true, []⟩,
  ⟨some 2, .mv (.t 10), none, [], true, []⟩]) (.ret)), res := [.t 2] }
theorem F73_ok : mtF Tryd.prog 73 F73 = true := by kernel_rfl
/- wharf/digest.word -/
def F74 : Fun := { n := 32, code := .seq (.reg false [
  ⟨some 4, .mv (.c (.one (.v (.int .u32 0)))), none, [], true, []⟩]) (.seq (.reg true [
  ⟨some 6, .mv (.t 0), none, [], false, []⟩,
  ⟨some 7, .iad 1 (.t 6) (.c (.one (.v (.int .i64 0)))), none, [0], false, []⟩,
  ⟨some 8, .load 1 false (.t 7), none, [1], false, []⟩,
  ⟨some 9, .cvi .u32 (.t 8), none, [2], false, []⟩,
  ⟨some 10, .bin .shl (.t 9) (.c (.one (.v (.int .u64 24)))), none, [3], false, []⟩,
  ⟨some 11, .mv (.t 0), none, [], false, []⟩,
  ⟨some 12, .iad 1 (.t 11) (.c (.one (.v (.int .i64 1)))), none, [5], false, []⟩,
  ⟨some 13, .load 1 false (.t 12), none, [6], false, []⟩,
  ⟨some 14, .cvi .u32 (.t 13), none, [7], false, []⟩,
  ⟨some 15, .bin .shl (.t 14) (.c (.one (.v (.int .u64 16)))), none, [8], false, []⟩,
  ⟨some 16, .bin .or (.t 10) (.t 15), none, [4, 9], false, []⟩,
  ⟨some 17, .mv (.t 0), none, [], false, []⟩,
  ⟨some 18, .iad 1 (.t 17) (.c (.one (.v (.int .i64 2)))), none, [11], false, []⟩,
  ⟨some 19, .load 1 false (.t 18), none, [12], false, []⟩,
  ⟨some 20, .cvi .u32 (.t 19), none, [13], false, []⟩,
  ⟨some 21, .bin .shl (.t 20) (.c (.one (.v (.int .u64 8)))), none, [14], false, []⟩,
  ⟨some 22, .bin .or (.t 16) (.t 21), none, [10, 15], false, []⟩,
  ⟨some 23, .mv (.t 0), none, [], false, []⟩,
  ⟨some 24, .iad 1 (.t 23) (.c (.one (.v (.int .i64 3)))), none, [17], false, []⟩,
  ⟨some 25, .load 1 false (.t 24), none, [18], false, []⟩,
  ⟨some 26, .cvi .u32 (.t 25), none, [19], false, []⟩,
  ⟨some 27, .bin .or (.t 22) (.t 26), none, [16, 20], false, []⟩,
  ⟨some 5, .mv (.t 27), none, [21, 0, 1, 2, 3, 4, 5, 6, 7, 8, 9, 10, 11, 12, 13, 14, 15, 16, 17, 18, 19, 20, 21], false, []⟩]) (.seq (.seq (.reg false [
  ⟨some 28, .mv (.t 1), none, [], true, []⟩]) (.cond (.t 28) (.seq (.reg false [
  ⟨some 29, .mv (.t 5), none, [], true, []⟩,
  ⟨some 30, .call 78 [.t 29], none, [], true, []⟩,
  ⟨some 4, .mv (.t 30), none, [], true, []⟩]) (.ret)) (.skip))) (.seq (.reg false [
  ⟨some 31, .mv (.t 5), none, [], true, []⟩,
  ⟨some 4, .mv (.t 31), none, [], true, []⟩]) (.ret)))), res := [.t 4] }
theorem F74_ok : mtF Tryd.prog 74 F74 = true := by kernel_rfl
/- wharf/digest.mix -/
def F75 : Fun := { n := 56, code := .seq (.reg false [
  ⟨some 8, .mv (.c (.one (.v (.int .u32 0)))), none, [], true, []⟩,
  ⟨some 9, .mv (.c (.one (.v (.int .i64 0)))), none, [], true, []⟩]) (.seq (.block 0 (.seq (.reg false [
  ⟨some 11, .mv (.t 3), none, [], true, []⟩,
  ⟨some 12, .bin .lss (.t 11) (.c (.one (.v (.int .i64 16)))), none, [], true, []⟩,
  ⟨some 10, .mv (.t 12), none, [], true, []⟩]) (.cond (.t 10) (.seq (.reg false [
  ⟨some 13, .mv (.t 2), none, [], true, []⟩,
  ⟨some 14, .mv (.t 0), none, [], true, []⟩,
  ⟨some 15, .mv (.t 1), none, [], true, []⟩,
  ⟨some 16, .mv (.t 2), none, [], true, []⟩,
  ⟨some 17, .bin .xor (.t 15) (.t 16), none, [], true, []⟩,
  ⟨some 18, .bin .and (.t 14) (.t 17), none, [], true, []⟩,
  ⟨some 19, .bin .xor (.t 13) (.t 18), none, [], true, []⟩,
  ⟨some 20, .mv (.t 3), none, [], true, []⟩,
  ⟨some 8, .mv (.t 19), none, [], true, []⟩,
  ⟨some 9, .mv (.t 20), none, [], true, []⟩]) (.ret)) (.seq (.reg false [
  ⟨some 22, .mv (.t 3), none, [], true, []⟩,
  ⟨some 23, .bin .lss (.t 22) (.c (.one (.v (.int .i64 32)))), none, [], true, []⟩,
  ⟨some 21, .mv (.t 23), none, [], true, []⟩]) (.cond (.t 21) (.seq (.reg false [
  ⟨some 24, .mv (.t 1), none, [], true, []⟩,
  ⟨some 25, .mv (.t 2), none, [], true, []⟩,
  ⟨some 26, .mv (.t 0), none, [], true, []⟩,
  ⟨some 27, .mv (.t 1), none, [], true, []⟩,
  ⟨some 28, .bin .xor (.t 26) (.t 27), none, [], true, []⟩,
  ⟨some 29, .bin .and (.t 25) (.t 28), none, [], true, []⟩,
  ⟨some 30, .bin .xor (.t 24) (.t 29), none, [], true, []⟩,
  ⟨some 31, .mv (.t 3), none, [], true, []⟩,
  ⟨some 32, .bin .mul (.c (.one (.v (.int .i64 5)))) (.t 31), none, [], true, []⟩,
  ⟨some 33, .bin .add (.t 32) (.c (.one (.v (.int .i64 1)))), none, [], true, []⟩,
  ⟨some 34, .bin .and (.t 33) (.c (.one (.v (.int .i64 15)))), none, [], true, []⟩,
  ⟨some 8, .mv (.t 30), none, [], true, []⟩,
  ⟨some 9, .mv (.t 34), none, [], true, []⟩]) (.ret)) (.seq (.reg false [
  ⟨some 36, .mv (.t 3), none, [], true, []⟩,
  ⟨some 37, .bin .lss (.t 36) (.c (.one (.v (.int .i64 48)))), none, [], true, []⟩,
  ⟨some 35, .mv (.t 37), none, [], true, []⟩]) (.cond (.t 35) (.seq (.reg false [
  ⟨some 38, .mv (.t 0), none, [], true, []⟩,
  ⟨some 39, .mv (.t 1), none, [], true, []⟩,
  ⟨some 40, .bin .xor (.t 38) (.t 39), none, [], true, []⟩,
  ⟨some 41, .mv (.t 2), none, [], true, []⟩,
  ⟨some 42, .bin .xor (.t 40) (.t 41), none, [], true, []⟩,
  ⟨some 43, .mv (.t 3), none, [], true, []⟩,
  ⟨some 44, .bin .mul (.c (.one (.v (.int .i64 3)))) (.t 43), none, [], true, []⟩,
  ⟨some 45, .bin .add (.t 44) (.c (.one (.v (.int .i64 5)))), none, [], true, []⟩,
  ⟨some 46, .bin .and (.t 45) (.c (.one (.v (.int .i64 15)))), none, [], true, []⟩,
  ⟨some 8, .mv (.t 42), none, [], true, []⟩,
  ⟨some 9, .mv (.t 46), none, [], true, []⟩]) (.ret)) (.skip)))))))) (.seq (.reg false [
  ⟨some 47, .mv (.t 1), none, [], true, []⟩,
  ⟨some 48, .mv (.t 0), none, [], true, []⟩,
  ⟨some 49, .mv (.t 2), none, [], true, []⟩,
  ⟨some 50, .un .xor (.t 49), none, [], true, []⟩,
  ⟨some 51, .bin .or (.t 48) (.t 50), none, [], true, []⟩,
  ⟨some 52, .bin .xor (.t 47) (.t 51), none, [], true, []⟩,
  ⟨some 53, .mv (.t 3), none, [], true, []⟩,
  ⟨some 54, .bin .mul (.c (.one (.v (.int .i64 7)))) (.t 53), none, [], true, []⟩,
  ⟨some 55, .bin .and (.t 54) (.c (.one (.v (.int .i64 15)))), none, [], true, []⟩,
  ⟨some 8, .mv (.t 52), none, [], true, []⟩,
  ⟨some 9, .mv (.t 55), none, [], true, []⟩]) (.ret))), res := [.t 8, .t 9] }
theorem F75_ok : mtF Tryd.prog 75 F75 = true := by kernel_rfl
/- math/bits.RotateLeft32 -/
def F76 : Fun := { n := 17, code := .seq (.reg false [
  ⟨some 4, .mv (.c (.one (.v (.int .u32 0)))), none, [], true, []⟩]) (.seq (.reg false [
  ⟨some 6, .mv (.t 1), none, [], true, []⟩,
  ⟨some 7, .cvi .u64 (.t 6), none, [], true, []⟩,
  ⟨some 8, .bin .and (.t 7) (.c (.one (.v (.int .u64 31)))), none, [], true, []⟩,
  ⟨some 5, .mv (.t 8), none, [], true, []⟩]) (.seq (.reg false [
  ⟨some 9, .mv (.t 0), none, [], true, []⟩,
  ⟨some 10, .mv (.t 5), none, [], true, []⟩,
  ⟨some 11, .bin .shl (.t 9) (.t 10), none, [], true, []⟩,
  ⟨some 12, .mv (.t 0), none, [], true, []⟩,
  ⟨some 13, .mv (.t 5), none, [], true, []⟩,
  ⟨some 14, .bin .sub (.c (.one (.v (.int .u64 32)))) (.t 13), none, [], true, []⟩,
  ⟨some 15, .bin .shr (.t 12) (.t 14), none, [], true, []⟩,
  ⟨some 16, .bin .or (.t 11) (.t 15), none, [], true, []⟩,
  ⟨some 4, .mv (.t 16), none, [], true, []⟩]) (.ret))), res := [.t 4] }
theorem F76_ok : mtF Tryd.prog 76 F76 = true := by kernel_rfl
/- wharf/digest.turns -/
def F77 : Fun := { n := 27, code := .seq (.reg false [
  ⟨some 2, .mv (.c (.one (.v (.int .i64 0)))), none, [], true, []⟩]) (.seq (.seq (.reg false [
  ⟨some 3, .mv (.t 0), none, [], true, []⟩,
  ⟨some 4, .bin .quo (.t 3) (.c (.one (.v (.int .i64 16)))), none, [], true, []⟩]) (.block 0 (.seq (.reg false [
  ⟨some 6, .bin .eql (.t 4) (.c (.one (.v (.int .i64 0)))), none, [], true, []⟩,
  ⟨some 5, .mv (.t 6), none, [], true, []⟩]) (.cond (.t 5) (.seq (.reg false [
  ⟨some 7, .mv (.t 0), none, [], true, []⟩,
  ⟨some 8, .bin .rem (.t 7) (.c (.one (.v (.int .i64 4)))), none, [], true, []⟩,
  ⟨some 9, .bin .mul (.c (.one (.v (.int .i64 5)))) (.t 8), none, [], true, []⟩,
  ⟨some 10, .bin .add (.c (.one (.v (.int .i64 7)))) (.t 9), none, [], true, []⟩,
  ⟨some 2, .mv (.t 10), none, [], true, []⟩]) (.ret)) (.seq (.reg false [
  ⟨some 12, .bin .eql (.t 4) (.c (.one (.v (.int .i64 1)))), none, [], true, []⟩,
  ⟨some 11, .mv (.t 12), none, [], true, []⟩]) (.cond (.t 11) (.seq (.regp [
  .k (some 13) (.bda [.v (.int .i64 0), .v (.int .i64 0), .v (.int .i64 0), .v (.int .i64 0)] [(0, 1, .c (.one (.v (.int .i64 5)))), (1, 1, .c (.one (.v (.int .i64 9)))), (2, 1, .c (.one (.v (.int .i64 14)))), (3, 1, .c (.one (.v (.int .i64 20))))]),
  .r ⟨some 14, .mv (.t 0), none, [], true, []⟩,
  .r ⟨some 15, .bin .rem (.t 14) (.c (.one (.v (.int .i64 4)))), none, [], true, []⟩,
  .k (some 16) (.ixa 4 (.t 13) (.t 15)),
  .r ⟨some 2, .mv (.t 16), none, [], true, []⟩]) (.ret)) (.seq (.reg false [
  ⟨some 18, .bin .eql (.t 4) (.c (.one (.v (.int .i64 2)))), none, [], true, []⟩,
  ⟨some 17, .mv (.t 18), none, [], true, []⟩]) (.cond (.t 17) (.seq (.regp [
  .k (some 19) (.bda [.v (.int .i64 0), .v (.int .i64 0), .v (.int .i64 0), .v (.int .i64 0)] [(0, 1, .c (.one (.v (.int .i64 4)))), (1, 1, .c (.one (.v (.int .i64 11)))), (2, 1, .c (.one (.v (.int .i64 16)))), (3, 1, .c (.one (.v (.int .i64 23))))]),
  .r ⟨some 20, .mv (.t 0), none, [], true, []⟩,
  .r ⟨some 21, .bin .rem (.t 20) (.c (.one (.v (.int .i64 4)))), none, [], true, []⟩,
  .k (some 22) (.ixa 4 (.t 19) (.t 21)),
  .r ⟨some 2, .mv (.t 22), none, [], true, []⟩]) (.ret)) (.skip))))))))) (.seq (.regp [
  .k (some 23) (.bda [.v (.int .i64 0), .v (.int .i64 0), .v (.int .i64 0), .v (.int .i64 0)] [(0, 1, .c (.one (.v (.int .i64 6)))), (1, 1, .c (.one (.v (.int .i64 10)))), (2, 1, .c (.one (.v (.int .i64 15)))), (3, 1, .c (.one (.v (.int .i64 21))))]),
  .r ⟨some 24, .mv (.t 0), none, [], true, []⟩,
  .r ⟨some 25, .bin .rem (.t 24) (.c (.one (.v (.int .i64 4)))), none, [], true, []⟩,
  .k (some 26) (.ixa 4 (.t 23) (.t 25)),
  .r ⟨some 2, .mv (.t 26), none, [], true, []⟩]) (.ret))), res := [.t 2] }
theorem F77_ok : mtF Tryd.prog 77 F77 = true := by kernel_rfl
/- math/bits.ReverseBytes32 -/
def F78 : Fun := { n := 15, code := .seq (.reg false [
  ⟨some 2, .mv (.c (.one (.v (.int .u32 0)))), none, [], true, []⟩]) (.seq (.reg false [
  ⟨some 3, .mv (.t 0), none, [], true, []⟩,
  ⟨some 4, .bin .shr (.t 3) (.c (.one (.v (.int .u64 8)))), none, [], true, []⟩,
  ⟨some 5, .bin .and (.t 4) (.c (.one (.v (.int .u32 16711935)))), none, [], true, []⟩,
  ⟨some 6, .mv (.t 0), none, [], true, []⟩,
  ⟨some 7, .bin .and (.t 6) (.c (.one (.v (.int .u32 16711935)))), none, [], true, []⟩,
  ⟨some 8, .bin .shl (.t 7) (.c (.one (.v (.int .u64 8)))), none, [], true, []⟩,
  ⟨some 9, .bin .or (.t 5) (.t 8), none, [], true, []⟩,
  ⟨some 0, .mv (.t 9), none, [], true, []⟩]) (.seq (.reg false [
  ⟨some 10, .mv (.t 0), none, [], true, []⟩,
  ⟨some 11, .bin .shr (.t 10) (.c (.one (.v (.int .u64 16)))), none, [], true, []⟩,
  ⟨some 12, .mv (.t 0), none, [], true, []⟩,
  ⟨some 13, .bin .shl (.t 12) (.c (.one (.v (.int .u64 16)))), none, [], true, []⟩,
  ⟨some 14, .bin .or (.t 11) (.t 13), none, [], true, []⟩,
  ⟨some 2, .mv (.t 14), none, [], true, []⟩]) (.ret))), res := [.t 2] }
theorem F78_ok : mtF Tryd.prog 78 F78 = true := by kernel_rfl
/- wharf/wharfref01.Is -/
def F80 : Fun := { n := 17, code := .seq (.reg false [
  ⟨some 2, .mv (.c (.one (.v (.bool false)))), none, [], true, []⟩]) (.seq (.reg false [
  ⟨some 3, .mv (.t 0), none, [], true, []⟩,
  ⟨some 4, .bin .geq (.t 3) (.c (.one (.v (.int .i64 0)))), none, [], true, []⟩,
  ⟨some 5, .mv (.t 4), none, [], true, []⟩,
  ⟨some 6, .mv (.t 0), some (5, true), [], true, []⟩,
  ⟨some 7, .bin .leq (.t 6) (.c (.one (.v (.int .i64 1114111)))), some (5, true), [], true, []⟩,
  ⟨some 8, .pick (.t 5) (.t 7) (.c (.one (.v (.bool false)))), none, [], true, []⟩,
  ⟨some 9, .mv (.t 8), none, [], true, []⟩,
  ⟨some 10, .mv (.t 0), some (9, true), [], true, []⟩,
  ⟨some 11, .bin .lss (.t 10) (.c (.one (.v (.int .i64 55296)))), some (9, true), [], true, []⟩,
  ⟨some 12, .mv (.t 11), some (9, true), [], true, []⟩,
  ⟨some 13, .mv (.t 0), some (12, false), [], true, []⟩,
  ⟨some 14, .bin .gtr (.t 13) (.c (.one (.v (.int .i64 57343)))), some (12, false), [], true, []⟩,
  ⟨some 15, .pick (.t 12) (.c (.one (.v (.bool true)))) (.t 14), some (9, true), [], true, []⟩,
  ⟨some 16, .pick (.t 9) (.t 15) (.c (.one (.v (.bool false)))), none, [], true, []⟩,
  ⟨some 2, .mv (.t 16), none, [], true, []⟩]) (.ret)), res := [.t 2] }
theorem F80_ok : mtF Tryd.prog 80 F80 = true := by kernel_rfl
/- wharf/glyph.width -/
def F81 : Fun := { n := 12, code := .seq (.reg false [
  ⟨some 2, .mv (.c (.one (.v (.int .i64 0)))), none, [], true, []⟩]) (.seq (.block 0 (.seq (.reg false [
  ⟨some 4, .mv (.t 0), none, [], true, []⟩,
  ⟨some 5, .bin .lss (.t 4) (.c (.one (.v (.int .i64 128)))), none, [], true, []⟩,
  ⟨some 3, .mv (.t 5), none, [], true, []⟩]) (.cond (.t 3) (.seq (.reg false [
  ⟨some 2, .mv (.c (.one (.v (.int .i64 1)))), none, [], true, []⟩]) (.ret)) (.seq (.reg false [
  ⟨some 7, .mv (.t 0), none, [], true, []⟩,
  ⟨some 8, .bin .lss (.t 7) (.c (.one (.v (.int .i64 2048)))), none, [], true, []⟩,
  ⟨some 6, .mv (.t 8), none, [], true, []⟩]) (.cond (.t 6) (.seq (.reg false [
  ⟨some 2, .mv (.c (.one (.v (.int .i64 2)))), none, [], true, []⟩]) (.ret)) (.seq (.reg false [
  ⟨some 10, .mv (.t 0), none, [], true, []⟩,
  ⟨some 11, .bin .lss (.t 10) (.c (.one (.v (.int .i64 65536)))), none, [], true, []⟩,
  ⟨some 9, .mv (.t 11), none, [], true, []⟩]) (.cond (.t 9) (.seq (.reg false [
  ⟨some 2, .mv (.c (.one (.v (.int .i64 3)))), none, [], true, []⟩]) (.ret)) (.skip)))))))) (.seq (.reg false [
  ⟨some 2, .mv (.c (.one (.v (.int .i64 4)))), none, [], true, []⟩]) (.ret))), res := [.t 2] }
theorem F81_ok : mtF Tryd.prog 81 F81 = true := by kernel_rfl
end Go.Proofs.YtbhingdlclfipaaDoor.Ab
