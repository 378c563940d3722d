/- The functions of this seat, in the calculus' own form, each held against the program by the kernel. Printed by gen.py. -/
import Derived.Test.YtmhhpcjiejpcfaaDoorAb17
import Derived.Test.YtmhhpcjiejpcfaaDoorProg
namespace Go.Proofs.YtmhhpcjiejpcfaaDoor.Ab
open Go Go.RowKit Go.Proofs
/- wharf/wharflaw23.SubsAsked -/
def F3 : Fun := { n := 100, code := .seq (.reg false [
  ⟨some 3, .box 23 (.t 0), none, [], true, []⟩,
  ⟨some 6, .mv (.c (.one (.v (.bool false)))), none, [], true, []⟩]) (.seq (.seq (.reg false [
  ⟨some 14, .fad 0 (.t 3), none, [], true, []⟩,
  ⟨some 15, .load 1 false (.t 14), none, [], true, []⟩,
  ⟨some 16, .len true (.t 15), none, [], true, []⟩,
  ⟨some 17, .mv (.t 2), none, [], true, []⟩,
  ⟨some 18, .len true (.t 17), none, [], true, []⟩,
  ⟨some 19, .bin .add (.t 16) (.t 18), none, [], true, []⟩,
  ⟨some 20, .bin .gtr (.t 19) (.c (.one (.v (.int .i64 8000)))), none, [], true, []⟩,
  ⟨some 21, .mv (.t 20), none, [], true, []⟩,
  ⟨some 22, .fad 4 (.t 3), some (21, false), [], true, []⟩,
  ⟨some 23, .load 1 false (.t 22), some (21, false), [], true, []⟩,
  ⟨some 24, .pick (.t 21) (.c (.one (.v (.bool true)))) (.t 23), none, [], true, []⟩]) (.cond (.t 24) (.seq (.reg false [
  ⟨some 25, .call 6 [], none, [], true, []⟩,
  ⟨some 6, .mv (.t 25), none, [], true, []⟩]) (.ret)) (.skip))) (.seq (.reg false [
  ⟨some 27, .load 9 true (.t 3), none, [], true, []⟩,
  ⟨some 28, .fad 0 (.t 3), none, [], true, []⟩,
  ⟨some 29, .load 1 false (.t 28), none, [], true, []⟩,
  ⟨some 30, .mv (.t 2), none, [], true, []⟩,
  ⟨some 31, .build [.v (.int .i64 0), .v (.string ⟨#[]⟩), .v (.string ⟨#[]⟩), .v (.string ⟨#[]⟩), .v (.int .i64 0), .v (.int .i64 0), .v (.int .i64 0), .v (.int .i64 0), .v (.bool false), .sl .full 6 [], .sl .full 1 []] [(0, 1, .c (.one (.v (.int .i64 27)))), (1, 1, .t 29), (2, 1, .t 30)], none, [], true, []⟩,
  ⟨some 32, .call 7 [.t 27, .t 31], none, [], true, []⟩,
  ⟨some 26, .mv (.t 32), none, [], true, []⟩,
  ⟨some 33, .ext (.t 26) 0, none, [], true, []⟩,
  ⟨some 34, .ext (.t 26) 1, none, [], true, []⟩,
  ⟨some 7, .alloc 23 [.v (.string ⟨#[]⟩), .v (.bool false), .v (.bool false), .v (.bool false), .v (.bool false), .v (.bool false), .v (.bool false), .v (.int .i64 0), .v (.int .i64 0)], none, [], true, []⟩,
  ⟨some 8, .alloc 29 [.sl .full 1 [], .sl .full 11 [], .sl .full 5 []], none, [], true, []⟩,
  ⟨none, .store 9 (.t 7) (.t 33), none, [], true, []⟩,
  ⟨none, .store 3 (.t 8) (.t 34), none, [], true, []⟩]) (.seq (.reg false [
  ⟨some 9, .mv (.c (.one (.v (.string ⟨#[117, 110, 115, 117, 98, 115, 99, 114, 105, 98, 101, 100]⟩)))), none, [], true, []⟩]) (.seq (.seq (.reg false [
  ⟨some 35, .mv (.t 1), none, [], true, []⟩]) (.cond (.t 35) (.reg false [
  ⟨some 9, .mv (.c (.one (.v (.string ⟨#[115, 117, 98, 115, 99, 114, 105, 98, 101, 100]⟩)))), none, [], true, []⟩]) (.skip))) (.seq (.reg false [
  ⟨some 37, .load 9 true (.t 7), none, [], true, []⟩,
  ⟨some 38, .mv (.t 9), none, [], true, []⟩,
  ⟨some 39, .call 8 [.t 37, .t 38, .c (.one (.v (.string ⟨#[]⟩))), .c (.one (.v (.string ⟨#[]⟩)))], none, [], true, []⟩,
  ⟨some 36, .mv (.t 39), none, [], true, []⟩,
  ⟨some 40, .ext (.t 36) 0, none, [], true, []⟩,
  ⟨some 41, .ext (.t 36) 1, none, [], true, []⟩,
  ⟨some 10, .alloc 23 [.v (.string ⟨#[]⟩), .v (.bool false), .v (.bool false), .v (.bool false), .v (.bool false), .v (.bool false), .v (.bool false), .v (.int .i64 0), .v (.int .i64 0)], none, [], true, []⟩,
  ⟨some 11, .alloc 29 [.sl .full 1 [], .sl .full 11 [], .sl .full 5 []], none, [], true, []⟩,
  ⟨none, .store 9 (.t 10) (.t 40), none, [], true, []⟩,
  ⟨none, .store 3 (.t 11) (.t 41), none, [], true, []⟩]) (.seq (.reg false [
  ⟨some 43, .load 9 true (.t 10), none, [], true, []⟩,
  ⟨some 44, .mv (.t 9), none, [], true, []⟩,
  ⟨some 45, .call 8 [.t 43, .t 44, .c (.one (.v (.string ⟨#[]⟩))), .c (.one (.v (.string ⟨#[]⟩)))], none, [], true, []⟩,
  ⟨some 42, .mv (.t 45), none, [], true, []⟩,
  ⟨some 46, .ext (.t 42) 0, none, [], true, []⟩,
  ⟨some 47, .ext (.t 42) 1, none, [], true, []⟩,
  ⟨some 12, .alloc 23 [.v (.string ⟨#[]⟩), .v (.bool false), .v (.bool false), .v (.bool false), .v (.bool false), .v (.bool false), .v (.bool false), .v (.int .i64 0), .v (.int .i64 0)], none, [], true, []⟩,
  ⟨some 13, .alloc 29 [.sl .full 1 [], .sl .full 11 [], .sl .full 5 []], none, [], true, []⟩,
  ⟨none, .store 9 (.t 12) (.t 46), none, [], true, []⟩,
  ⟨none, .store 3 (.t 13) (.t 47), none, [], true, []⟩]) (.seq (.reg true [
  ⟨some 48, .fad 5 (.t 7), none, [], false, []⟩,
  ⟨some 49, .load 1 false (.t 48), none, [0], true, []⟩,
  ⟨some 50, .mv (.t 49), none, [1], false, []⟩,
  ⟨some 51, .fad 0 (.t 8), some (50, true), [2], false, []⟩,
  ⟨some 52, .load 1 false (.t 51), some (50, true), [3, 2], true, []⟩,
  ⟨some 53, .len false (.t 52), some (50, true), [4, 2], false, []⟩,
  ⟨some 54, .bin .eql (.t 53) (.c (.one (.v (.int .i64 1)))), some (50, true), [5, 2], false, []⟩,
  ⟨some 55, .pick (.t 50) (.t 54) (.c (.one (.v (.bool false)))), none, [2, 6], false, []⟩,
  ⟨some 56, .mv (.t 55), none, [7, 2], false, []⟩,
  ⟨some 57, .fad 0 (.t 8), some (56, true), [8], false, []⟩,
  ⟨some 58, .load 1 false (.t 57), some (56, true), [9, 8], true, []⟩,
  ⟨some 59, .iad 1 (.t 58) (.c (.one (.v (.int .i64 0)))), some (56, true), [10, 8], false, []⟩,
  ⟨some 60, .load 1 false (.t 59), some (56, true), [11, 8], true, []⟩,
  ⟨some 61, .bin .eql (.t 60) (.c (.one (.v (.string ⟨#[115, 117, 98, 115, 99, 114, 105, 98, 101]⟩)))), some (56, true), [12, 8], false, []⟩,
  ⟨some 62, .pick (.t 56) (.t 61) (.c (.one (.v (.bool false)))), none, [8, 13], false, []⟩,
  ⟨some 63, .mv (.t 62), none, [14, 8], false, []⟩,
  ⟨some 64, .fad 1 (.t 11), some (63, true), [15], false, []⟩,
  ⟨some 65, .load 1 false (.t 64), some (63, true), [16, 15], true, []⟩,
  ⟨some 66, .len false (.t 65), some (63, true), [17, 15], false, []⟩,
  ⟨some 67, .bin .eql (.t 66) (.c (.one (.v (.int .i64 1)))), some (63, true), [18, 15], false, []⟩,
  ⟨some 68, .pick (.t 63) (.t 67) (.c (.one (.v (.bool false)))), none, [15, 19], false, []⟩,
  ⟨some 69, .mv (.t 68), none, [20, 15], false, []⟩,
  ⟨some 70, .fad 1 (.t 11), some (69, true), [21], false, []⟩,
  ⟨some 71, .load 1 false (.t 70), some (69, true), [22, 21], false, []⟩,
  ⟨some 72, .iad 11 (.t 71) (.c (.one (.v (.int .i64 0)))), some (69, true), [23, 21], false, []⟩,
  ⟨some 73, .load 11 true (.t 72), some (69, true), [24, 21], false, []⟩,
  ⟨some 74, .fad 0 (.t 3), some (69, true), [21], false, []⟩,
  ⟨some 75, .load 1 false (.t 74), some (69, true), [26, 21], false, []⟩,
  ⟨some 76, .mv (.t 1), some (69, true), [21], false, []⟩,
  ⟨some 77, .build [.v (.int .i64 0), .v (.string ⟨#[]⟩), .v (.string ⟨#[]⟩), .v (.string ⟨#[]⟩), .v (.int .i64 0), .v (.int .i64 0), .v (.int .i64 0), .v (.int .i64 0), .v (.bool false), .sl .full 6 [], .sl .full 1 []] [(0, 1, .c (.one (.v (.int .i64 28)))), (1, 1, .t 75), (8, 1, .t 76)], some (69, true), [27, 28, 21], false, []⟩,
  ⟨some 78, .call 9 [.t 73, .t 77], some (69, true), [25, 29, 21, 21], false, []⟩,
  ⟨some 79, .pick (.t 69) (.t 78) (.c (.one (.v (.bool false)))), none, [21, 30], false, []⟩,
  ⟨some 80, .mv (.t 79), none, [31, 30], false, []⟩,
  ⟨some 81, .fad 5 (.t 10), some (80, true), [32], false, []⟩,
  ⟨some 82, .load 1 false (.t 81), some (80, true), [33, 32], true, []⟩,
  ⟨some 83, .un .not (.t 82), some (80, true), [34, 32], false, []⟩,
  ⟨some 84, .pick (.t 80) (.t 83) (.c (.one (.v (.bool false)))), none, [32, 35], false, []⟩,
  ⟨some 85, .mv (.t 84), none, [36, 32], false, []⟩,
  ⟨some 86, .fad 4 (.t 10), some (85, true), [37], false, []⟩,
  ⟨some 87, .load 1 false (.t 86), some (85, true), [38, 37], true, []⟩,
  ⟨some 88, .mv (.t 1), some (85, true), [37], false, []⟩,
  ⟨some 89, .eqb false (.t 87) (.t 88), some (85, true), [39, 40, 37], false, []⟩,
  ⟨some 90, .pick (.t 85) (.t 89) (.c (.one (.v (.bool false)))), none, [37, 41], false, []⟩,
  ⟨some 91, .mv (.t 90), none, [42, 37], false, []⟩,
  ⟨some 92, .fad 1 (.t 13), some (91, true), [43], false, []⟩,
  ⟨some 93, .load 1 false (.t 92), some (91, true), [44, 43], true, []⟩,
  ⟨some 94, .len false (.t 93), some (91, true), [45, 43], false, []⟩,
  ⟨some 95, .bin .eql (.t 94) (.c (.one (.v (.int .i64 0)))), some (91, true), [46, 43], false, []⟩,
  ⟨some 96, .pick (.t 91) (.t 95) (.c (.one (.v (.bool false)))), none, [43, 47], false, []⟩,
  ⟨some 97, .mv (.t 96), none, [48, 43], false, []⟩,
  ⟨some 98, .call 6 [], some (97, true), [49, 49], false, []⟩,
  ⟨some 99, .pick (.t 97) (.t 98) (.c (.one (.v (.bool false)))), none, [49, 50], false, []⟩,
  ⟨some 6, .mv (.t 99), none, [51, 50, 0, 1, 2, 3, 4, 5, 6, 7, 8, 9, 10, 11, 12, 13, 14, 15, 16, 17, 18, 19, 20, 21, 22, 23, 24, 25, 26, 27, 28, 29, 30, 31, 32, 33, 34, 35, 36, 37, 38, 39, 40, 41, 42, 43, 44, 45, 46, 47, 48, 49, 50, 51], false, []⟩]) (.ret)))))))), res := [.t 6] }
theorem F3_ok : mtF Tryd.prog 3 F3 = true := by kernel_rfl
/- wharf/wharflaw23.SubsTurns -/
def F4 : Fun := { n := 149, code := .seq (.reg false [
  ⟨some 8, .mv (.c (.one (.v (.bool false)))), none, [], true, []⟩]) (.seq (.seq (.reg false [
  ⟨some 18, .mv (.t 0), none, [], true, []⟩,
  ⟨some 19, .len true (.t 18), none, [], true, []⟩,
  ⟨some 20, .mv (.t 1), none, [], true, []⟩,
  ⟨some 21, .len true (.t 20), none, [], true, []⟩,
  ⟨some 22, .bin .add (.t 19) (.t 21), none, [], true, []⟩,
  ⟨some 23, .mv (.t 2), none, [], true, []⟩,
  ⟨some 24, .len true (.t 23), none, [], true, []⟩,
  ⟨some 25, .bin .add (.t 22) (.t 24), none, [], true, []⟩,
  ⟨some 26, .bin .gtr (.t 25) (.c (.one (.v (.int .i64 8000)))), none, [], true, []⟩]) (.cond (.t 26) (.seq (.reg false [
  ⟨some 27, .call 6 [], none, [], true, []⟩,
  ⟨some 8, .mv (.t 27), none, [], true, []⟩]) (.ret)) (.skip))) (.seq (.reg false [
  ⟨some 28, .mv (.t 0), none, [], true, []⟩,
  ⟨some 29, .build [.v (.string ⟨#[]⟩), .v (.bool false), .v (.bool false), .v (.bool false), .v (.bool false), .v (.bool false), .v (.bool false), .v (.int .i64 0), .v (.int .i64 0)] [(0, 1, .t 28)], none, [], true, []⟩,
  ⟨some 9, .alloc 23 [.v (.string ⟨#[]⟩), .v (.bool false), .v (.bool false), .v (.bool false), .v (.bool false), .v (.bool false), .v (.bool false), .v (.int .i64 0), .v (.int .i64 0)], none, [], true, []⟩,
  ⟨none, .store 9 (.t 9) (.t 29), none, [], true, []⟩]) (.seq (.reg false [
  ⟨some 31, .load 9 true (.t 9), none, [], true, []⟩,
  ⟨some 32, .mv (.t 1), none, [], true, []⟩,
  ⟨some 33, .mv (.t 2), none, [], true, []⟩,
  ⟨some 34, .call 8 [.t 31, .c (.one (.v (.string ⟨#[115, 117, 98, 115, 99, 114, 105, 98, 101]⟩))), .t 32, .t 33], none, [], true, []⟩,
  ⟨some 30, .mv (.t 34), none, [], true, []⟩,
  ⟨some 35, .ext (.t 30) 0, none, [], true, []⟩,
  ⟨some 36, .ext (.t 30) 1, none, [], true, []⟩,
  ⟨some 10, .alloc 23 [.v (.string ⟨#[]⟩), .v (.bool false), .v (.bool false), .v (.bool false), .v (.bool false), .v (.bool false), .v (.bool false), .v (.int .i64 0), .v (.int .i64 0)], none, [], true, []⟩,
  ⟨some 11, .alloc 29 [.sl .full 1 [], .sl .full 11 [], .sl .full 5 []], none, [], true, []⟩,
  ⟨none, .store 9 (.t 10) (.t 35), none, [], true, []⟩,
  ⟨none, .store 3 (.t 11) (.t 36), none, [], true, []⟩]) (.seq (.seq (.reg false [
  ⟨some 37, .fad 2 (.t 11), none, [], true, []⟩,
  ⟨some 38, .load 1 false (.t 37), none, [], true, []⟩,
  ⟨some 39, .len false (.t 38), none, [], true, []⟩,
  ⟨some 40, .bin .neq (.t 39) (.c (.one (.v (.int .i64 1)))), none, [], true, []⟩,
  ⟨some 41, .mv (.t 40), none, [], true, []⟩,
  ⟨some 42, .fad 2 (.t 11), some (41, false), [], true, []⟩,
  ⟨some 43, .load 1 false (.t 42), some (41, false), [], true, []⟩,
  ⟨some 44, .iad 5 (.t 43) (.c (.one (.v (.int .i64 0)))), some (41, false), [], true, []⟩,
  ⟨some 45, .load 5 true (.t 44), some (41, false), [], true, []⟩,
  ⟨some 46, .mv (.t 0), some (41, false), [], true, []⟩,
  ⟨some 47, .mv (.t 1), some (41, false), [], true, []⟩,
  ⟨some 48, .mv (.t 2), some (41, false), [], true, []⟩,
  ⟨some 49, .build [.v (.int .i64 0), .v (.string ⟨#[]⟩), .v (.string ⟨#[]⟩), .v (.string ⟨#[]⟩), .v (.bool false)] [(0, 1, .c (.one (.v (.int .i64 1)))), (1, 1, .t 46), (2, 1, .t 47), (3, 1, .t 48)], some (41, false), [], true, []⟩,
  ⟨some 50, .eqs true [1, 2, 2, 2, 0] (.t 45) (.t 49), some (41, false), [], true, []⟩,
  ⟨some 51, .pick (.t 41) (.c (.one (.v (.bool true)))) (.t 50), none, [], true, []⟩,
  ⟨some 52, .mv (.t 51), none, [], true, []⟩,
  ⟨some 53, .fad 0 (.t 11), some (52, false), [], true, []⟩,
  ⟨some 54, .load 1 false (.t 53), some (52, false), [], true, []⟩,
  ⟨some 55, .len false (.t 54), some (52, false), [], true, []⟩,
  ⟨some 56, .bin .neq (.t 55) (.c (.one (.v (.int .i64 0)))), some (52, false), [], true, []⟩,
  ⟨some 57, .pick (.t 52) (.c (.one (.v (.bool true)))) (.t 56), none, [], true, []⟩]) (.cond (.t 57) (.seq (.reg false [
  ⟨some 8, .mv (.c (.one (.v (.bool false)))), none, [], true, []⟩]) (.ret)) (.skip))) (.seq (.reg true [
  ⟨some 59, .load 9 true (.t 10), none, [], false, []⟩,
  ⟨some 60, .fad 2 (.t 11), none, [], false, []⟩,
  ⟨some 61, .load 1 false (.t 60), none, [1], false, []⟩,
  ⟨some 62, .iad 5 (.t 61) (.c (.one (.v (.int .i64 0)))), none, [2], false, []⟩,
  ⟨some 63, .load 5 true (.t 62), none, [3], false, []⟩,
  ⟨some 64, .build [.v (.int .i64 0), .v (.string ⟨#[]⟩), .v (.string ⟨#[]⟩), .v (.string ⟨#[]⟩), .v (.bool false), .v (.int .i64 0)] [(0, 5, .t 63)], none, [4], false, []⟩,
  ⟨some 65, .call 10 [.t 59, .t 64], none, [0, 5], false, []⟩,
  ⟨some 58, .mv (.t 65), none, [6], false, []⟩,
  ⟨some 66, .ext (.t 58) 0, none, [7], false, []⟩,
  ⟨some 67, .ext (.t 58) 1, none, [7], false, []⟩,
  ⟨some 12, .alloc 23 [.v (.string ⟨#[]⟩), .v (.bool false), .v (.bool false), .v (.bool false), .v (.bool false), .v (.bool false), .v (.bool false), .v (.int .i64 0), .v (.int .i64 0)], none, [], false, []⟩,
  ⟨some 13, .alloc 29 [.sl .full 1 [], .sl .full 11 [], .sl .full 5 []], none, [], false, []⟩,
  ⟨none, .store 9 (.t 12) (.t 66), none, [10, 8, 6, 0, 1, 2, 3, 4, 5, 6, 7, 8, 10, 11], true, []⟩,
  ⟨none, .store 3 (.t 13) (.t 67), none, [11, 9, 12, 0, 1, 2, 3, 4, 5, 6, 7, 8, 9, 10, 11, 12], true, []⟩]) (.seq (.seq (.reg false [
  ⟨some 68, .fad 1 (.t 12), none, [], true, []⟩,
  ⟨some 69, .load 1 false (.t 68), none, [], true, []⟩,
  ⟨some 70, .un .not (.t 69), none, [], true, []⟩,
  ⟨some 71, .mv (.t 70), none, [], true, []⟩,
  ⟨some 72, .fad 2 (.t 12), some (71, false), [], true, []⟩,
  ⟨some 73, .load 1 false (.t 72), some (71, false), [], true, []⟩,
  ⟨some 74, .pick (.t 71) (.c (.one (.v (.bool true)))) (.t 73), none, [], true, []⟩,
  ⟨some 75, .mv (.t 74), none, [], true, []⟩,
  ⟨some 76, .fad 0 (.t 13), some (75, false), [], true, []⟩,
  ⟨some 77, .load 1 false (.t 76), some (75, false), [], true, []⟩,
  ⟨some 78, .len false (.t 77), some (75, false), [], true, []⟩,
  ⟨some 79, .bin .neq (.t 78) (.c (.one (.v (.int .i64 1)))), some (75, false), [], true, []⟩,
  ⟨some 80, .pick (.t 75) (.c (.one (.v (.bool true)))) (.t 79), none, [], true, []⟩,
  ⟨some 81, .mv (.t 80), none, [], true, []⟩,
  ⟨some 82, .load 9 true (.t 12), some (81, false), [], true, []⟩,
  ⟨some 83, .call 11 [.t 82], some (81, false), [], true, []⟩,
  ⟨some 84, .bin .neq (.t 83) (.c (.one (.v (.string ⟨#[116, 111]⟩)))), some (81, false), [], true, []⟩,
  ⟨some 85, .pick (.t 81) (.c (.one (.v (.bool true)))) (.t 84), none, [], true, []⟩]) (.cond (.t 85) (.seq (.reg false [
  ⟨some 8, .mv (.c (.one (.v (.bool false)))), none, [], true, []⟩]) (.ret)) (.skip))) (.seq (.seq (.reg false [
  ⟨some 86, .mv (.t 3), none, [], true, []⟩]) (.cond (.t 86) (.seq (.reg false [
  ⟨some 88, .load 9 true (.t 12), none, [], true, []⟩,
  ⟨some 89, .call 12 [.t 88], none, [], true, []⟩,
  ⟨some 87, .mv (.t 89), none, [], true, []⟩,
  ⟨some 90, .ext (.t 87) 0, none, [], true, []⟩,
  ⟨some 91, .ext (.t 87) 1, none, [], true, []⟩,
  ⟨some 14, .alloc 23 [.v (.string ⟨#[]⟩), .v (.bool false), .v (.bool false), .v (.bool false), .v (.bool false), .v (.bool false), .v (.bool false), .v (.int .i64 0), .v (.int .i64 0)], none, [], true, []⟩,
  ⟨some 15, .alloc 29 [.sl .full 1 [], .sl .full 11 [], .sl .full 5 []], none, [], true, []⟩,
  ⟨none, .store 9 (.t 14) (.t 90), none, [], true, []⟩,
  ⟨none, .store 3 (.t 15) (.t 91), none, [], true, []⟩]) (.seq (.reg false [
  ⟨some 92, .load 9 true (.t 14), none, [], true, []⟩,
  ⟨some 93, .load 9 true (.t 9), none, [], true, []⟩,
  ⟨some 94, .eqs false [2, 0, 0, 0, 0, 0, 0, 1, 1] (.t 92) (.t 93), none, [], true, []⟩,
  ⟨some 95, .mv (.t 94), none, [], true, []⟩,
  ⟨some 96, .fad 0 (.t 15), some (95, true), [], true, []⟩,
  ⟨some 97, .load 1 false (.t 96), some (95, true), [], true, []⟩,
  ⟨some 98, .len false (.t 97), some (95, true), [], true, []⟩,
  ⟨some 99, .bin .eql (.t 98) (.c (.one (.v (.int .i64 1)))), some (95, true), [], true, []⟩,
  ⟨some 100, .pick (.t 95) (.t 99) (.c (.one (.v (.bool false)))), none, [], true, []⟩,
  ⟨some 101, .mv (.t 100), none, [], true, []⟩,
  ⟨some 102, .fad 0 (.t 15), some (101, true), [], true, []⟩,
  ⟨some 103, .load 1 false (.t 102), some (101, true), [], true, []⟩,
  ⟨some 104, .iad 1 (.t 103) (.c (.one (.v (.int .i64 0)))), some (101, true), [], true, []⟩,
  ⟨some 105, .load 1 false (.t 104), some (101, true), [], true, []⟩,
  ⟨some 106, .bin .eql (.t 105) (.c (.one (.v (.string ⟨#[117, 110, 115, 117, 98, 115, 99, 114, 105, 98, 101, 100]⟩)))), some (101, true), [], true, []⟩,
  ⟨some 107, .pick (.t 101) (.t 106) (.c (.one (.v (.bool false)))), none, [], true, []⟩,
  ⟨some 108, .mv (.t 107), none, [], true, []⟩,
  ⟨some 109, .fad 2 (.t 15), some (108, true), [], true, []⟩,
  ⟨some 110, .load 1 false (.t 109), some (108, true), [], true, []⟩,
  ⟨some 111, .len false (.t 110), some (108, true), [], true, []⟩,
  ⟨some 112, .bin .eql (.t 111) (.c (.one (.v (.int .i64 0)))), some (108, true), [], true, []⟩,
  ⟨some 113, .pick (.t 108) (.t 112) (.c (.one (.v (.bool false)))), none, [], true, []⟩,
  ⟨some 114, .mv (.t 113), none, [], true, []⟩,
  ⟨some 115, .call 6 [], some (114, true), [], true, []⟩,
  ⟨some 116, .pick (.t 114) (.t 115) (.c (.one (.v (.bool false)))), none, [], true, []⟩,
  ⟨some 8, .mv (.t 116), none, [], true, []⟩]) (.ret))) (.skip))) (.seq (.reg false [
  ⟨some 118, .load 9 true (.t 12), none, [], true, []⟩,
  ⟨some 119, .call 8 [.t 118, .c (.one (.v (.string ⟨#[117, 110, 115, 117, 98, 115, 99, 114, 105, 98, 101]⟩))), .c (.one (.v (.string ⟨#[]⟩))), .c (.one (.v (.string ⟨#[]⟩)))], none, [], true, []⟩,
  ⟨some 117, .mv (.t 119), none, [], true, []⟩,
  ⟨some 120, .ext (.t 117) 0, none, [], true, []⟩,
  ⟨some 121, .ext (.t 117) 1, none, [], true, []⟩,
  ⟨some 16, .alloc 23 [.v (.string ⟨#[]⟩), .v (.bool false), .v (.bool false), .v (.bool false), .v (.bool false), .v (.bool false), .v (.bool false), .v (.int .i64 0), .v (.int .i64 0)], none, [], true, []⟩,
  ⟨some 17, .alloc 29 [.sl .full 1 [], .sl .full 11 [], .sl .full 5 []], none, [], true, []⟩,
  ⟨none, .store 9 (.t 16) (.t 120), none, [], true, []⟩,
  ⟨none, .store 3 (.t 17) (.t 121), none, [], true, []⟩]) (.seq (.reg false [
  ⟨some 122, .load 9 true (.t 16), none, [], true, []⟩,
  ⟨some 123, .load 9 true (.t 9), none, [], true, []⟩,
  ⟨some 124, .eqs false [2, 0, 0, 0, 0, 0, 0, 1, 1] (.t 122) (.t 123), none, [], true, []⟩,
  ⟨some 125, .mv (.t 124), none, [], true, []⟩,
  ⟨some 126, .fad 0 (.t 17), some (125, true), [], true, []⟩,
  ⟨some 127, .load 1 false (.t 126), some (125, true), [], true, []⟩,
  ⟨some 128, .len false (.t 127), some (125, true), [], true, []⟩,
  ⟨some 129, .bin .eql (.t 128) (.c (.one (.v (.int .i64 1)))), some (125, true), [], true, []⟩,
  ⟨some 130, .pick (.t 125) (.t 129) (.c (.one (.v (.bool false)))), none, [], true, []⟩,
  ⟨some 131, .mv (.t 130), none, [], true, []⟩,
  ⟨some 132, .fad 2 (.t 17), some (131, true), [], true, []⟩,
  ⟨some 133, .load 1 false (.t 132), some (131, true), [], true, []⟩,
  ⟨some 134, .len false (.t 133), some (131, true), [], true, []⟩,
  ⟨some 135, .bin .eql (.t 134) (.c (.one (.v (.int .i64 1)))), some (131, true), [], true, []⟩,
  ⟨some 136, .pick (.t 131) (.t 135) (.c (.one (.v (.bool false)))), none, [], true, []⟩,
  ⟨some 137, .mv (.t 136), none, [], true, []⟩,
  ⟨some 138, .fad 2 (.t 17), some (137, true), [], true, []⟩,
  ⟨some 139, .load 1 false (.t 138), some (137, true), [], true, []⟩,
  ⟨some 140, .iad 5 (.t 139) (.c (.one (.v (.int .i64 0)))), some (137, true), [], true, []⟩,
  ⟨some 141, .load 5 true (.t 140), some (137, true), [], true, []⟩,
  ⟨some 142, .mv (.t 0), some (137, true), [], true, []⟩,
  ⟨some 143, .build [.v (.int .i64 0), .v (.string ⟨#[]⟩), .v (.string ⟨#[]⟩), .v (.string ⟨#[]⟩), .v (.bool false)] [(0, 1, .c (.one (.v (.int .i64 2)))), (1, 1, .t 142)], some (137, true), [], true, []⟩,
  ⟨some 144, .eqs false [1, 2, 2, 2, 0] (.t 141) (.t 143), some (137, true), [], true, []⟩,
  ⟨some 145, .pick (.t 137) (.t 144) (.c (.one (.v (.bool false)))), none, [], true, []⟩,
  ⟨some 146, .mv (.t 145), none, [], true, []⟩,
  ⟨some 147, .call 6 [], some (146, true), [], true, []⟩,
  ⟨some 148, .pick (.t 146) (.t 147) (.c (.one (.v (.bool false)))), none, [], true, []⟩,
  ⟨some 8, .mv (.t 148), none, [], true, []⟩]) (.ret)))))))))), res := [.t 8] }
theorem F4_ok : mtF Tryd.prog 4 F4 = true := by kernel_rfl
/- wharf/wharflaw23.SubsSeen -/
def F5 : Fun := { n := 161, code := .seq (.reg false [
  ⟨some 2, .box 23 (.t 0), none, [], true, []⟩,
  ⟨some 4, .mv (.c (.one (.v (.bool false)))), none, [], true, []⟩]) (.seq (.seq (.reg false [
  ⟨some 12, .load 9 true (.t 2), none, [], true, []⟩,
  ⟨some 13, .mv (.t 1), none, [], true, []⟩,
  ⟨some 14, .call 13 [.t 12, .t 13], none, [], true, []⟩,
  ⟨some 15, .un .not (.t 14), none, [], true, []⟩]) (.cond (.t 15) (.seq (.reg false [
  ⟨some 16, .call 6 [], none, [], true, []⟩,
  ⟨some 4, .mv (.t 16), none, [], true, []⟩]) (.ret)) (.skip))) (.seq (.seq (.reg false [
  ⟨some 5, .mv (.c (.one (.v (.int .i64 0)))), none, [], true, []⟩]) (.block 0 (.loop (.seq (.seq (.reg false [
  ⟨some 17, .mv (.t 5), none, [], true, []⟩,
  ⟨some 18, .mv (.t 1), none, [], true, []⟩,
  ⟨some 19, .len false (.t 18), none, [], true, []⟩,
  ⟨some 20, .bin .lss (.t 17) (.t 19), none, [], true, []⟩]) (.cond (.t 20) (.skip) (.exit 0))) (.seq (.block 1 (.seq (.reg true [
  ⟨some 24, .load 9 true (.t 2), none, [], false, []⟩,
  ⟨some 25, .mv (.t 1), none, [], false, []⟩,
  ⟨some 26, .mv (.t 5), none, [], false, []⟩,
  ⟨some 27, .iad 27 (.t 25) (.t 26), none, [1, 2], false, []⟩,
  ⟨some 28, .load 27 true (.t 27), none, [3], false, []⟩,
  ⟨some 29, .call 14 [.t 24, .t 28], none, [0, 4], false, []⟩,
  ⟨some 23, .mv (.t 29), none, [5], false, []⟩,
  ⟨some 30, .ext (.t 23) 0, none, [6], false, []⟩,
  ⟨some 31, .ext (.t 23) 1, none, [6], false, []⟩,
  ⟨some 6, .alloc 23 [.v (.string ⟨#[]⟩), .v (.bool false), .v (.bool false), .v (.bool false), .v (.bool false), .v (.bool false), .v (.bool false), .v (.int .i64 0), .v (.int .i64 0)], none, [], false, []⟩,
  ⟨some 7, .alloc 29 [.sl .full 1 [], .sl .full 11 [], .sl .full 5 []], none, [], false, []⟩,
  ⟨none, .store 9 (.t 6) (.t 30), none, [9, 7, 5, 0, 1, 2, 3, 4, 5, 6, 7, 9, 10], true, []⟩,
  ⟨none, .store 3 (.t 7) (.t 31), none, [10, 8, 11, 0, 1, 2, 3, 4, 5, 6, 7, 8, 9, 10, 11], true, []⟩]) (.seq (.reg false [
  ⟨some 8, .mv (.c (.one (.v (.bool false)))), none, [], true, []⟩,
  ⟨some 9, .mv (.c (.one (.v (.bool false)))), none, [], true, []⟩]) (.seq (.seq (.reg false [
  ⟨some 10, .mv (.c (.one (.v (.int .i64 0)))), none, [], true, []⟩]) (.block 2 (.loop (.seq (.seq (.reg false [
  ⟨some 32, .mv (.t 10), none, [], true, []⟩,
  ⟨some 33, .fad 0 (.t 7), none, [], true, []⟩,
  ⟨some 34, .load 1 false (.t 33), none, [], true, []⟩,
  ⟨some 35, .len false (.t 34), none, [], true, []⟩,
  ⟨some 36, .bin .lss (.t 32) (.t 35), none, [], true, []⟩]) (.cond (.t 36) (.skip) (.exit 2))) (.seq (.block 3 (.seq (.reg false [
  ⟨some 39, .fad 0 (.t 7), none, [], true, []⟩,
  ⟨some 40, .load 1 false (.t 39), none, [], true, []⟩,
  ⟨some 41, .mv (.t 10), none, [], true, []⟩,
  ⟨some 42, .iad 1 (.t 40) (.t 41), none, [], true, []⟩,
  ⟨some 43, .load 1 false (.t 42), none, [], true, []⟩,
  ⟨some 11, .mv (.t 43), none, [], true, []⟩]) (.seq (.seq (.reg false [
  ⟨some 44, .mv (.t 11), none, [], true, []⟩,
  ⟨some 45, .bin .eql (.t 44) (.c (.one (.v (.string ⟨#[]⟩)))), none, [], true, []⟩,
  ⟨some 46, .mv (.t 45), none, [], true, []⟩,
  ⟨some 47, .fad 1 (.t 6), some (46, true), [], true, []⟩,
  ⟨some 48, .load 1 false (.t 47), some (46, true), [], true, []⟩,
  ⟨some 49, .un .not (.t 48), some (46, true), [], true, []⟩,
  ⟨some 50, .mv (.t 49), some (46, true), [], true, []⟩,
  ⟨some 51, .fad 6 (.t 6), some (50, false), [], true, []⟩,
  ⟨some 52, .load 1 false (.t 51), some (50, false), [], true, []⟩,
  ⟨some 53, .un .not (.t 52), some (50, false), [], true, []⟩,
  ⟨some 54, .pick (.t 50) (.c (.one (.v (.bool true)))) (.t 53), some (46, true), [], true, []⟩,
  ⟨some 55, .pick (.t 46) (.t 54) (.c (.one (.v (.bool false)))), none, [], true, []⟩,
  ⟨some 56, .mv (.t 55), none, [], true, []⟩,
  ⟨some 57, .mv (.t 11), some (56, false), [], true, []⟩,
  ⟨some 58, .bin .eql (.t 57) (.c (.one (.v (.string ⟨#[117, 110, 97, 118, 97, 105, 108, 97, 98, 108, 101]⟩)))), some (56, false), [], true, []⟩,
  ⟨some 59, .mv (.t 58), some (56, false), [], true, []⟩,
  ⟨some 60, .fad 1 (.t 2), some (59, true), [], true, []⟩,
  ⟨some 61, .load 1 false (.t 60), some (59, true), [], true, []⟩,
  ⟨some 62, .un .not (.t 61), some (59, true), [], true, []⟩,
  ⟨some 63, .mv (.t 62), some (59, true), [], true, []⟩,
  ⟨some 64, .fad 6 (.t 6), some (63, false), [], true, []⟩,
  ⟨some 65, .load 1 false (.t 64), some (63, false), [], true, []⟩,
  ⟨some 66, .pick (.t 63) (.c (.one (.v (.bool true)))) (.t 65), some (59, true), [], true, []⟩,
  ⟨some 67, .pick (.t 59) (.t 66) (.c (.one (.v (.bool false)))), some (56, false), [], true, []⟩,
  ⟨some 68, .pick (.t 56) (.c (.one (.v (.bool true)))) (.t 67), none, [], true, []⟩,
  ⟨some 69, .mv (.t 68), none, [], true, []⟩,
  ⟨some 70, .mv (.t 11), some (69, false), [], true, []⟩,
  ⟨some 71, .bin .neq (.t 70) (.c (.one (.v (.string ⟨#[]⟩)))), some (69, false), [], true, []⟩,
  ⟨some 72, .mv (.t 71), some (69, false), [], true, []⟩,
  ⟨some 73, .mv (.t 11), some (72, true), [], true, []⟩,
  ⟨some 74, .bin .neq (.t 73) (.c (.one (.v (.string ⟨#[117, 110, 97, 118, 97, 105, 108, 97, 98, 108, 101]⟩)))), some (72, true), [], true, []⟩,
  ⟨some 75, .pick (.t 72) (.t 74) (.c (.one (.v (.bool false)))), some (69, false), [], true, []⟩,
  ⟨some 76, .mv (.t 75), some (69, false), [], true, []⟩,
  ⟨some 77, .mv (.t 11), some (76, true), [], true, []⟩,
  ⟨some 78, .bin .neq (.t 77) (.c (.one (.v (.string ⟨#[115, 117, 98, 115, 99, 114, 105, 98, 101]⟩)))), some (76, true), [], true, []⟩,
  ⟨some 79, .pick (.t 76) (.t 78) (.c (.one (.v (.bool false)))), some (69, false), [], true, []⟩,
  ⟨some 80, .mv (.t 79), some (69, false), [], true, []⟩,
  ⟨some 81, .mv (.t 11), some (80, true), [], true, []⟩,
  ⟨some 82, .bin .neq (.t 81) (.c (.one (.v (.string ⟨#[115, 117, 98, 115, 99, 114, 105, 98, 101, 100]⟩)))), some (80, true), [], true, []⟩,
  ⟨some 83, .pick (.t 80) (.t 82) (.c (.one (.v (.bool false)))), some (69, false), [], true, []⟩,
  ⟨some 84, .mv (.t 83), some (69, false), [], true, []⟩,
  ⟨some 85, .mv (.t 11), some (84, true), [], true, []⟩,
  ⟨some 86, .bin .neq (.t 85) (.c (.one (.v (.string ⟨#[117, 110, 115, 117, 98, 115, 99, 114, 105, 98, 101, 100]⟩)))), some (84, true), [], true, []⟩,
  ⟨some 87, .pick (.t 84) (.t 86) (.c (.one (.v (.bool false)))), some (69, false), [], true, []⟩,
  ⟨some 88, .pick (.t 69) (.c (.one (.v (.bool true)))) (.t 87), none, [], true, []⟩]) (.cond (.t 88) (.seq (.reg false [
  ⟨some 4, .mv (.c (.one (.v (.bool false)))), none, [], true, []⟩]) (.ret)) (.skip))) (.seq (.reg false [
  ⟨some 89, .mv (.t 8), none, [], true, []⟩,
  ⟨some 90, .mv (.t 89), none, [], true, []⟩,
  ⟨some 91, .mv (.t 11), some (90, false), [], true, []⟩,
  ⟨some 92, .bin .eql (.t 91) (.c (.one (.v (.string ⟨#[115, 117, 98, 115, 99, 114, 105, 98, 101, 100]⟩)))), some (90, false), [], true, []⟩,
  ⟨some 93, .pick (.t 90) (.c (.one (.v (.bool true)))) (.t 92), none, [], true, []⟩,
  ⟨some 8, .mv (.t 93), none, [], true, []⟩]) (.reg false [
  ⟨some 94, .mv (.t 9), none, [], true, []⟩,
  ⟨some 95, .mv (.t 94), none, [], true, []⟩,
  ⟨some 96, .mv (.t 11), some (95, false), [], true, []⟩,
  ⟨some 97, .bin .eql (.t 96) (.c (.one (.v (.string ⟨#[117, 110, 115, 117, 98, 115, 99, 114, 105, 98, 101, 100]⟩)))), some (95, false), [], true, []⟩,
  ⟨some 98, .pick (.t 95) (.c (.one (.v (.bool true)))) (.t 97), none, [], true, []⟩,
  ⟨some 9, .mv (.t 98), none, [], true, []⟩]))))) (.reg false [
  ⟨some 37, .mv (.t 10), none, [], true, []⟩,
  ⟨some 38, .bin .add (.t 37) (.c (.one (.v (.int .i64 1)))), none, [], true, []⟩,
  ⟨some 10, .mv (.t 38), none, [], true, []⟩])))))) (.seq (.seq (.reg false [
  ⟨some 99, .fad 1 (.t 6), none, [], true, []⟩,
  ⟨some 100, .load 1 false (.t 99), none, [], true, []⟩,
  ⟨some 101, .mv (.t 100), none, [], true, []⟩,
  ⟨some 102, .fad 1 (.t 2), some (101, true), [], true, []⟩,
  ⟨some 103, .load 1 false (.t 102), some (101, true), [], true, []⟩,
  ⟨some 104, .un .not (.t 103), some (101, true), [], true, []⟩,
  ⟨some 105, .pick (.t 101) (.t 104) (.c (.one (.v (.bool false)))), none, [], true, []⟩,
  ⟨some 106, .mv (.t 105), none, [], true, []⟩,
  ⟨some 107, .mv (.t 8), some (106, true), [], true, []⟩,
  ⟨some 108, .un .not (.t 107), some (106, true), [], true, []⟩,
  ⟨some 109, .pick (.t 106) (.t 108) (.c (.one (.v (.bool false)))), none, [], true, []⟩,
  ⟨some 110, .mv (.t 109), none, [], true, []⟩,
  ⟨some 111, .fad 1 (.t 6), some (110, false), [], true, []⟩,
  ⟨some 112, .load 1 false (.t 111), some (110, false), [], true, []⟩,
  ⟨some 113, .un .not (.t 112), some (110, false), [], true, []⟩,
  ⟨some 114, .mv (.t 113), some (110, false), [], true, []⟩,
  ⟨some 115, .fad 1 (.t 2), some (114, true), [], true, []⟩,
  ⟨some 116, .load 1 false (.t 115), some (114, true), [], true, []⟩,
  ⟨some 117, .pick (.t 114) (.t 116) (.c (.one (.v (.bool false)))), some (110, false), [], true, []⟩,
  ⟨some 118, .mv (.t 117), some (110, false), [], true, []⟩,
  ⟨some 119, .mv (.t 9), some (118, true), [], true, []⟩,
  ⟨some 120, .un .not (.t 119), some (118, true), [], true, []⟩,
  ⟨some 121, .pick (.t 118) (.t 120) (.c (.one (.v (.bool false)))), some (110, false), [], true, []⟩,
  ⟨some 122, .mv (.t 121), some (110, false), [], true, []⟩,
  ⟨some 123, .mv (.t 1), some (122, true), [], true, []⟩,
  ⟨some 124, .mv (.t 5), some (122, true), [], true, []⟩,
  ⟨some 125, .iad 27 (.t 123) (.t 124), some (122, true), [], true, []⟩,
  ⟨some 126, .fad 0 (.t 125), some (122, true), [], true, []⟩,
  ⟨some 127, .load 1 false (.t 126), some (122, true), [], true, []⟩,
  ⟨some 128, .bin .eql (.t 127) (.c (.one (.v (.int .i64 3)))), some (122, true), [], true, []⟩,
  ⟨some 129, .mv (.t 128), some (122, true), [], true, []⟩,
  ⟨some 130, .mv (.t 1), some (129, true), [], true, []⟩,
  ⟨some 131, .mv (.t 5), some (129, true), [], true, []⟩,
  ⟨some 132, .iad 27 (.t 130) (.t 131), some (129, true), [], true, []⟩,
  ⟨some 133, .fad 21 (.t 132), some (129, true), [], true, []⟩,
  ⟨some 134, .fad 5 (.t 133), some (129, true), [], true, []⟩,
  ⟨some 135, .load 1 false (.t 134), some (129, true), [], true, []⟩,
  ⟨some 136, .pick (.t 129) (.t 135) (.c (.one (.v (.bool false)))), some (122, true), [], true, []⟩,
  ⟨some 137, .un .not (.t 136), some (122, true), [], true, []⟩,
  ⟨some 138, .pick (.t 122) (.t 137) (.c (.one (.v (.bool false)))), some (110, false), [], true, []⟩,
  ⟨some 139, .pick (.t 110) (.c (.one (.v (.bool true)))) (.t 138), none, [], true, []⟩,
  ⟨some 140, .mv (.t 139), none, [], true, []⟩,
  ⟨some 141, .fad 0 (.t 6), some (140, false), [], true, []⟩,
  ⟨some 142, .load 1 false (.t 141), some (140, false), [], true, []⟩,
  ⟨some 143, .fad 0 (.t 2), some (140, false), [], true, []⟩,
  ⟨some 144, .load 1 false (.t 143), some (140, false), [], true, []⟩,
  ⟨some 145, .bin .neq (.t 142) (.t 144), some (140, false), [], true, []⟩,
  ⟨some 146, .pick (.t 140) (.c (.one (.v (.bool true)))) (.t 145), none, [], true, []⟩,
  ⟨some 147, .mv (.t 146), none, [], true, []⟩,
  ⟨some 148, .fad 2 (.t 7), some (147, false), [], true, []⟩,
  ⟨some 149, .load 1 false (.t 148), some (147, false), [], true, []⟩,
  ⟨some 150, .len false (.t 149), some (147, false), [], true, []⟩,
  ⟨some 151, .bin .gtr (.t 150) (.c (.one (.v (.int .i64 1)))), some (147, false), [], true, []⟩,
  ⟨some 152, .pick (.t 147) (.c (.one (.v (.bool true)))) (.t 151), none, [], true, []⟩,
  ⟨some 153, .mv (.t 152), none, [], true, []⟩,
  ⟨some 154, .fad 1 (.t 7), some (153, false), [], true, []⟩,
  ⟨some 155, .load 1 false (.t 154), some (153, false), [], true, []⟩,
  ⟨some 156, .len false (.t 155), some (153, false), [], true, []⟩,
  ⟨some 157, .bin .gtr (.t 156) (.c (.one (.v (.int .i64 1)))), some (153, false), [], true, []⟩,
  ⟨some 158, .pick (.t 153) (.c (.one (.v (.bool true)))) (.t 157), none, [], true, []⟩]) (.cond (.t 158) (.seq (.reg false [
  ⟨some 4, .mv (.c (.one (.v (.bool false)))), none, [], true, []⟩]) (.ret)) (.skip))) (.reg false [
  ⟨some 159, .load 9 true (.t 6), none, [], true, []⟩,
  ⟨none, .store 9 (.t 2) (.t 159), none, [], true, []⟩])))))) (.reg false [
  ⟨some 21, .mv (.t 5), none, [], true, []⟩,
  ⟨some 22, .bin .add (.t 21) (.c (.one (.v (.int .i64 1)))), none, [], true, []⟩,
  ⟨some 5, .mv (.t 22), none, [], true, []⟩])))))) (.seq (.reg false [
  ⟨some 160, .call 6 [], none, [], true, []⟩,
  ⟨some 4, .mv (.t 160), none, [], true, []⟩]) (.ret)))), res := [.t 4] }
theorem F5_ok : mtF Tryd.prog 5 F5 = true := by kernel_rfl
/- wharf/wharflaw23.live -/
def F6 : Fun := { n := 123, code := .seq (.reg false [
  ⟨some 0, .mv (.c (.one (.v (.bool false)))), none, [], true, []⟩]) (.seq (.reg false [
  ⟨some 12, .build [.v (.string ⟨#[]⟩), .v (.bool false), .v (.bool false), .v (.bool false), .v (.bool false), .v (.bool false), .v (.bool false), .v (.int .i64 0), .v (.int .i64 0)] [(0, 1, .c (.one (.v (.string ⟨#[106, 111, 101]⟩))))], none, [], true, []⟩,
  ⟨some 13, .call 8 [.t 12, .c (.one (.v (.string ⟨#[115, 117, 98, 115, 99, 114, 105, 98, 101]⟩))), .c (.one (.v (.string ⟨#[74]⟩))), .c (.one (.v (.string ⟨#[103]⟩)))], none, [], true, []⟩,
  ⟨some 11, .mv (.t 13), none, [], true, []⟩,
  ⟨some 14, .ext (.t 11) 0, none, [], true, []⟩,
  ⟨some 15, .ext (.t 11) 1, none, [], true, []⟩,
  ⟨some 1, .alloc 23 [.v (.string ⟨#[]⟩), .v (.bool false), .v (.bool false), .v (.bool false), .v (.bool false), .v (.bool false), .v (.bool false), .v (.int .i64 0), .v (.int .i64 0)], none, [], true, []⟩,
  ⟨some 2, .alloc 29 [.sl .full 1 [], .sl .full 11 [], .sl .full 5 []], none, [], true, []⟩,
  ⟨none, .store 9 (.t 1) (.t 14), none, [], true, []⟩,
  ⟨none, .store 3 (.t 2) (.t 15), none, [], true, []⟩]) (.seq (.reg false [
  ⟨some 17, .load 9 true (.t 1), none, [], true, []⟩,
  ⟨some 18, .build [.v (.int .i64 0), .v (.string ⟨#[]⟩), .v (.string ⟨#[]⟩), .v (.string ⟨#[]⟩), .v (.bool false)] [(0, 1, .c (.one (.v (.int .i64 1)))), (1, 1, .c (.one (.v (.string ⟨#[74, 111, 101]⟩))))], none, [], true, []⟩,
  ⟨some 19, .build [.v (.int .i64 0), .v (.string ⟨#[]⟩), .v (.string ⟨#[]⟩), .v (.string ⟨#[]⟩), .v (.bool false), .v (.int .i64 0)] [(0, 5, .t 18)], none, [], true, []⟩,
  ⟨some 20, .call 10 [.t 17, .t 19], none, [], true, []⟩,
  ⟨some 16, .mv (.t 20), none, [], true, []⟩,
  ⟨some 21, .ext (.t 16) 0, none, [], true, []⟩,
  ⟨some 22, .ext (.t 16) 1, none, [], true, []⟩,
  ⟨some 3, .alloc 23 [.v (.string ⟨#[]⟩), .v (.bool false), .v (.bool false), .v (.bool false), .v (.bool false), .v (.bool false), .v (.bool false), .v (.int .i64 0), .v (.int .i64 0)], none, [], true, []⟩,
  ⟨some 4, .alloc 29 [.sl .full 1 [], .sl .full 11 [], .sl .full 5 []], none, [], true, []⟩,
  ⟨none, .store 9 (.t 3) (.t 21), none, [], true, []⟩,
  ⟨none, .store 3 (.t 4) (.t 22), none, [], true, []⟩]) (.seq (.reg false [
  ⟨some 24, .load 9 true (.t 3), none, [], true, []⟩,
  ⟨some 25, .build [.v (.int .i64 0), .v (.string ⟨#[]⟩), .v (.string ⟨#[]⟩), .v (.string ⟨#[]⟩), .v (.int .i64 0), .v (.int .i64 0), .v (.int .i64 0), .v (.int .i64 0), .v (.bool false), .sl .full 6 [], .sl .full 1 []] [(0, 1, .c (.one (.v (.int .i64 13)))), (1, 1, .c (.one (.v (.string ⟨#[106, 111, 101]⟩))))], none, [], true, []⟩,
  ⟨some 26, .call 7 [.t 24, .t 25], none, [], true, []⟩,
  ⟨some 23, .mv (.t 26), none, [], true, []⟩,
  ⟨some 27, .ext (.t 23) 0, none, [], true, []⟩,
  ⟨some 28, .ext (.t 23) 1, none, [], true, []⟩,
  ⟨some 5, .alloc 23 [.v (.string ⟨#[]⟩), .v (.bool false), .v (.bool false), .v (.bool false), .v (.bool false), .v (.bool false), .v (.bool false), .v (.int .i64 0), .v (.int .i64 0)], none, [], true, []⟩,
  ⟨some 6, .alloc 29 [.sl .full 1 [], .sl .full 11 [], .sl .full 5 []], none, [], true, []⟩,
  ⟨none, .store 9 (.t 5) (.t 27), none, [], true, []⟩,
  ⟨none, .store 3 (.t 6) (.t 28), none, [], true, []⟩]) (.seq (.reg false [
  ⟨some 30, .load 9 true (.t 3), none, [], true, []⟩,
  ⟨some 31, .build [.v (.int .i64 0), .v (.string ⟨#[]⟩), .v (.string ⟨#[]⟩), .v (.string ⟨#[]⟩), .v (.int .i64 0), .v (.int .i64 0), .v (.int .i64 0), .v (.int .i64 0), .v (.bool false), .sl .full 6 [], .sl .full 1 []] [(0, 1, .c (.one (.v (.int .i64 27)))), (1, 1, .c (.one (.v (.string ⟨#[106, 111, 101]⟩))))], none, [], true, []⟩,
  ⟨some 32, .call 7 [.t 30, .t 31], none, [], true, []⟩,
  ⟨some 29, .mv (.t 32), none, [], true, []⟩,
  ⟨some 33, .ext (.t 29) 0, none, [], true, []⟩,
  ⟨some 34, .ext (.t 29) 1, none, [], true, []⟩,
  ⟨some 7, .alloc 23 [.v (.string ⟨#[]⟩), .v (.bool false), .v (.bool false), .v (.bool false), .v (.bool false), .v (.bool false), .v (.bool false), .v (.int .i64 0), .v (.int .i64 0)], none, [], true, []⟩,
  ⟨some 8, .alloc 29 [.sl .full 1 [], .sl .full 11 [], .sl .full 5 []], none, [], true, []⟩,
  ⟨none, .store 9 (.t 7) (.t 33), none, [], true, []⟩,
  ⟨none, .store 3 (.t 8) (.t 34), none, [], true, []⟩]) (.seq (.reg false [
  ⟨some 36, .load 9 true (.t 7), none, [], true, []⟩,
  ⟨some 37, .call 8 [.t 36, .c (.one (.v (.string ⟨#[115, 117, 98, 115, 99, 114, 105, 98, 101, 100]⟩))), .c (.one (.v (.string ⟨#[]⟩))), .c (.one (.v (.string ⟨#[]⟩)))], none, [], true, []⟩,
  ⟨some 35, .mv (.t 37), none, [], true, []⟩,
  ⟨some 38, .ext (.t 35) 0, none, [], true, []⟩,
  ⟨some 39, .ext (.t 35) 1, none, [], true, []⟩,
  ⟨some 9, .alloc 23 [.v (.string ⟨#[]⟩), .v (.bool false), .v (.bool false), .v (.bool false), .v (.bool false), .v (.bool false), .v (.bool false), .v (.int .i64 0), .v (.int .i64 0)], none, [], true, []⟩,
  ⟨some 10, .alloc 29 [.sl .full 1 [], .sl .full 11 [], .sl .full 5 []], none, [], true, []⟩,
  ⟨none, .store 9 (.t 9) (.t 38), none, [], true, []⟩,
  ⟨none, .store 3 (.t 10) (.t 39), none, [], true, []⟩]) (.seq (.reg false [
  ⟨some 40, .fad 2 (.t 1), none, [], true, []⟩,
  ⟨some 41, .load 1 false (.t 40), none, [], true, []⟩,
  ⟨some 42, .mv (.t 41), none, [], true, []⟩,
  ⟨some 43, .fad 2 (.t 2), some (42, true), [], true, []⟩,
  ⟨some 44, .load 1 false (.t 43), some (42, true), [], true, []⟩,
  ⟨some 45, .len false (.t 44), some (42, true), [], true, []⟩,
  ⟨some 46, .bin .eql (.t 45) (.c (.one (.v (.int .i64 1)))), some (42, true), [], true, []⟩,
  ⟨some 47, .pick (.t 42) (.t 46) (.c (.one (.v (.bool false)))), none, [], true, []⟩,
  ⟨some 48, .mv (.t 47), none, [], true, []⟩,
  ⟨some 49, .fad 2 (.t 2), some (48, true), [], true, []⟩,
  ⟨some 50, .load 1 false (.t 49), some (48, true), [], true, []⟩,
  ⟨some 51, .iad 5 (.t 50) (.c (.one (.v (.int .i64 0)))), some (48, true), [], true, []⟩,
  ⟨some 52, .fad 3 (.t 51), some (48, true), [], true, []⟩,
  ⟨some 53, .load 1 false (.t 52), some (48, true), [], true, []⟩,
  ⟨some 54, .bin .eql (.t 53) (.c (.one (.v (.string ⟨#[103]⟩)))), some (48, true), [], true, []⟩,
  ⟨some 55, .pick (.t 48) (.t 54) (.c (.one (.v (.bool false)))), none, [], true, []⟩,
  ⟨some 56, .mv (.t 55), none, [], true, []⟩,
  ⟨some 57, .fad 1 (.t 3), some (56, true), [], true, []⟩,
  ⟨some 58, .load 1 false (.t 57), some (56, true), [], true, []⟩,
  ⟨some 59, .pick (.t 56) (.t 58) (.c (.one (.v (.bool false)))), none, [], true, []⟩,
  ⟨some 60, .mv (.t 59), none, [], true, []⟩,
  ⟨some 61, .fad 0 (.t 4), some (60, true), [], true, []⟩,
  ⟨some 62, .load 1 false (.t 61), some (60, true), [], true, []⟩,
  ⟨some 63, .len false (.t 62), some (60, true), [], true, []⟩,
  ⟨some 64, .bin .eql (.t 63) (.c (.one (.v (.int .i64 1)))), some (60, true), [], true, []⟩,
  ⟨some 65, .pick (.t 60) (.t 64) (.c (.one (.v (.bool false)))), none, [], true, []⟩,
  ⟨some 66, .mv (.t 65), none, [], true, []⟩,
  ⟨some 67, .fad 0 (.t 4), some (66, true), [], true, []⟩,
  ⟨some 68, .load 1 false (.t 67), some (66, true), [], true, []⟩,
  ⟨some 69, .iad 1 (.t 68) (.c (.one (.v (.int .i64 0)))), some (66, true), [], true, []⟩,
  ⟨some 70, .load 1 false (.t 69), some (66, true), [], true, []⟩,
  ⟨some 71, .bin .eql (.t 70) (.c (.one (.v (.string ⟨#[115, 117, 98, 115, 99, 114, 105, 98, 101, 100]⟩)))), some (66, true), [], true, []⟩,
  ⟨some 72, .pick (.t 66) (.t 71) (.c (.one (.v (.bool false)))), none, [], true, []⟩,
  ⟨some 73, .mv (.t 72), none, [], true, []⟩,
  ⟨some 74, .fad 0 (.t 6), some (73, true), [], true, []⟩,
  ⟨some 75, .load 1 false (.t 74), some (73, true), [], true, []⟩,
  ⟨some 76, .len false (.t 75), some (73, true), [], true, []⟩,
  ⟨some 77, .bin .eql (.t 76) (.c (.one (.v (.int .i64 1)))), some (73, true), [], true, []⟩,
  ⟨some 78, .pick (.t 73) (.t 77) (.c (.one (.v (.bool false)))), none, [], true, []⟩,
  ⟨some 79, .mv (.t 78), none, [], true, []⟩,
  ⟨some 80, .fad 0 (.t 6), some (79, true), [], true, []⟩,
  ⟨some 81, .load 1 false (.t 80), some (79, true), [], true, []⟩,
  ⟨some 82, .iad 1 (.t 81) (.c (.one (.v (.int .i64 0)))), some (79, true), [], true, []⟩,
  ⟨some 83, .load 1 false (.t 82), some (79, true), [], true, []⟩,
  ⟨some 84, .bin .eql (.t 83) (.c (.one (.v (.string ⟨#[]⟩)))), some (79, true), [], true, []⟩,
  ⟨some 85, .pick (.t 79) (.t 84) (.c (.one (.v (.bool false)))), none, [], true, []⟩,
  ⟨some 86, .mv (.t 85), none, [], true, []⟩,
  ⟨some 87, .fad 0 (.t 8), some (86, true), [], true, []⟩,
  ⟨some 88, .load 1 false (.t 87), some (86, true), [], true, []⟩,
  ⟨some 89, .len false (.t 88), some (86, true), [], true, []⟩,
  ⟨some 90, .bin .eql (.t 89) (.c (.one (.v (.int .i64 1)))), some (86, true), [], true, []⟩,
  ⟨some 91, .pick (.t 86) (.t 90) (.c (.one (.v (.bool false)))), none, [], true, []⟩,
  ⟨some 92, .mv (.t 91), none, [], true, []⟩,
  ⟨some 93, .fad 5 (.t 7), some (92, true), [], true, []⟩,
  ⟨some 94, .load 1 false (.t 93), some (92, true), [], true, []⟩,
  ⟨some 95, .pick (.t 92) (.t 94) (.c (.one (.v (.bool false)))), none, [], true, []⟩,
  ⟨some 96, .mv (.t 95), none, [], true, []⟩,
  ⟨some 97, .fad 1 (.t 10), some (96, true), [], true, []⟩,
  ⟨some 98, .load 1 false (.t 97), some (96, true), [], true, []⟩,
  ⟨some 99, .len false (.t 98), some (96, true), [], true, []⟩,
  ⟨some 100, .bin .eql (.t 99) (.c (.one (.v (.int .i64 1)))), some (96, true), [], true, []⟩,
  ⟨some 101, .pick (.t 96) (.t 100) (.c (.one (.v (.bool false)))), none, [], true, []⟩,
  ⟨some 102, .mv (.t 101), none, [], true, []⟩,
  ⟨some 103, .fad 1 (.t 10), some (102, true), [], true, []⟩,
  ⟨some 104, .load 1 false (.t 103), some (102, true), [], true, []⟩,
  ⟨some 105, .iad 11 (.t 104) (.c (.one (.v (.int .i64 0)))), some (102, true), [], true, []⟩,
  ⟨some 106, .fad 8 (.t 105), some (102, true), [], true, []⟩,
  ⟨some 107, .load 1 false (.t 106), some (102, true), [], true, []⟩,
  ⟨some 108, .pick (.t 102) (.t 107) (.c (.one (.v (.bool false)))), none, [], true, []⟩,
  ⟨some 109, .mv (.t 108), none, [], true, []⟩,
  ⟨some 110, .load 9 true (.t 3), some (109, true), [], true, []⟩,
  ⟨some 111, .call 11 [.t 110], some (109, true), [], true, []⟩,
  ⟨some 112, .bin .eql (.t 111) (.c (.one (.v (.string ⟨#[116, 111]⟩)))), some (109, true), [], true, []⟩,
  ⟨some 113, .pick (.t 109) (.t 112) (.c (.one (.v (.bool false)))), none, [], true, []⟩,
  ⟨some 114, .mv (.t 113), none, [], true, []⟩,
  ⟨some 115, .build [.v (.string ⟨#[]⟩), .v (.bool false), .v (.bool false), .v (.bool false), .v (.bool false), .v (.bool false), .v (.bool false), .v (.int .i64 0), .v (.int .i64 0)] [(0, 1, .c (.one (.v (.string ⟨#[106, 111, 101]⟩))))], some (114, true), [], true, []⟩,
  ⟨some 116, .call 15 [.t 115], some (114, true), [], true, []⟩,
  ⟨some 117, .pick (.t 114) (.t 116) (.c (.one (.v (.bool false)))), none, [], true, []⟩,
  ⟨some 118, .mv (.t 117), none, [], true, []⟩,
  ⟨some 119, .load 9 true (.t 3), some (118, true), [], true, []⟩,
  ⟨some 120, .call 15 [.t 119], some (118, true), [], true, []⟩,
  ⟨some 121, .un .not (.t 120), some (118, true), [], true, []⟩,
  ⟨some 122, .pick (.t 118) (.t 121) (.c (.one (.v (.bool false)))), none, [], true, []⟩,
  ⟨some 0, .mv (.t 122), none, [], true, []⟩]) (.ret))))))), res := [.t 0] }
theorem F6_ok : mtF Tryd.prog 6 F6 = true := by kernel_rfl
/- wharf/subs.Heard -/
def F7 : Fun := { n := 76, code := .seq (.reg false [
  ⟨some 2, .box 23 (.t 0), none, [], true, []⟩,
  ⟨some 3, .box 35 (.t 1), none, [], true, []⟩,
  ⟨some 4, .alloc 23 [.v (.string ⟨#[]⟩), .v (.bool false), .v (.bool false), .v (.bool false), .v (.bool false), .v (.bool false), .v (.bool false), .v (.int .i64 0), .v (.int .i64 0)], none, [], true, []⟩,
  ⟨some 5, .alloc 29 [.sl .full 1 [], .sl .full 11 [], .sl .full 5 []], none, [], true, []⟩]) (.seq (.reg false [
  ⟨some 6, .load 9 true (.t 2), none, [], true, []⟩,
  ⟨none, .store 9 (.t 4) (.t 6), none, [], true, []⟩]) (.seq (.seq (.reg false [
  ⟨some 7, .fad 0 (.t 2), none, [], true, []⟩,
  ⟨some 8, .load 1 false (.t 7), none, [], true, []⟩,
  ⟨some 9, .fad 1 (.t 3), none, [], true, []⟩,
  ⟨some 10, .load 1 false (.t 9), none, [], true, []⟩,
  ⟨some 11, .call 16 [.t 8, .t 10], none, [], true, []⟩,
  ⟨some 12, .un .not (.t 11), none, [], true, []⟩]) (.cond (.t 12) (.seq (.reg true [
  ⟨some 13, .load 9 true (.t 4), none, [], false, []⟩,
  ⟨some 14, .load 3 true (.t 5), none, [], false, []⟩,
  ⟨none, .store 9 (.t 4) (.t 13), none, [0, 0], false, [1]⟩,
  ⟨none, .store 3 (.t 5) (.t 14), none, [1, 2, 0, 1, 2], true, []⟩]) (.ret)) (.skip))) (.seq (.seq (.reg false [
  ⟨some 15, .fad 0 (.t 3), none, [], true, []⟩,
  ⟨some 16, .load 1 false (.t 15), none, [], true, []⟩]) (.block 0 (.seq (.reg false [
  ⟨some 18, .bin .eql (.t 16) (.c (.one (.v (.int .i64 13)))), none, [], true, []⟩,
  ⟨some 17, .mv (.t 18), none, [], true, []⟩]) (.cond (.t 17) (.seq (.reg true [
  ⟨some 19, .fad 5 (.t 3), none, [], false, []⟩,
  ⟨some 20, .load 1 false (.t 19), none, [0], false, []⟩,
  ⟨some 21, .fad 6 (.t 3), none, [], false, []⟩,
  ⟨some 22, .load 1 false (.t 21), none, [2], false, []⟩,
  ⟨some 23, .fad 6 (.t 4), none, [], false, []⟩,
  ⟨none, .store 1 (.t 23) (.c (.one (.v (.bool true)))), none, [4], false, [1, 3]⟩,
  ⟨some 24, .fad 7 (.t 4), none, [0, 1, 4, 5], false, []⟩,
  ⟨none, .store 1 (.t 24) (.t 20), none, [6, 1, 5, 0, 1, 4, 5], false, [3]⟩,
  ⟨some 25, .fad 8 (.t 4), none, [0, 1, 2, 3, 4, 5, 6, 7], false, []⟩,
  ⟨none, .store 1 (.t 25) (.t 22), none, [8, 3, 7, 0, 1, 2, 3, 4, 5, 6, 7], true, []⟩]) (.reg false [
  ⟨some 26, .load 9 true (.t 4), none, [], true, []⟩,
  ⟨some 27, .call 17 [.t 26, .c (.one (.sl .full 1 []))], none, [], true, []⟩,
  ⟨some 28, .fad 0 (.t 5), none, [], true, []⟩,
  ⟨none, .store 1 (.t 28) (.t 27), none, [], true, []⟩])) (.seq (.reg false [
  ⟨some 30, .bin .eql (.t 16) (.c (.one (.v (.int .i64 14)))), none, [], true, []⟩,
  ⟨some 29, .mv (.t 30), none, [], true, []⟩]) (.cond (.t 29) (.seq (.seq (.reg false [
  ⟨some 31, .fad 6 (.t 2), none, [], true, []⟩,
  ⟨some 32, .load 1 false (.t 31), none, [], true, []⟩,
  ⟨some 33, .un .not (.t 32), none, [], true, []⟩]) (.cond (.t 33) (.exit 0) (.skip))) (.seq (.reg false [
  ⟨some 34, .fad 6 (.t 4), none, [], true, []⟩,
  ⟨none, .store 1 (.t 34) (.c (.one (.v (.bool false)))), none, [], true, []⟩,
  ⟨some 35, .fad 7 (.t 4), none, [], true, []⟩,
  ⟨none, .store 1 (.t 35) (.c (.one (.v (.int .i64 0)))), none, [], true, []⟩,
  ⟨some 36, .fad 8 (.t 4), none, [], true, []⟩,
  ⟨none, .store 1 (.t 36) (.c (.one (.v (.int .i64 0)))), none, [], true, []⟩]) (.seq (.reg false [
  ⟨some 37, .fad 1 (.t 2), none, [], true, []⟩,
  ⟨some 38, .load 1 false (.t 37), none, [], true, []⟩]) (.cond (.t 38) (.reg false [
  ⟨some 39, .bsl 9 1 [.c (.one (.v (.string ⟨#[117, 110, 97, 118, 97, 105, 108, 97, 98, 108, 101]⟩)))], none, [], true, []⟩,
  ⟨some 40, .fad 0 (.t 5), none, [], true, []⟩,
  ⟨none, .store 1 (.t 40) (.t 39), none, [], true, []⟩]) (.skip))))) (.seq (.reg false [
  ⟨some 42, .bin .eql (.t 16) (.c (.one (.v (.int .i64 29)))), none, [], true, []⟩,
  ⟨some 41, .mv (.t 42), none, [], true, []⟩]) (.cond (.t 41) (.block 1 (.seq (.reg false [
  ⟨some 44, .fad 3 (.t 2), none, [], true, []⟩,
  ⟨some 45, .load 1 false (.t 44), none, [], true, []⟩,
  ⟨some 46, .mv (.t 45), none, [], true, []⟩,
  ⟨some 47, .fad 8 (.t 3), some (46, true), [], true, []⟩,
  ⟨some 48, .load 1 false (.t 47), some (46, true), [], true, []⟩,
  ⟨some 49, .pick (.t 46) (.t 48) (.c (.one (.v (.bool false)))), none, [], true, []⟩,
  ⟨some 43, .mv (.t 49), none, [], true, []⟩]) (.cond (.t 43) (.seq (.reg false [
  ⟨some 50, .load 9 true (.t 2), none, [], true, []⟩,
  ⟨some 51, .call 18 [.t 50], none, [], true, []⟩,
  ⟨some 52, .ext (.t 51) 0, none, [], true, []⟩,
  ⟨some 53, .ext (.t 51) 1, none, [], true, []⟩,
  ⟨none, .store 9 (.t 4) (.t 52), none, [], true, []⟩,
  ⟨none, .store 3 (.t 5) (.t 53), none, [], true, []⟩]) (.ret)) (.seq (.reg false [
  ⟨some 55, .fad 3 (.t 2), none, [], true, []⟩,
  ⟨some 56, .load 1 false (.t 55), none, [], true, []⟩,
  ⟨some 54, .mv (.t 56), none, [], true, []⟩]) (.cond (.t 54) (.seq (.reg false [
  ⟨some 57, .fad 3 (.t 4), none, [], true, []⟩,
  ⟨none, .store 1 (.t 57) (.c (.one (.v (.bool false)))), none, [], true, []⟩,
  ⟨some 58, .fad 2 (.t 4), none, [], true, []⟩,
  ⟨none, .store 1 (.t 58) (.c (.one (.v (.bool false)))), none, [], true, []⟩]) (.reg false [
  ⟨some 59, .bsl 9 1 [.c (.one (.v (.string ⟨#[117, 110, 115, 117, 98, 115, 99, 114, 105, 98, 101, 100]⟩)))], none, [], true, []⟩,
  ⟨some 60, .load 9 true (.t 2), none, [], true, []⟩,
  ⟨some 61, .call 19 [.t 60], none, [], true, []⟩,
  ⟨some 62, .fad 0 (.t 5), none, [], true, []⟩,
  ⟨none, .store 1 (.t 62) (.t 59), none, [], true, []⟩,
  ⟨some 63, .fad 2 (.t 5), none, [], true, []⟩,
  ⟨none, .store 1 (.t 63) (.t 61), none, [], true, []⟩])) (.skip)))))) (.seq (.reg false [
  ⟨some 65, .bin .eql (.t 16) (.c (.one (.v (.int .i64 27)))), none, [], true, []⟩,
  ⟨some 64, .mv (.t 65), none, [], true, []⟩]) (.cond (.t 64) (.seq (.seq (.reg false [
  ⟨some 66, .fad 4 (.t 2), none, [], true, []⟩,
  ⟨some 67, .load 1 false (.t 66), none, [], true, []⟩]) (.cond (.t 67) (.seq (.reg false [
  ⟨some 68, .load 9 true (.t 2), none, [], true, []⟩,
  ⟨some 69, .call 20 [.t 68, .c (.one (.v (.bool true)))], none, [], true, []⟩,
  ⟨some 70, .fad 1 (.t 5), none, [], true, []⟩,
  ⟨none, .store 1 (.t 70) (.t 69), none, [], true, []⟩]) (.exit 0)) (.skip))) (.seq (.reg false [
  ⟨some 71, .fad 5 (.t 4), none, [], true, []⟩,
  ⟨none, .store 1 (.t 71) (.c (.one (.v (.bool true)))), none, [], true, []⟩]) (.reg false [
  ⟨some 72, .bsl 9 1 [.c (.one (.v (.string ⟨#[115, 117, 98, 115, 99, 114, 105, 98, 101]⟩)))], none, [], true, []⟩,
  ⟨some 73, .fad 0 (.t 5), none, [], true, []⟩,
  ⟨none, .store 1 (.t 73) (.t 72), none, [], true, []⟩]))) (.skip))))))))))) (.seq (.reg true [
  ⟨some 74, .load 9 true (.t 4), none, [], false, []⟩,
  ⟨some 75, .load 3 true (.t 5), none, [], false, []⟩,
  ⟨none, .store 9 (.t 4) (.t 74), none, [0, 0], false, [1]⟩,
  ⟨none, .store 3 (.t 5) (.t 75), none, [1, 2, 0, 1, 2], true, []⟩]) (.ret))))), res := [.c 4 9 true, .c 5 3 true] }
theorem F7_ok : mtF Tryd.prog 7 F7 = true := by kernel_rfl
/- wharf/subs.User -/
def F8 : Fun := { n := 68, code := .seq (.reg false [
  ⟨some 4, .box 23 (.t 0), none, [], true, []⟩,
  ⟨some 8, .alloc 23 [.v (.string ⟨#[]⟩), .v (.bool false), .v (.bool false), .v (.bool false), .v (.bool false), .v (.bool false), .v (.bool false), .v (.int .i64 0), .v (.int .i64 0)], none, [], true, []⟩,
  ⟨some 9, .alloc 29 [.sl .full 1 [], .sl .full 11 [], .sl .full 5 []], none, [], true, []⟩]) (.seq (.reg false [
  ⟨some 10, .load 9 true (.t 4), none, [], true, []⟩,
  ⟨none, .store 9 (.t 8) (.t 10), none, [], true, []⟩]) (.seq (.seq (.reg false [
  ⟨some 11, .mv (.t 1), none, [], true, []⟩]) (.block 0 (.seq (.block 4 (.seq (.block 3 (.seq (.block 2 (.seq (.block 1 (.seq (.seq (.seq (.reg false [
  ⟨some 13, .bin .eql (.t 11) (.c (.one (.v (.string ⟨#[115, 117, 98, 115, 99, 114, 105, 98, 101]⟩)))), none, [], true, []⟩,
  ⟨some 12, .mv (.t 13), none, [], true, []⟩]) (.cond (.t 12) (.exit 1) (.skip))) (.seq (.seq (.reg false [
  ⟨some 15, .bin .eql (.t 11) (.c (.one (.v (.string ⟨#[117, 110, 115, 117, 98, 115, 99, 114, 105, 98, 101]⟩)))), none, [], true, []⟩,
  ⟨some 14, .mv (.t 15), none, [], true, []⟩]) (.cond (.t 14) (.exit 2) (.skip))) (.seq (.seq (.reg false [
  ⟨some 17, .bin .eql (.t 11) (.c (.one (.v (.string ⟨#[115, 117, 98, 115, 99, 114, 105, 98, 101, 100]⟩)))), none, [], true, []⟩,
  ⟨some 16, .mv (.t 17), none, [], true, []⟩]) (.cond (.t 16) (.exit 3) (.skip))) (.seq (.reg false [
  ⟨some 19, .bin .eql (.t 11) (.c (.one (.v (.string ⟨#[117, 110, 115, 117, 98, 115, 99, 114, 105, 98, 101, 100]⟩)))), none, [], true, []⟩,
  ⟨some 18, .mv (.t 19), none, [], true, []⟩]) (.cond (.t 18) (.exit 4) (.skip)))))) (.exit 0))) (.seq (.seq (.seq (.reg false [
  ⟨some 20, .fad 1 (.t 4), none, [], true, []⟩,
  ⟨some 21, .load 1 false (.t 20), none, [], true, []⟩]) (.cond (.t 21) (.seq (.reg false [
  ⟨some 22, .load 9 true (.t 4), none, [], true, []⟩,
  ⟨some 23, .bsl 9 1 [.c (.one (.v (.string ⟨#[115, 117, 98, 115, 99, 114, 105, 98, 101, 100]⟩)))], none, [], true, []⟩,
  ⟨some 24, .call 17 [.t 22, .t 23], none, [], true, []⟩,
  ⟨some 25, .fad 0 (.t 9), none, [], true, []⟩,
  ⟨none, .store 1 (.t 25) (.t 24), none, [], true, []⟩]) (.exit 0)) (.skip))) (.seq (.reg false [
  ⟨some 26, .fad 2 (.t 8), none, [], true, []⟩,
  ⟨none, .store 1 (.t 26) (.c (.one (.v (.bool true)))), none, [], true, []⟩]) (.reg false [
  ⟨some 27, .fad 0 (.t 4), none, [], true, []⟩,
  ⟨some 28, .load 1 false (.t 27), none, [], true, []⟩,
  ⟨some 29, .mv (.t 2), none, [], true, []⟩,
  ⟨some 30, .mv (.t 3), none, [], true, []⟩,
  ⟨some 31, .build [.v (.int .i64 0), .v (.string ⟨#[]⟩), .v (.string ⟨#[]⟩), .v (.string ⟨#[]⟩), .v (.bool false)] [(0, 1, .c (.one (.v (.int .i64 1)))), (1, 1, .t 28), (2, 1, .t 29), (3, 1, .t 30)], none, [], true, []⟩,
  ⟨some 32, .bsl 40 5 [.t 31], none, [], true, []⟩,
  ⟨some 33, .fad 2 (.t 9), none, [], true, []⟩,
  ⟨none, .store 1 (.t 33) (.t 32), none, [], true, []⟩]))) (.exit 0)))) (.seq (.seq (.seq (.reg false [
  ⟨some 34, .fad 1 (.t 4), none, [], true, []⟩,
  ⟨some 35, .load 1 false (.t 34), none, [], true, []⟩,
  ⟨some 36, .mv (.t 35), none, [], true, []⟩,
  ⟨some 37, .fad 3 (.t 4), some (36, false), [], true, []⟩,
  ⟨some 38, .load 1 false (.t 37), some (36, false), [], true, []⟩,
  ⟨some 39, .pick (.t 36) (.c (.one (.v (.bool true)))) (.t 38), none, [], true, []⟩,
  ⟨some 40, .mv (.t 39), none, [], true, []⟩,
  ⟨some 41, .fad 2 (.t 4), some (40, false), [], true, []⟩,
  ⟨some 42, .load 1 false (.t 41), some (40, false), [], true, []⟩,
  ⟨some 43, .pick (.t 40) (.c (.one (.v (.bool true)))) (.t 42), none, [], true, []⟩]) (.cond (.t 43) (.reg false [
  ⟨some 44, .load 9 true (.t 4), none, [], true, []⟩,
  ⟨some 45, .call 19 [.t 44], none, [], true, []⟩,
  ⟨some 46, .fad 2 (.t 9), none, [], true, []⟩,
  ⟨none, .store 1 (.t 46) (.t 45), none, [], true, []⟩]) (.skip))) (.seq (.reg false [
  ⟨some 47, .load 9 true (.t 4), none, [], true, []⟩,
  ⟨some 48, .call 21 [.t 47], none, [], true, []⟩,
  ⟨none, .store 9 (.t 8) (.t 48), none, [], true, []⟩]) (.reg false [
  ⟨some 49, .bsl 9 1 [.c (.one (.v (.string ⟨#[117, 110, 115, 117, 98, 115, 99, 114, 105, 98, 101, 100]⟩)))], none, [], true, []⟩,
  ⟨some 50, .fad 0 (.t 9), none, [], true, []⟩,
  ⟨none, .store 1 (.t 50) (.t 49), none, [], true, []⟩]))) (.exit 0)))) (.seq (.seq (.reg false [
  ⟨some 51, .fad 5 (.t 4), none, [], true, []⟩,
  ⟨some 52, .load 1 false (.t 51), none, [], true, []⟩,
  ⟨some 53, .un .not (.t 52), none, [], true, []⟩]) (.cond (.t 53) (.exit 0) (.skip))) (.reg false [
  ⟨some 54, .fad 4 (.t 8), none, [], true, []⟩,
  ⟨none, .store 1 (.t 54) (.c (.one (.v (.bool true)))), none, [], true, []⟩])))) (.seq (.seq (.seq (.reg false [
  ⟨some 55, .fad 5 (.t 4), none, [], true, []⟩,
  ⟨some 56, .load 1 false (.t 55), none, [], true, []⟩]) (.cond (.t 56) (.reg false [
  ⟨some 57, .load 9 true (.t 4), none, [], true, []⟩,
  ⟨some 58, .mv (.t 1), none, [], true, []⟩,
  ⟨some 59, .bin .eql (.t 58) (.c (.one (.v (.string ⟨#[115, 117, 98, 115, 99, 114, 105, 98, 101, 100]⟩)))), none, [], true, []⟩,
  ⟨some 60, .call 20 [.t 57, .t 59], none, [], true, []⟩,
  ⟨some 61, .fad 1 (.t 9), none, [], true, []⟩,
  ⟨none, .store 1 (.t 61) (.t 60), none, [], true, []⟩]) (.skip))) (.seq (.reg false [
  ⟨some 62, .fad 5 (.t 8), none, [], true, []⟩,
  ⟨none, .store 1 (.t 62) (.c (.one (.v (.bool false)))), none, [], true, []⟩]) (.reg false [
  ⟨some 63, .mv (.t 1), none, [], true, []⟩,
  ⟨some 64, .bin .eql (.t 63) (.c (.one (.v (.string ⟨#[115, 117, 98, 115, 99, 114, 105, 98, 101, 100]⟩)))), none, [], true, []⟩,
  ⟨some 65, .fad 4 (.t 8), none, [], true, []⟩,
  ⟨none, .store 1 (.t 65) (.t 64), none, [], true, []⟩]))) (.exit 0))))) (.seq (.reg true [
  ⟨some 66, .load 9 true (.t 8), none, [], false, []⟩,
  ⟨some 67, .load 3 true (.t 9), none, [], false, []⟩,
  ⟨none, .store 9 (.t 8) (.t 66), none, [0, 0], false, [1]⟩,
  ⟨none, .store 3 (.t 9) (.t 67), none, [1, 2, 0, 1, 2], true, []⟩]) (.ret)))), res := [.c 8 9 true, .c 9 3 true] }
theorem F8_ok : mtF Tryd.prog 8 F8 = true := by kernel_rfl
/- wharf/wharfref14.Same -/
def F9 : Fun := { n := 122, code := .seq (.reg false [
  ⟨some 2, .box 35 (.t 0), none, [], true, []⟩,
  ⟨some 3, .box 35 (.t 1), none, [], true, []⟩,
  ⟨some 4, .mv (.c (.one (.v (.bool false)))), none, [], true, []⟩]) (.seq (.seq (.reg false [
  ⟨some 7, .fad 0 (.t 2), none, [], true, []⟩,
  ⟨some 8, .load 1 false (.t 7), none, [], true, []⟩,
  ⟨some 9, .fad 0 (.t 3), none, [], true, []⟩,
  ⟨some 10, .load 1 false (.t 9), none, [], true, []⟩,
  ⟨some 11, .bin .neq (.t 8) (.t 10), none, [], true, []⟩,
  ⟨some 12, .mv (.t 11), none, [], true, []⟩,
  ⟨some 13, .fad 1 (.t 2), some (12, false), [], true, []⟩,
  ⟨some 14, .load 1 false (.t 13), some (12, false), [], true, []⟩,
  ⟨some 15, .fad 1 (.t 3), some (12, false), [], true, []⟩,
  ⟨some 16, .load 1 false (.t 15), some (12, false), [], true, []⟩,
  ⟨some 17, .bin .neq (.t 14) (.t 16), some (12, false), [], true, []⟩,
  ⟨some 18, .pick (.t 12) (.c (.one (.v (.bool true)))) (.t 17), none, [], true, []⟩,
  ⟨some 19, .mv (.t 18), none, [], true, []⟩,
  ⟨some 20, .fad 2 (.t 2), some (19, false), [], true, []⟩,
  ⟨some 21, .load 1 false (.t 20), some (19, false), [], true, []⟩,
  ⟨some 22, .fad 2 (.t 3), some (19, false), [], true, []⟩,
  ⟨some 23, .load 1 false (.t 22), some (19, false), [], true, []⟩,
  ⟨some 24, .bin .neq (.t 21) (.t 23), some (19, false), [], true, []⟩,
  ⟨some 25, .pick (.t 19) (.c (.one (.v (.bool true)))) (.t 24), none, [], true, []⟩,
  ⟨some 26, .mv (.t 25), none, [], true, []⟩,
  ⟨some 27, .fad 3 (.t 2), some (26, false), [], true, []⟩,
  ⟨some 28, .load 1 false (.t 27), some (26, false), [], true, []⟩,
  ⟨some 29, .fad 3 (.t 3), some (26, false), [], true, []⟩,
  ⟨some 30, .load 1 false (.t 29), some (26, false), [], true, []⟩,
  ⟨some 31, .bin .neq (.t 28) (.t 30), some (26, false), [], true, []⟩,
  ⟨some 32, .pick (.t 26) (.c (.one (.v (.bool true)))) (.t 31), none, [], true, []⟩,
  ⟨some 33, .mv (.t 32), none, [], true, []⟩,
  ⟨some 34, .fad 4 (.t 2), some (33, false), [], true, []⟩,
  ⟨some 35, .load 1 false (.t 34), some (33, false), [], true, []⟩,
  ⟨some 36, .fad 4 (.t 3), some (33, false), [], true, []⟩,
  ⟨some 37, .load 1 false (.t 36), some (33, false), [], true, []⟩,
  ⟨some 38, .bin .neq (.t 35) (.t 37), some (33, false), [], true, []⟩,
  ⟨some 39, .pick (.t 33) (.c (.one (.v (.bool true)))) (.t 38), none, [], true, []⟩,
  ⟨some 40, .mv (.t 39), none, [], true, []⟩,
  ⟨some 41, .fad 5 (.t 2), some (40, false), [], true, []⟩,
  ⟨some 42, .load 1 false (.t 41), some (40, false), [], true, []⟩,
  ⟨some 43, .fad 5 (.t 3), some (40, false), [], true, []⟩,
  ⟨some 44, .load 1 false (.t 43), some (40, false), [], true, []⟩,
  ⟨some 45, .bin .neq (.t 42) (.t 44), some (40, false), [], true, []⟩,
  ⟨some 46, .pick (.t 40) (.c (.one (.v (.bool true)))) (.t 45), none, [], true, []⟩,
  ⟨some 47, .mv (.t 46), none, [], true, []⟩,
  ⟨some 48, .fad 6 (.t 2), some (47, false), [], true, []⟩,
  ⟨some 49, .load 1 false (.t 48), some (47, false), [], true, []⟩,
  ⟨some 50, .fad 6 (.t 3), some (47, false), [], true, []⟩,
  ⟨some 51, .load 1 false (.t 50), some (47, false), [], true, []⟩,
  ⟨some 52, .bin .neq (.t 49) (.t 51), some (47, false), [], true, []⟩,
  ⟨some 53, .pick (.t 47) (.c (.one (.v (.bool true)))) (.t 52), none, [], true, []⟩,
  ⟨some 54, .mv (.t 53), none, [], true, []⟩,
  ⟨some 55, .fad 7 (.t 2), some (54, false), [], true, []⟩,
  ⟨some 56, .load 1 false (.t 55), some (54, false), [], true, []⟩,
  ⟨some 57, .fad 7 (.t 3), some (54, false), [], true, []⟩,
  ⟨some 58, .load 1 false (.t 57), some (54, false), [], true, []⟩,
  ⟨some 59, .bin .neq (.t 56) (.t 58), some (54, false), [], true, []⟩,
  ⟨some 60, .pick (.t 54) (.c (.one (.v (.bool true)))) (.t 59), none, [], true, []⟩,
  ⟨some 61, .mv (.t 60), none, [], true, []⟩,
  ⟨some 62, .fad 8 (.t 2), some (61, false), [], true, []⟩,
  ⟨some 63, .load 1 false (.t 62), some (61, false), [], true, []⟩,
  ⟨some 64, .fad 8 (.t 3), some (61, false), [], true, []⟩,
  ⟨some 65, .load 1 false (.t 64), some (61, false), [], true, []⟩,
  ⟨some 66, .eqb true (.t 63) (.t 65), some (61, false), [], true, []⟩,
  ⟨some 67, .pick (.t 61) (.c (.one (.v (.bool true)))) (.t 66), none, [], true, []⟩,
  ⟨some 68, .mv (.t 67), none, [], true, []⟩,
  ⟨some 69, .fad 9 (.t 2), some (68, false), [], true, []⟩,
  ⟨some 70, .load 1 false (.t 69), some (68, false), [], true, []⟩,
  ⟨some 71, .len false (.t 70), some (68, false), [], true, []⟩,
  ⟨some 72, .fad 9 (.t 3), some (68, false), [], true, []⟩,
  ⟨some 73, .load 1 false (.t 72), some (68, false), [], true, []⟩,
  ⟨some 74, .len false (.t 73), some (68, false), [], true, []⟩,
  ⟨some 75, .bin .neq (.t 71) (.t 74), some (68, false), [], true, []⟩,
  ⟨some 76, .pick (.t 68) (.c (.one (.v (.bool true)))) (.t 75), none, [], true, []⟩,
  ⟨some 77, .mv (.t 76), none, [], true, []⟩,
  ⟨some 78, .fad 10 (.t 2), some (77, false), [], true, []⟩,
  ⟨some 79, .load 1 false (.t 78), some (77, false), [], true, []⟩,
  ⟨some 80, .len false (.t 79), some (77, false), [], true, []⟩,
  ⟨some 81, .fad 10 (.t 3), some (77, false), [], true, []⟩,
  ⟨some 82, .load 1 false (.t 81), some (77, false), [], true, []⟩,
  ⟨some 83, .len false (.t 82), some (77, false), [], true, []⟩,
  ⟨some 84, .bin .neq (.t 80) (.t 83), some (77, false), [], true, []⟩,
  ⟨some 85, .pick (.t 77) (.c (.one (.v (.bool true)))) (.t 84), none, [], true, []⟩]) (.cond (.t 85) (.seq (.reg false [
  ⟨some 4, .mv (.c (.one (.v (.bool false)))), none, [], true, []⟩]) (.ret)) (.skip))) (.seq (.seq (.reg false [
  ⟨some 5, .mv (.c (.one (.v (.int .i64 0)))), none, [], true, []⟩]) (.block 0 (.loop (.seq (.seq (.reg false [
  ⟨some 86, .mv (.t 5), none, [], true, []⟩,
  ⟨some 87, .fad 9 (.t 2), none, [], true, []⟩,
  ⟨some 88, .load 1 false (.t 87), none, [], true, []⟩,
  ⟨some 89, .len false (.t 88), none, [], true, []⟩,
  ⟨some 90, .bin .lss (.t 86) (.t 89), none, [], true, []⟩]) (.cond (.t 90) (.skip) (.exit 0))) (.seq (.block 1 (.seq (.reg true [
  ⟨some 93, .fad 9 (.t 2), none, [], false, []⟩,
  ⟨some 94, .load 1 false (.t 93), none, [0], false, []⟩,
  ⟨some 95, .mv (.t 5), none, [], false, []⟩,
  ⟨some 96, .iad 6 (.t 94) (.t 95), none, [1, 2], false, []⟩,
  ⟨some 97, .load 6 true (.t 96), none, [3], false, []⟩,
  ⟨some 98, .fad 9 (.t 3), none, [], false, []⟩,
  ⟨some 99, .load 1 false (.t 98), none, [5], false, []⟩,
  ⟨some 100, .mv (.t 5), none, [], false, []⟩,
  ⟨some 101, .iad 6 (.t 99) (.t 100), none, [6, 7], false, []⟩,
  ⟨some 102, .load 6 true (.t 101), none, [8], false, []⟩,
  ⟨some 103, .eqs true [2, 1, 1, 1, 2, 0] (.t 97) (.t 102), none, [4, 9], false, []⟩]) (.cond (.t 103) (.seq (.reg false [
  ⟨some 4, .mv (.c (.one (.v (.bool false)))), none, [], true, []⟩]) (.ret)) (.skip)))) (.reg false [
  ⟨some 91, .mv (.t 5), none, [], true, []⟩,
  ⟨some 92, .bin .add (.t 91) (.c (.one (.v (.int .i64 1)))), none, [], true, []⟩,
  ⟨some 5, .mv (.t 92), none, [], true, []⟩])))))) (.seq (.seq (.reg false [
  ⟨some 6, .mv (.c (.one (.v (.int .i64 0)))), none, [], true, []⟩]) (.block 2 (.loop (.seq (.seq (.reg false [
  ⟨some 104, .mv (.t 6), none, [], true, []⟩,
  ⟨some 105, .fad 10 (.t 2), none, [], true, []⟩,
  ⟨some 106, .load 1 false (.t 105), none, [], true, []⟩,
  ⟨some 107, .len false (.t 106), none, [], true, []⟩,
  ⟨some 108, .bin .lss (.t 104) (.t 107), none, [], true, []⟩]) (.cond (.t 108) (.skip) (.exit 2))) (.seq (.block 3 (.seq (.reg true [
  ⟨some 111, .fad 10 (.t 2), none, [], false, []⟩,
  ⟨some 112, .load 1 false (.t 111), none, [0], false, []⟩,
  ⟨some 113, .mv (.t 6), none, [], false, []⟩,
  ⟨some 114, .iad 1 (.t 112) (.t 113), none, [1, 2], false, []⟩,
  ⟨some 115, .load 1 false (.t 114), none, [3], false, []⟩,
  ⟨some 116, .fad 10 (.t 3), none, [], false, []⟩,
  ⟨some 117, .load 1 false (.t 116), none, [5], false, []⟩,
  ⟨some 118, .mv (.t 6), none, [], false, []⟩,
  ⟨some 119, .iad 1 (.t 117) (.t 118), none, [6, 7], false, []⟩,
  ⟨some 120, .load 1 false (.t 119), none, [8], false, []⟩,
  ⟨some 121, .bin .neq (.t 115) (.t 120), none, [4, 9], false, []⟩]) (.cond (.t 121) (.seq (.reg false [
  ⟨some 4, .mv (.c (.one (.v (.bool false)))), none, [], true, []⟩]) (.ret)) (.skip)))) (.reg false [
  ⟨some 109, .mv (.t 6), none, [], true, []⟩,
  ⟨some 110, .bin .add (.t 109) (.c (.one (.v (.int .i64 1)))), none, [], true, []⟩,
  ⟨some 6, .mv (.t 110), none, [], true, []⟩])))))) (.seq (.reg false [
  ⟨some 4, .mv (.c (.one (.v (.bool true)))), none, [], true, []⟩]) (.ret))))), res := [.t 4] }
theorem F9_ok : mtF Tryd.prog 9 F9 = true := by kernel_rfl
/- wharf/subs.Dealt -/
def F10 : Fun := { n := 66, code := .seq (.reg false [
  ⟨some 2, .box 23 (.t 0), none, [], true, []⟩,
  ⟨some 3, .box 43 (.t 1), none, [], true, []⟩,
  ⟨some 4, .alloc 23 [.v (.string ⟨#[]⟩), .v (.bool false), .v (.bool false), .v (.bool false), .v (.bool false), .v (.bool false), .v (.bool false), .v (.int .i64 0), .v (.int .i64 0)], none, [], true, []⟩,
  ⟨some 5, .alloc 29 [.sl .full 1 [], .sl .full 11 [], .sl .full 5 []], none, [], true, []⟩]) (.seq (.seq (.reg false [
  ⟨some 10, .fad 0 (.t 3), none, [], true, []⟩,
  ⟨some 11, .load 5 true (.t 10), none, [], true, []⟩,
  ⟨some 6, .alloc 40 [.v (.int .i64 0), .v (.string ⟨#[]⟩), .v (.string ⟨#[]⟩), .v (.string ⟨#[]⟩), .v (.bool false)], none, [], true, []⟩,
  ⟨none, .store 5 (.t 6) (.t 11), none, [], true, []⟩]) (.block 0 (.seq (.reg false [
  ⟨some 13, .fad 0 (.t 6), none, [], true, []⟩,
  ⟨some 14, .load 1 false (.t 13), none, [], true, []⟩,
  ⟨some 15, .bin .neq (.t 14) (.c (.one (.v (.int .i64 1)))), none, [], true, []⟩,
  ⟨some 16, .mv (.t 15), none, [], true, []⟩,
  ⟨some 17, .fad 2 (.t 2), some (16, false), [], true, []⟩,
  ⟨some 18, .load 1 false (.t 17), some (16, false), [], true, []⟩,
  ⟨some 19, .un .not (.t 18), some (16, false), [], true, []⟩,
  ⟨some 20, .pick (.t 16) (.c (.one (.v (.bool true)))) (.t 19), none, [], true, []⟩,
  ⟨some 21, .mv (.t 20), none, [], true, []⟩,
  ⟨some 22, .fad 0 (.t 2), some (21, false), [], true, []⟩,
  ⟨some 23, .load 1 false (.t 22), some (21, false), [], true, []⟩,
  ⟨some 24, .fad 1 (.t 6), some (21, false), [], true, []⟩,
  ⟨some 25, .load 1 false (.t 24), some (21, false), [], true, []⟩,
  ⟨some 26, .call 16 [.t 23, .t 25], some (21, false), [], true, []⟩,
  ⟨some 27, .un .not (.t 26), some (21, false), [], true, []⟩,
  ⟨some 28, .pick (.t 21) (.c (.one (.v (.bool true)))) (.t 27), none, [], true, []⟩,
  ⟨some 12, .mv (.t 28), none, [], true, []⟩]) (.cond (.t 12) (.seq (.reg false [
  ⟨some 29, .load 9 true (.t 2), none, [], true, []⟩,
  ⟨some 30, .build [.sl .full 1 [], .sl .full 11 [], .sl .full 5 []] [], none, [], true, []⟩,
  ⟨none, .store 9 (.t 4) (.t 29), none, [], true, []⟩,
  ⟨none, .store 3 (.t 5) (.t 30), none, [], true, []⟩]) (.ret)) (.seq (.reg false [
  ⟨some 32, .fad 5 (.t 3), none, [], true, []⟩,
  ⟨some 33, .load 1 false (.t 32), none, [], true, []⟩,
  ⟨some 34, .bin .eql (.t 33) (.c (.one (.v (.int .i64 14)))), none, [], true, []⟩,
  ⟨some 35, .mv (.t 34), none, [], true, []⟩,
  ⟨some 36, .fad 5 (.t 3), some (35, false), [], true, []⟩,
  ⟨some 37, .load 1 false (.t 36), some (35, false), [], true, []⟩,
  ⟨some 38, .bin .eql (.t 37) (.c (.one (.v (.int .i64 0)))), some (35, false), [], true, []⟩,
  ⟨some 39, .mv (.t 38), some (35, false), [], true, []⟩,
  ⟨some 40, .fad 4 (.t 6), some (39, true), [], true, []⟩,
  ⟨some 41, .load 1 false (.t 40), some (39, true), [], true, []⟩,
  ⟨some 42, .pick (.t 39) (.t 41) (.c (.one (.v (.bool false)))), some (35, false), [], true, []⟩,
  ⟨some 43, .pick (.t 35) (.c (.one (.v (.bool true)))) (.t 42), none, [], true, []⟩,
  ⟨some 31, .mv (.t 43), none, [], true, []⟩]) (.cond (.t 31) (.seq (.reg false [
  ⟨some 44, .fad 3 (.t 2), none, [], true, []⟩,
  ⟨none, .store 1 (.t 44) (.c (.one (.v (.bool true)))), none, [], true, []⟩]) (.seq (.reg false [
  ⟨some 45, .load 9 true (.t 2), none, [], true, []⟩,
  ⟨some 46, .build [.sl .full 1 [], .sl .full 11 [], .sl .full 5 []] [], none, [], true, []⟩,
  ⟨none, .store 9 (.t 4) (.t 45), none, [], true, []⟩,
  ⟨none, .store 3 (.t 5) (.t 46), none, [], true, []⟩]) (.ret))) (.seq (.reg false [
  ⟨some 48, .fad 5 (.t 3), none, [], true, []⟩,
  ⟨some 49, .load 1 false (.t 48), none, [], true, []⟩,
  ⟨some 50, .bin .neq (.t 49) (.c (.one (.v (.int .i64 0)))), none, [], true, []⟩,
  ⟨some 47, .mv (.t 50), none, [], true, []⟩]) (.cond (.t 47) (.seq (.reg false [
  ⟨some 51, .fad 2 (.t 2), none, [], true, []⟩,
  ⟨none, .store 1 (.t 51) (.c (.one (.v (.bool false)))), none, [], true, []⟩]) (.seq (.reg false [
  ⟨some 52, .load 9 true (.t 2), none, [], true, []⟩,
  ⟨some 53, .bsl 9 1 [.c (.one (.v (.string ⟨#[117, 110, 115, 117, 98, 115, 99, 114, 105, 98, 101, 100]⟩)))], none, [], true, []⟩,
  ⟨some 54, .build [.sl .full 1 [], .sl .full 11 [], .sl .full 5 []] [(0, 1, .t 53)], none, [], true, []⟩,
  ⟨none, .store 9 (.t 4) (.t 52), none, [], true, []⟩,
  ⟨none, .store 3 (.t 5) (.t 54), none, [], true, []⟩]) (.ret))) (.skip))))))))) (.seq (.reg false [
  ⟨some 55, .fad 3 (.t 2), none, [], true, []⟩,
  ⟨some 56, .load 1 false (.t 55), none, [], true, []⟩,
  ⟨some 7, .mv (.t 56), none, [], true, []⟩]) (.seq (.reg false [
  ⟨some 58, .load 9 true (.t 2), none, [], true, []⟩,
  ⟨some 59, .call 18 [.t 58], none, [], true, []⟩,
  ⟨some 57, .mv (.t 59), none, [], true, []⟩,
  ⟨some 60, .ext (.t 57) 0, none, [], true, []⟩,
  ⟨some 61, .ext (.t 57) 1, none, [], true, []⟩,
  ⟨some 8, .alloc 23 [.v (.string ⟨#[]⟩), .v (.bool false), .v (.bool false), .v (.bool false), .v (.bool false), .v (.bool false), .v (.bool false), .v (.int .i64 0), .v (.int .i64 0)], none, [], true, []⟩,
  ⟨some 9, .alloc 29 [.sl .full 1 [], .sl .full 11 [], .sl .full 5 []], none, [], true, []⟩,
  ⟨none, .store 9 (.t 8) (.t 60), none, [], true, []⟩,
  ⟨none, .store 3 (.t 9) (.t 61), none, [], true, []⟩]) (.seq (.reg false [
  ⟨some 62, .mv (.t 7), none, [], true, []⟩,
  ⟨some 63, .fad 3 (.t 8), none, [], true, []⟩,
  ⟨none, .store 1 (.t 63) (.t 62), none, [], true, []⟩]) (.seq (.reg true [
  ⟨some 64, .load 9 true (.t 8), none, [], false, []⟩,
  ⟨some 65, .load 3 true (.t 9), none, [], false, []⟩,
  ⟨none, .store 9 (.t 4) (.t 64), none, [0, 0], false, [1]⟩,
  ⟨none, .store 3 (.t 5) (.t 65), none, [1, 2, 0, 1, 2], true, []⟩]) (.ret)))))), res := [.c 4 9 true, .c 5 3 true] }
theorem F10_ok : mtF Tryd.prog 10 F10 = true := by kernel_rfl
/- wharf/subs.Row -/
def F11 : Fun := { n := 16, code := .seq (.reg false [
  ⟨some 1, .box 23 (.t 0), none, [], true, []⟩,
  ⟨some 2, .mv (.c (.one (.v (.string ⟨#[]⟩)))), none, [], true, []⟩]) (.seq (.block 0 (.seq (.reg false [
  ⟨some 4, .fad 1 (.t 1), none, [], true, []⟩,
  ⟨some 5, .load 1 false (.t 4), none, [], true, []⟩,
  ⟨some 6, .mv (.t 5), none, [], true, []⟩,
  ⟨some 7, .fad 4 (.t 1), some (6, true), [], true, []⟩,
  ⟨some 8, .load 1 false (.t 7), some (6, true), [], true, []⟩,
  ⟨some 9, .pick (.t 6) (.t 8) (.c (.one (.v (.bool false)))), none, [], true, []⟩,
  ⟨some 3, .mv (.t 9), none, [], true, []⟩]) (.cond (.t 3) (.seq (.reg false [
  ⟨some 2, .mv (.c (.one (.v (.string ⟨#[98, 111, 116, 104]⟩)))), none, [], true, []⟩]) (.ret)) (.seq (.reg false [
  ⟨some 11, .fad 1 (.t 1), none, [], true, []⟩,
  ⟨some 12, .load 1 false (.t 11), none, [], true, []⟩,
  ⟨some 10, .mv (.t 12), none, [], true, []⟩]) (.cond (.t 10) (.seq (.reg false [
  ⟨some 2, .mv (.c (.one (.v (.string ⟨#[116, 111]⟩)))), none, [], true, []⟩]) (.ret)) (.seq (.reg false [
  ⟨some 14, .fad 4 (.t 1), none, [], true, []⟩,
  ⟨some 15, .load 1 false (.t 14), none, [], true, []⟩,
  ⟨some 13, .mv (.t 15), none, [], true, []⟩]) (.cond (.t 13) (.seq (.reg false [
  ⟨some 2, .mv (.c (.one (.v (.string ⟨#[102, 114, 111, 109]⟩)))), none, [], true, []⟩]) (.ret)) (.skip)))))))) (.seq (.reg false [
  ⟨some 2, .mv (.c (.one (.v (.string ⟨#[110, 111, 110, 101]⟩)))), none, [], true, []⟩]) (.ret))), res := [.t 2] }
theorem F11_ok : mtF Tryd.prog 11 F11 = true := by kernel_rfl
/- wharf/subs.Gone -/
def F12 : Fun := { n := 18, code := .seq (.reg false [
  ⟨some 1, .box 23 (.t 0), none, [], true, []⟩,
  ⟨some 2, .alloc 23 [.v (.string ⟨#[]⟩), .v (.bool false), .v (.bool false), .v (.bool false), .v (.bool false), .v (.bool false), .v (.bool false), .v (.int .i64 0), .v (.int .i64 0)], none, [], true, []⟩,
  ⟨some 3, .alloc 29 [.sl .full 1 [], .sl .full 11 [], .sl .full 5 []], none, [], true, []⟩]) (.seq (.seq (.reg false [
  ⟨some 4, .fad 1 (.t 1), none, [], true, []⟩,
  ⟨some 5, .load 1 false (.t 4), none, [], true, []⟩,
  ⟨some 6, .un .not (.t 5), none, [], true, []⟩,
  ⟨some 7, .mv (.t 6), none, [], true, []⟩,
  ⟨some 8, .fad 3 (.t 1), some (7, true), [], true, []⟩,
  ⟨some 9, .load 1 false (.t 8), some (7, true), [], true, []⟩,
  ⟨some 10, .un .not (.t 9), some (7, true), [], true, []⟩,
  ⟨some 11, .pick (.t 7) (.t 10) (.c (.one (.v (.bool false)))), none, [], true, []⟩]) (.cond (.t 11) (.seq (.reg false [
  ⟨some 12, .load 9 true (.t 1), none, [], true, []⟩,
  ⟨some 13, .build [.sl .full 1 [], .sl .full 11 [], .sl .full 5 []] [], none, [], true, []⟩,
  ⟨none, .store 9 (.t 2) (.t 12), none, [], true, []⟩,
  ⟨none, .store 3 (.t 3) (.t 13), none, [], true, []⟩]) (.ret)) (.skip))) (.seq (.reg false [
  ⟨some 14, .load 9 true (.t 1), none, [], true, []⟩,
  ⟨some 15, .call 21 [.t 14], none, [], true, []⟩,
  ⟨some 16, .bsl 9 1 [.c (.one (.v (.string ⟨#[117, 110, 115, 117, 98, 115, 99, 114, 105, 98, 101, 100]⟩)))], none, [], true, []⟩,
  ⟨some 17, .build [.sl .full 1 [], .sl .full 11 [], .sl .full 5 []] [(0, 1, .t 16)], none, [], true, []⟩,
  ⟨none, .store 9 (.t 2) (.t 15), none, [], true, []⟩,
  ⟨none, .store 3 (.t 3) (.t 17), none, [], true, []⟩]) (.ret))), res := [.c 2 9 true, .c 3 3 true] }
theorem F12_ok : mtF Tryd.prog 12 F12 = true := by kernel_rfl
/- wharf/wharflaw23.small -/
def F13 : Fun := { n := 65, code := .seq (.reg false [
  ⟨some 2, .box 23 (.t 0), none, [], true, []⟩,
  ⟨some 4, .mv (.c (.one (.v (.bool false)))), none, [], true, []⟩]) (.seq (.reg false [
  ⟨some 8, .fad 0 (.t 2), none, [], true, []⟩,
  ⟨some 9, .load 1 false (.t 8), none, [], true, []⟩,
  ⟨some 10, .len true (.t 9), none, [], true, []⟩,
  ⟨some 5, .mv (.t 10), none, [], true, []⟩]) (.seq (.seq (.reg false [
  ⟨some 6, .mv (.c (.one (.v (.int .i64 0)))), none, [], true, []⟩]) (.block 0 (.loop (.seq (.seq (.reg false [
  ⟨some 11, .mv (.t 6), none, [], true, []⟩,
  ⟨some 12, .mv (.t 1), none, [], true, []⟩,
  ⟨some 13, .len false (.t 12), none, [], true, []⟩,
  ⟨some 14, .bin .lss (.t 11) (.t 13), none, [], true, []⟩,
  ⟨some 15, .mv (.t 14), none, [], true, []⟩,
  ⟨some 16, .mv (.t 6), some (15, true), [], true, []⟩,
  ⟨some 17, .bin .leq (.t 16) (.c (.one (.v (.int .i64 60)))), some (15, true), [], true, []⟩,
  ⟨some 18, .pick (.t 15) (.t 17) (.c (.one (.v (.bool false)))), none, [], true, []⟩,
  ⟨some 19, .mv (.t 18), none, [], true, []⟩,
  ⟨some 20, .mv (.t 5), some (19, true), [], true, []⟩,
  ⟨some 21, .bin .leq (.t 20) (.c (.one (.v (.int .i64 8000)))), some (19, true), [], true, []⟩,
  ⟨some 22, .pick (.t 19) (.t 21) (.c (.one (.v (.bool false)))), none, [], true, []⟩]) (.cond (.t 22) (.skip) (.exit 0))) (.seq (.block 1 (.seq (.reg false [
  ⟨some 25, .mv (.t 1), none, [], true, []⟩,
  ⟨some 26, .mv (.t 6), none, [], true, []⟩,
  ⟨some 27, .iad 27 (.t 25) (.t 26), none, [], true, []⟩,
  ⟨some 28, .load 27 true (.t 27), none, [], true, []⟩,
  ⟨some 7, .alloc 53 [.v (.int .i64 0), .v (.string ⟨#[]⟩), .v (.string ⟨#[]⟩), .v (.string ⟨#[]⟩), .v (.int .i64 0), .v (.string ⟨#[]⟩), .v (.string ⟨#[]⟩), .v (.string ⟨#[]⟩), .v (.int .i64 0), .v (.int .i64 0), .v (.int .i64 0), .v (.int .i64 0), .v (.bool false), .sl .full 6 [], .sl .full 1 [], .v (.int .i64 0), .v (.string ⟨#[]⟩), .v (.string ⟨#[]⟩), .v (.string ⟨#[]⟩), .v (.bool false), .v (.int .i64 0), .v (.string ⟨#[]⟩), .v (.int .i64 0), .v (.int .i64 0), .v (.int .i64 0), .v (.string ⟨#[]⟩), .v (.bool false)], none, [], true, []⟩,
  ⟨none, .store 27 (.t 7) (.t 28), none, [], true, []⟩]) (.reg false [
  ⟨some 29, .mv (.t 5), none, [], true, []⟩,
  ⟨some 30, .fad 1 (.t 7), none, [], true, []⟩,
  ⟨some 31, .load 1 false (.t 30), none, [], true, []⟩,
  ⟨some 32, .len true (.t 31), none, [], true, []⟩,
  ⟨some 33, .bin .add (.t 29) (.t 32), none, [], true, []⟩,
  ⟨some 34, .fad 2 (.t 7), none, [], true, []⟩,
  ⟨some 35, .load 1 false (.t 34), none, [], true, []⟩,
  ⟨some 36, .len true (.t 35), none, [], true, []⟩,
  ⟨some 37, .bin .add (.t 33) (.t 36), none, [], true, []⟩,
  ⟨some 38, .fad 3 (.t 7), none, [], true, []⟩,
  ⟨some 39, .load 1 false (.t 38), none, [], true, []⟩,
  ⟨some 40, .len true (.t 39), none, [], true, []⟩,
  ⟨some 41, .bin .add (.t 37) (.t 40), none, [], true, []⟩,
  ⟨some 42, .fad 4 (.t 7), none, [], true, []⟩,
  ⟨some 43, .fad 1 (.t 42), none, [], true, []⟩,
  ⟨some 44, .load 1 false (.t 43), none, [], true, []⟩,
  ⟨some 45, .len true (.t 44), none, [], true, []⟩,
  ⟨some 46, .bin .add (.t 41) (.t 45), none, [], true, []⟩,
  ⟨some 47, .fad 15 (.t 7), none, [], true, []⟩,
  ⟨some 48, .fad 0 (.t 47), none, [], true, []⟩,
  ⟨some 49, .fad 1 (.t 48), none, [], true, []⟩,
  ⟨some 50, .load 1 false (.t 49), none, [], true, []⟩,
  ⟨some 51, .len true (.t 50), none, [], true, []⟩,
  ⟨some 52, .bin .add (.t 46) (.t 51), none, [], true, []⟩,
  ⟨some 53, .fad 21 (.t 7), none, [], true, []⟩,
  ⟨some 54, .fad 0 (.t 53), none, [], true, []⟩,
  ⟨some 55, .load 1 false (.t 54), none, [], true, []⟩,
  ⟨some 56, .len true (.t 55), none, [], true, []⟩,
  ⟨some 57, .bin .add (.t 52) (.t 56), none, [], true, []⟩,
  ⟨some 5, .mv (.t 57), none, [], true, []⟩]))) (.reg false [
  ⟨some 23, .mv (.t 6), none, [], true, []⟩,
  ⟨some 24, .bin .add (.t 23) (.c (.one (.v (.int .i64 1)))), none, [], true, []⟩,
  ⟨some 6, .mv (.t 24), none, [], true, []⟩])))))) (.seq (.reg false [
  ⟨some 58, .mv (.t 1), none, [], true, []⟩,
  ⟨some 59, .len false (.t 58), none, [], true, []⟩,
  ⟨some 60, .bin .leq (.t 59) (.c (.one (.v (.int .i64 60)))), none, [], true, []⟩,
  ⟨some 61, .mv (.t 60), none, [], true, []⟩,
  ⟨some 62, .mv (.t 5), some (61, true), [], true, []⟩,
  ⟨some 63, .bin .leq (.t 62) (.c (.one (.v (.int .i64 8000)))), some (61, true), [], true, []⟩,
  ⟨some 64, .pick (.t 61) (.t 63) (.c (.one (.v (.bool false)))), none, [], true, []⟩,
  ⟨some 4, .mv (.t 64), none, [], true, []⟩]) (.ret)))), res := [.t 4] }
theorem F13_ok : mtF Tryd.prog 13 F13 = true := by kernel_rfl
/- wharf/wharflaw23.does -/
def F14 : Fun := { n := 48, code := .seq (.reg false [
  ⟨some 2, .box 23 (.t 0), none, [], true, []⟩,
  ⟨some 3, .box 53 (.t 1), none, [], true, []⟩,
  ⟨some 4, .alloc 23 [.v (.string ⟨#[]⟩), .v (.bool false), .v (.bool false), .v (.bool false), .v (.bool false), .v (.bool false), .v (.bool false), .v (.int .i64 0), .v (.int .i64 0)], none, [], true, []⟩,
  ⟨some 5, .alloc 29 [.sl .full 1 [], .sl .full 11 [], .sl .full 5 []], none, [], true, []⟩]) (.seq (.seq (.reg false [
  ⟨some 6, .fad 0 (.t 3), none, [], true, []⟩,
  ⟨some 7, .load 1 false (.t 6), none, [], true, []⟩]) (.block 0 (.seq (.reg false [
  ⟨some 9, .bin .eql (.t 7) (.c (.one (.v (.int .i64 0)))), none, [], true, []⟩,
  ⟨some 8, .mv (.t 9), none, [], true, []⟩]) (.cond (.t 8) (.seq (.reg false [
  ⟨some 10, .load 9 true (.t 2), none, [], true, []⟩,
  ⟨some 11, .fad 1 (.t 3), none, [], true, []⟩,
  ⟨some 12, .load 1 false (.t 11), none, [], true, []⟩,
  ⟨some 13, .fad 2 (.t 3), none, [], true, []⟩,
  ⟨some 14, .load 1 false (.t 13), none, [], true, []⟩,
  ⟨some 15, .fad 3 (.t 3), none, [], true, []⟩,
  ⟨some 16, .load 1 false (.t 15), none, [], true, []⟩,
  ⟨some 17, .call 8 [.t 10, .t 12, .t 14, .t 16], none, [], true, []⟩,
  ⟨some 18, .ext (.t 17) 0, none, [], true, []⟩,
  ⟨some 19, .ext (.t 17) 1, none, [], true, []⟩,
  ⟨none, .store 9 (.t 4) (.t 18), none, [], true, []⟩,
  ⟨none, .store 3 (.t 5) (.t 19), none, [], true, []⟩]) (.ret)) (.seq (.reg false [
  ⟨some 21, .bin .eql (.t 7) (.c (.one (.v (.int .i64 1)))), none, [], true, []⟩,
  ⟨some 20, .mv (.t 21), none, [], true, []⟩]) (.cond (.t 20) (.seq (.reg false [
  ⟨some 22, .load 9 true (.t 2), none, [], true, []⟩,
  ⟨some 23, .fad 4 (.t 3), none, [], true, []⟩,
  ⟨some 24, .load 11 true (.t 23), none, [], true, []⟩,
  ⟨some 25, .call 7 [.t 22, .t 24], none, [], true, []⟩,
  ⟨some 26, .ext (.t 25) 0, none, [], true, []⟩,
  ⟨some 27, .ext (.t 25) 1, none, [], true, []⟩,
  ⟨none, .store 9 (.t 4) (.t 26), none, [], true, []⟩,
  ⟨none, .store 3 (.t 5) (.t 27), none, [], true, []⟩]) (.ret)) (.seq (.reg false [
  ⟨some 29, .bin .eql (.t 7) (.c (.one (.v (.int .i64 2)))), none, [], true, []⟩,
  ⟨some 28, .mv (.t 29), none, [], true, []⟩]) (.cond (.t 28) (.seq (.reg false [
  ⟨some 30, .load 9 true (.t 2), none, [], true, []⟩,
  ⟨some 31, .fad 15 (.t 3), none, [], true, []⟩,
  ⟨some 32, .load 6 true (.t 31), none, [], true, []⟩,
  ⟨some 33, .call 10 [.t 30, .t 32], none, [], true, []⟩,
  ⟨some 34, .ext (.t 33) 0, none, [], true, []⟩,
  ⟨some 35, .ext (.t 33) 1, none, [], true, []⟩,
  ⟨none, .store 9 (.t 4) (.t 34), none, [], true, []⟩,
  ⟨none, .store 3 (.t 5) (.t 35), none, [], true, []⟩]) (.ret)) (.seq (.reg false [
  ⟨some 37, .bin .eql (.t 7) (.c (.one (.v (.int .i64 3)))), none, [], true, []⟩,
  ⟨some 36, .mv (.t 37), none, [], true, []⟩]) (.cond (.t 36) (.seq (.reg false [
  ⟨some 38, .load 9 true (.t 2), none, [], true, []⟩,
  ⟨some 39, .fad 21 (.t 3), none, [], true, []⟩,
  ⟨some 40, .load 6 true (.t 39), none, [], true, []⟩,
  ⟨some 41, .call 22 [.t 38, .t 40], none, [], true, []⟩,
  ⟨some 42, .ext (.t 41) 0, none, [], true, []⟩,
  ⟨some 43, .ext (.t 41) 1, none, [], true, []⟩,
  ⟨none, .store 9 (.t 4) (.t 42), none, [], true, []⟩,
  ⟨none, .store 3 (.t 5) (.t 43), none, [], true, []⟩]) (.ret)) (.skip))))))))))) (.seq (.reg false [
  ⟨some 44, .load 9 true (.t 2), none, [], true, []⟩,
  ⟨some 45, .call 12 [.t 44], none, [], true, []⟩,
  ⟨some 46, .ext (.t 45) 0, none, [], true, []⟩,
  ⟨some 47, .ext (.t 45) 1, none, [], true, []⟩,
  ⟨none, .store 9 (.t 4) (.t 46), none, [], true, []⟩,
  ⟨none, .store 3 (.t 5) (.t 47), none, [], true, []⟩]) (.ret))), res := [.c 4 9 true, .c 5 3 true] }
theorem F14_ok : mtF Tryd.prog 14 F14 = true := by kernel_rfl
/- wharf/subs.Idle -/
def F15 : Fun := { n := 9, code := .seq (.reg false [
  ⟨some 1, .box 23 (.t 0), none, [], true, []⟩,
  ⟨some 2, .mv (.c (.one (.v (.bool false)))), none, [], true, []⟩]) (.seq (.reg false [
  ⟨some 3, .fad 0 (.t 1), none, [], true, []⟩,
  ⟨none, .store 1 (.t 3) (.c (.one (.v (.string ⟨#[]⟩)))), none, [], true, []⟩,
  ⟨some 4, .fad 7 (.t 1), none, [], true, []⟩,
  ⟨none, .store 1 (.t 4) (.c (.one (.v (.int .i64 0)))), none, [], true, []⟩,
  ⟨some 5, .fad 8 (.t 1), none, [], true, []⟩,
  ⟨none, .store 1 (.t 5) (.c (.one (.v (.int .i64 0)))), none, [], true, []⟩]) (.seq (.reg false [
  ⟨some 6, .load 9 true (.t 1), none, [], true, []⟩,
  ⟨some 7, .build [.v (.string ⟨#[]⟩), .v (.bool false), .v (.bool false), .v (.bool false), .v (.bool false), .v (.bool false), .v (.bool false), .v (.int .i64 0), .v (.int .i64 0)] [], none, [], true, []⟩,
  ⟨some 8, .eqs false [2, 0, 0, 0, 0, 0, 0, 1, 1] (.t 6) (.t 7), none, [], true, []⟩,
  ⟨some 2, .mv (.t 8), none, [], true, []⟩]) (.ret))), res := [.t 2] }
theorem F15_ok : mtF Tryd.prog 15 F15 = true := by kernel_rfl
/- wharf/handle.Same -/
def F16 : Fun := { n := 10, code := .seq (.reg false [
  ⟨some 4, .mv (.c (.one (.v (.bool false)))), none, [], true, []⟩]) (.seq (.reg false [
  ⟨some 5, .mv (.t 0), none, [], true, []⟩,
  ⟨some 6, .call 23 [.t 5], none, [], true, []⟩,
  ⟨some 7, .mv (.t 1), none, [], true, []⟩,
  ⟨some 8, .call 23 [.t 7], none, [], true, []⟩,
  ⟨some 9, .bin .eql (.t 6) (.t 8), none, [], true, []⟩,
  ⟨some 4, .mv (.t 9), none, [], true, []⟩]) (.ret)), res := [.t 4] }
theorem F16_ok : mtF Tryd.prog 16 F16 = true := by kernel_rfl
/- wharf/subs.shown -/
def F17 : Fun := { n := 15, code := .seq (.reg false [
  ⟨some 2, .box 23 (.t 0), none, [], true, []⟩,
  ⟨some 4, .mv (.c (.one (.sl .full 1 []))), none, [], true, []⟩]) (.seq (.seq (.reg false [
  ⟨some 5, .fad 1 (.t 2), none, [], true, []⟩,
  ⟨some 6, .load 1 false (.t 5), none, [], true, []⟩,
  ⟨some 7, .mv (.t 6), none, [], true, []⟩,
  ⟨some 8, .fad 6 (.t 2), some (7, true), [], true, []⟩,
  ⟨some 9, .load 1 false (.t 8), some (7, true), [], true, []⟩,
  ⟨some 10, .pick (.t 7) (.t 9) (.c (.one (.v (.bool false)))), none, [], true, []⟩]) (.cond (.t 10) (.reg false [
  ⟨some 11, .mv (.t 1), none, [], true, []⟩,
  ⟨some 12, .bsl 9 1 [.c (.one (.v (.string ⟨#[]⟩)))], none, [], true, []⟩,
  ⟨some 13, .app 9 1 16 (.t 11) (.t 12), none, [], true, []⟩,
  ⟨some 1, .mv (.t 13), none, [], true, []⟩]) (.skip))) (.seq (.reg false [
  ⟨some 14, .mv (.t 1), none, [], true, []⟩,
  ⟨some 4, .mv (.t 14), none, [], true, []⟩]) (.ret))), res := [.t 4] }
theorem F17_ok : mtF Tryd.prog 17 F17 = true := by kernel_rfl
/- wharf/subs.seen -/
def F18 : Fun := { n := 12, code := .seq (.reg false [
  ⟨some 1, .box 23 (.t 0), none, [], true, []⟩,
  ⟨some 2, .alloc 23 [.v (.string ⟨#[]⟩), .v (.bool false), .v (.bool false), .v (.bool false), .v (.bool false), .v (.bool false), .v (.bool false), .v (.int .i64 0), .v (.int .i64 0)], none, [], true, []⟩,
  ⟨some 3, .alloc 29 [.sl .full 1 [], .sl .full 11 [], .sl .full 5 []], none, [], true, []⟩]) (.seq (.reg false [
  ⟨some 4, .fad 1 (.t 1), none, [], true, []⟩,
  ⟨none, .store 1 (.t 4) (.c (.one (.v (.bool true)))), none, [], true, []⟩,
  ⟨some 5, .fad 2 (.t 1), none, [], true, []⟩,
  ⟨none, .store 1 (.t 5) (.c (.one (.v (.bool false)))), none, [], true, []⟩,
  ⟨some 6, .fad 3 (.t 1), none, [], true, []⟩,
  ⟨none, .store 1 (.t 6) (.c (.one (.v (.bool false)))), none, [], true, []⟩]) (.seq (.reg true [
  ⟨some 7, .load 9 true (.t 1), none, [], false, []⟩,
  ⟨some 8, .load 9 true (.t 1), none, [], false, []⟩,
  ⟨some 9, .bsl 9 1 [.c (.one (.v (.string ⟨#[115, 117, 98, 115, 99, 114, 105, 98, 101, 100]⟩)))], none, [], false, []⟩,
  ⟨some 10, .call 17 [.t 8, .t 9], none, [1, 2], false, []⟩,
  ⟨some 11, .build [.sl .full 1 [], .sl .full 11 [], .sl .full 5 []] [(0, 1, .t 10)], none, [3], false, []⟩,
  ⟨none, .store 9 (.t 2) (.t 7), none, [0, 3, 0], true, []⟩,
  ⟨none, .store 3 (.t 3) (.t 11), none, [4, 5, 0, 1, 2, 3, 4, 5], true, []⟩]) (.ret))), res := [.c 2 9 true, .c 3 3 true] }
theorem F18_ok : mtF Tryd.prog 18 F18 = true := by kernel_rfl
/- wharf/subs.dropped -/
def F19 : Fun := { n := 7, code := .seq (.reg false [
  ⟨some 1, .box 23 (.t 0), none, [], true, []⟩,
  ⟨some 2, .mv (.c (.one (.sl .full 5 []))), none, [], true, []⟩]) (.seq (.reg false [
  ⟨some 3, .fad 0 (.t 1), none, [], true, []⟩,
  ⟨some 4, .load 1 false (.t 3), none, [], true, []⟩,
  ⟨some 5, .build [.v (.int .i64 0), .v (.string ⟨#[]⟩), .v (.string ⟨#[]⟩), .v (.string ⟨#[]⟩), .v (.bool false)] [(0, 1, .c (.one (.v (.int .i64 2)))), (1, 1, .t 4)], none, [], true, []⟩,
  ⟨some 6, .bsl 40 5 [.t 5], none, [], true, []⟩,
  ⟨some 2, .mv (.t 6), none, [], true, []⟩]) (.ret)), res := [.t 2] }
theorem F19_ok : mtF Tryd.prog 19 F19 = true := by kernel_rfl
/- wharf/subs.granted -/
def F20 : Fun := { n := 10, code := .seq (.reg false [
  ⟨some 2, .box 23 (.t 0), none, [], true, []⟩,
  ⟨some 4, .mv (.c (.one (.sl .full 11 []))), none, [], true, []⟩]) (.seq (.reg false [
  ⟨some 5, .fad 0 (.t 2), none, [], true, []⟩,
  ⟨some 6, .load 1 false (.t 5), none, [], true, []⟩,
  ⟨some 7, .mv (.t 1), none, [], true, []⟩,
  ⟨some 8, .build [.v (.int .i64 0), .v (.string ⟨#[]⟩), .v (.string ⟨#[]⟩), .v (.string ⟨#[]⟩), .v (.int .i64 0), .v (.int .i64 0), .v (.int .i64 0), .v (.int .i64 0), .v (.bool false), .sl .full 6 [], .sl .full 1 []] [(0, 1, .c (.one (.v (.int .i64 28)))), (1, 1, .t 6), (8, 1, .t 7)], none, [], true, []⟩,
  ⟨some 9, .bsl 35 11 [.t 8], none, [], true, []⟩,
  ⟨some 4, .mv (.t 9), none, [], true, []⟩]) (.ret)), res := [.t 4] }
theorem F20_ok : mtF Tryd.prog 20 F20 = true := by kernel_rfl
/- wharf/subs.unseen -/
def F21 : Fun := { n := 7, code := .seq (.reg false [
  ⟨some 1, .box 23 (.t 0), none, [], true, []⟩,
  ⟨some 2, .alloc 23 [.v (.string ⟨#[]⟩), .v (.bool false), .v (.bool false), .v (.bool false), .v (.bool false), .v (.bool false), .v (.bool false), .v (.int .i64 0), .v (.int .i64 0)], none, [], true, []⟩]) (.seq (.reg false [
  ⟨some 3, .fad 1 (.t 1), none, [], true, []⟩,
  ⟨none, .store 1 (.t 3) (.c (.one (.v (.bool false)))), none, [], true, []⟩,
  ⟨some 4, .fad 2 (.t 1), none, [], true, []⟩,
  ⟨none, .store 1 (.t 4) (.c (.one (.v (.bool false)))), none, [], true, []⟩,
  ⟨some 5, .fad 3 (.t 1), none, [], true, []⟩,
  ⟨none, .store 1 (.t 5) (.c (.one (.v (.bool false)))), none, [], true, []⟩]) (.seq (.reg false [
  ⟨some 6, .load 9 true (.t 1), none, [], true, []⟩,
  ⟨none, .store 9 (.t 2) (.t 6), none, [], true, []⟩]) (.ret))), res := [.c 2 9 true] }
theorem F21_ok : mtF Tryd.prog 21 F21 = true := by kernel_rfl
/- wharf/subs.Listed -/
def F22 : Fun := { n := 28, code := .seq (.reg false [
  ⟨some 2, .box 23 (.t 0), none, [], true, []⟩,
  ⟨some 3, .box 51 (.t 1), none, [], true, []⟩,
  ⟨some 4, .alloc 23 [.v (.string ⟨#[]⟩), .v (.bool false), .v (.bool false), .v (.bool false), .v (.bool false), .v (.bool false), .v (.bool false), .v (.int .i64 0), .v (.int .i64 0)], none, [], true, []⟩,
  ⟨some 5, .alloc 29 [.sl .full 1 [], .sl .full 11 [], .sl .full 5 []], none, [], true, []⟩]) (.seq (.block 0 (.seq (.reg false [
  ⟨some 7, .fad 0 (.t 2), none, [], true, []⟩,
  ⟨some 8, .load 1 false (.t 7), none, [], true, []⟩,
  ⟨some 9, .fad 0 (.t 3), none, [], true, []⟩,
  ⟨some 10, .load 1 false (.t 9), none, [], true, []⟩,
  ⟨some 11, .call 16 [.t 8, .t 10], none, [], true, []⟩,
  ⟨some 12, .un .not (.t 11), none, [], true, []⟩,
  ⟨some 6, .mv (.t 12), none, [], true, []⟩]) (.cond (.t 6) (.skip) (.seq (.reg false [
  ⟨some 14, .fad 5 (.t 3), none, [], true, []⟩,
  ⟨some 15, .load 1 false (.t 14), none, [], true, []⟩,
  ⟨some 13, .mv (.t 15), none, [], true, []⟩]) (.cond (.t 13) (.reg false [
  ⟨some 16, .fad 3 (.t 2), none, [], true, []⟩,
  ⟨none, .store 1 (.t 16) (.c (.one (.v (.bool true)))), none, [], true, []⟩,
  ⟨some 17, .fad 1 (.t 2), none, [], true, []⟩,
  ⟨none, .store 1 (.t 17) (.c (.one (.v (.bool false)))), none, [], true, []⟩]) (.seq (.reg false [
  ⟨some 19, .fad 1 (.t 2), none, [], true, []⟩,
  ⟨some 20, .load 1 false (.t 19), none, [], true, []⟩,
  ⟨some 21, .un .not (.t 20), none, [], true, []⟩,
  ⟨some 18, .mv (.t 21), none, [], true, []⟩]) (.cond (.t 18) (.seq (.reg false [
  ⟨some 22, .load 9 true (.t 2), none, [], true, []⟩,
  ⟨some 23, .call 18 [.t 22], none, [], true, []⟩,
  ⟨some 24, .ext (.t 23) 0, none, [], true, []⟩,
  ⟨some 25, .ext (.t 23) 1, none, [], true, []⟩,
  ⟨none, .store 9 (.t 4) (.t 24), none, [], true, []⟩,
  ⟨none, .store 3 (.t 5) (.t 25), none, [], true, []⟩]) (.ret)) (.skip)))))))) (.seq (.reg false [
  ⟨some 26, .load 9 true (.t 2), none, [], true, []⟩,
  ⟨some 27, .build [.sl .full 1 [], .sl .full 11 [], .sl .full 5 []] [], none, [], true, []⟩,
  ⟨none, .store 9 (.t 4) (.t 26), none, [], true, []⟩,
  ⟨none, .store 3 (.t 5) (.t 27), none, [], true, []⟩]) (.ret))), res := [.c 4 9 true, .c 5 3 true] }
theorem F22_ok : mtF Tryd.prog 22 F22 = true := by kernel_rfl
/- wharf/handle.Norm -/
def F23 : Fun := { n := 6, code := .seq (.reg false [
  ⟨some 2, .mv (.c (.one (.v (.string ⟨#[]⟩)))), none, [], true, []⟩]) (.seq (.reg false [
  ⟨some 3, .mv (.t 0), none, [], true, []⟩,
  ⟨some 4, .call 25 [.t 3], none, [], true, []⟩,
  ⟨some 5, .call 24 [.t 4, .c (.one (.v (.string ⟨#[32]⟩))), .c (.one (.v (.string ⟨#[]⟩)))], none, [], true, []⟩,
  ⟨some 2, .mv (.t 5), none, [], true, []⟩]) (.ret)), res := [.t 2] }
theorem F23_ok : mtF Tryd.prog 23 F23 = true := by kernel_rfl
/- wharf/glyph.Fold -/
def F25 : Fun := { n := 26, code := .seq (.reg false [
  ⟨some 2, .mv (.c (.one (.v (.string ⟨#[]⟩)))), none, [], true, []⟩]) (.seq (.reg false [
  ⟨some 6, .mv (.t 0), none, [], true, []⟩,
  ⟨some 7, .cvm 5 (.t 6), none, [], true, []⟩,
  ⟨some 3, .mv (.t 7), none, [], true, []⟩]) (.seq (.seq (.reg false [
  ⟨some 8, .mv (.t 3), none, [], true, []⟩,
  ⟨some 9, .len false (.t 8), none, [], true, []⟩,
  ⟨some 10, .mv (.c (.one (.v (.int .i64 0)))), none, [], true, []⟩]) (.block 0 (.loop (.seq (.reg false [
  ⟨some 11, .bin .lss (.t 10) (.t 9), none, [], true, []⟩]) (.seq (.cond (.t 11) (.skip) (.exit 0)) (.seq (.block 1 (.seq (.reg false [
  ⟨some 12, .mv (.t 10), none, [], true, []⟩,
  ⟨some 13, .iad 1 (.t 8) (.t 10), none, [], true, []⟩,
  ⟨some 14, .load 1 false (.t 13), none, [], true, []⟩,
  ⟨some 4, .mv (.t 12), none, [], true, []⟩,
  ⟨some 5, .mv (.t 14), none, [], true, []⟩]) (.seq (.reg false [
  ⟨some 15, .mv (.t 5), none, [], true, []⟩,
  ⟨some 16, .bin .sub (.t 15) (.c (.one (.v (.int .u8 65)))), none, [], true, []⟩,
  ⟨some 17, .bin .lss (.t 16) (.c (.one (.v (.int .u8 26)))), none, [], true, []⟩]) (.cond (.t 17) (.reg false [
  ⟨some 18, .mv (.t 3), none, [], true, []⟩,
  ⟨some 19, .mv (.t 4), none, [], true, []⟩,
  ⟨some 20, .mv (.t 5), none, [], true, []⟩,
  ⟨some 21, .bin .or (.t 20) (.c (.one (.v (.int .u8 32)))), none, [], true, []⟩,
  ⟨some 22, .iad 1 (.t 18) (.t 19), none, [], true, []⟩,
  ⟨none, .store 1 (.t 22) (.t 21), none, [], true, []⟩]) (.skip))))) (.reg false [
  ⟨some 23, .bin .add (.t 10) (.c (.one (.v (.int .i64 1)))), none, [], true, []⟩,
  ⟨some 10, .mv (.t 23), none, [], true, []⟩]))))))) (.seq (.reg false [
  ⟨some 24, .mv (.t 3), none, [], true, []⟩,
  ⟨some 25, .cvs (.t 24), none, [], true, []⟩,
  ⟨some 2, .mv (.t 25), none, [], true, []⟩]) (.ret)))), res := [.t 2] }
theorem F25_ok : mtF Tryd.prog 25 F25 = true := by kernel_rfl
end Go.Proofs.YtmhhpcjiejpcfaaDoor.Ab
