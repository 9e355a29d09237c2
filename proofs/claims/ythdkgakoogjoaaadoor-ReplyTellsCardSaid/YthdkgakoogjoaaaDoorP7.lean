/- Part of a proof (RC RShelf F1); no condition. -/
import Derived.Test.YthdkgakoogjoaaaDoorProg
import Derived.KernelRfl
import Derived.Shelf.Strings.Builder1
import Derived.Shelf.Strings.Builder2
import Derived.Shelf.Strings.OnBuilder
import Derived.Test.YthdkgakoogjoaaaDoorP5
import Derived.Test.YthdkgakoogjoaaaDoorP6
set_option linter.unusedSimpArgs false
set_option linter.unusedVariables false
set_option linter.unnecessarySimpa false
/- The code of the functions that the statements reach, as the abstract machine has it. Printed by program. -/
namespace Go.Proofs.Re
open Go.Abs Go.Abs.S
noncomputable section
-- lightwell/lightwelllaw28.ReplyTells
def c4 : AFn := ⟨139, (.seq (.reg [⟨(some 6), .mv (.c (.bool false)), none⟩]) (.seq (.seq (.reg [⟨(some 21), .mv (.t 1), none⟩, ⟨(some 22), .len false (.t 21), none⟩, ⟨(some 23), .bin .gtr (.t 22) (.c (.int .i64 (.ofNat 60))), none⟩, ⟨(some 24), .mv (.t 23), none⟩, ⟨(some 25), .mv (.t 2), (some (24, false))⟩, ⟨(some 26), .len false (.t 25), (some (24, false))⟩, ⟨(some 27), .bin .gtr (.t 26) (.c (.int .i64 (.ofNat 1000))), (some (24, false))⟩, ⟨(some 28), .pick (.t 24) (.c (.bool true)) (.t 27), none⟩]) (.cond (.t 28) (.seq (.reg [⟨(some 29), .call 16 [], none⟩, ⟨(some 6), .mv (.t 29), none⟩]) .ret) .skip)) (.seq (.seq (.reg [⟨(some 7), .mv (.c (.int .i64 (.ofNat 0))), none⟩]) (.block 0 (.loop (.seq (.seq (.reg [⟨(some 30), .mv (.t 7), none⟩, ⟨(some 31), .mv (.t 1), none⟩, ⟨(some 32), .len false (.t 31), none⟩, ⟨(some 33), .bin .lss (.t 30) (.t 32), none⟩]) (.cond (.t 33) .skip (.exit 0))) (.seq (.block 1 (.seq (.reg [⟨(some 36), .mv (.t 1), none⟩, ⟨(some 37), .mv (.t 7), none⟩, ⟨(some 38), .idxA 2 (.t 36) (.t 37), none⟩, ⟨(some 39), .fieldA 0 (.t 38), none⟩, ⟨(some 40), .load false 1 (.t 39), none⟩, ⟨(some 41), .len true (.t 40), none⟩, ⟨(some 42), .mv (.t 1), none⟩, ⟨(some 43), .mv (.t 7), none⟩, ⟨(some 44), .idxA 2 (.t 42) (.t 43), none⟩, ⟨(some 45), .fieldA 1 (.t 44), none⟩, ⟨(some 46), .load false 1 (.t 45), none⟩, ⟨(some 47), .len true (.t 46), none⟩, ⟨(some 48), .bin .add (.t 41) (.t 47), none⟩, ⟨(some 49), .bin .gtr (.t 48) (.c (.int .i64 (.ofNat 200))), none⟩]) (.cond (.t 49) (.seq (.reg [⟨(some 50), .call 16 [], none⟩, ⟨(some 6), .mv (.t 50), none⟩]) .ret) .skip))) (.reg [⟨(some 34), .mv (.t 7), none⟩, ⟨(some 35), .bin .add (.t 34) (.c (.int .i64 (.ofNat 1))), none⟩, ⟨(some 7), .mv (.t 35), none⟩])))))) (.seq (.reg [⟨(some 51), .mv (.t 2), none⟩, ⟨(some 52), .call 17 [(.t 51)], none⟩, ⟨(some 8), .mv (.t 52), none⟩]) (.seq (.reg [⟨(some 54), .mv (.t 0), none⟩, ⟨(some 55), .mv (.t 1), none⟩, ⟨(some 56), .mv (.t 8), none⟩, ⟨(some 57), .call 11 [(.t 54), (.t 55), (.t 56)], none⟩, ⟨(some 53), .mv (.t 57), none⟩, ⟨(some 58), .extract 0 (.t 53), none⟩, ⟨(some 59), .extract 1 (.t 53), none⟩, ⟨(some 9), .mv (.t 58), none⟩, ⟨(some 10), .mv (.t 59), none⟩]) (.seq (.reg [⟨(some 61), .mv (.t 0), none⟩, ⟨(some 62), .mv (.t 1), none⟩, ⟨(some 63), .mv (.t 2), none⟩, ⟨(some 64), .call 18 [(.t 61), (.t 62), (.t 63)], none⟩, ⟨(some 60), .mv (.t 64), none⟩, ⟨(some 65), .extract 0 (.t 60), none⟩, ⟨(some 66), .extract 1 (.t 60), none⟩, ⟨(some 11), .mv (.t 65), none⟩, ⟨(some 12), .mv (.t 66), none⟩]) (.seq (.reg [⟨(some 68), .mv (.t 0), none⟩, ⟨(some 69), .mv (.t 1), none⟩, ⟨(some 70), .call 5 [(.t 68), (.t 69)], none⟩, ⟨(some 67), .mv (.t 70), none⟩, ⟨(some 71), .extract 0 (.t 67), none⟩, ⟨(some 72), .extract 1 (.t 67), none⟩, ⟨(some 13), .mv (.t 71), none⟩, ⟨(some 14), .mv (.t 72), none⟩]) (.seq (.reg [⟨(some 74), .mv (.t 0), none⟩, ⟨(some 75), .mv (.t 1), none⟩, ⟨(some 76), .call 6 [(.t 74), (.t 75)], none⟩, ⟨(some 73), .mv (.t 76), none⟩, ⟨(some 77), .extract 0 (.t 73), none⟩, ⟨(some 78), .extract 1 (.t 73), none⟩, ⟨(some 15), .mv (.t 77), none⟩, ⟨(some 16), .mv (.t 78), none⟩]) (.seq (.reg [⟨(some 80), .mv (.t 1), none⟩, ⟨(some 81), .call 12 [(.t 80)], none⟩, ⟨(some 79), .mv (.t 81), none⟩, ⟨(some 82), .extract 0 (.t 79), none⟩, ⟨(some 83), .extract 1 (.t 79), none⟩, ⟨(some 17), .mv (.t 82), none⟩, ⟨(some 18), .mv (.t 83), none⟩]) (.seq (.reg [⟨(some 85), .mv (.t 1), none⟩, ⟨(some 86), .call 19 [(.t 85)], none⟩, ⟨(some 84), .mv (.t 86), none⟩, ⟨(some 87), .extract 0 (.t 84), none⟩, ⟨(some 88), .extract 1 (.t 84), none⟩, ⟨(some 19), .mv (.t 87), none⟩, ⟨(some 20), .mv (.t 88), none⟩]) (.seq (.reg [⟨(some 89), .mv (.t 9), none⟩, ⟨(some 90), .mv (.t 11), none⟩, ⟨(some 91), .call 9 [(.t 89), (.t 90)], none⟩, ⟨(some 92), .mv (.t 91), none⟩, ⟨(some 93), .mv (.t 10), (some (92, true))⟩, ⟨(some 94), .mv (.t 12), (some (92, true))⟩, ⟨(some 95), .bin .eql (.t 93) (.t 94), (some (92, true))⟩, ⟨(some 96), .pick (.t 92) (.t 95) (.c (.bool false)), none⟩, ⟨(some 97), .mv (.t 96), none⟩, ⟨(some 98), .mv (.t 13), (some (97, true))⟩, ⟨(some 99), .mv (.t 15), (some (97, true))⟩, ⟨(some 100), .call 9 [(.t 98), (.t 99)], (some (97, true))⟩, ⟨(some 101), .pick (.t 97) (.t 100) (.c (.bool false)), none⟩, ⟨(some 102), .mv (.t 101), none⟩, ⟨(some 103), .mv (.t 14), (some (102, true))⟩, ⟨(some 104), .mv (.t 16), (some (102, true))⟩, ⟨(some 105), .bin .eql (.t 103) (.t 104), (some (102, true))⟩, ⟨(some 106), .pick (.t 102) (.t 105) (.c (.bool false)), none⟩, ⟨(some 107), .mv (.t 106), none⟩, ⟨(some 108), .mv (.t 17), (some (107, true))⟩, ⟨(some 109), .mv (.t 19), (some (107, true))⟩, ⟨(some 110), .call 9 [(.t 108), (.t 109)], (some (107, true))⟩, ⟨(some 111), .pick (.t 107) (.t 110) (.c (.bool false)), none⟩, ⟨(some 112), .mv (.t 111), none⟩, ⟨(some 113), .mv (.t 18), (some (112, true))⟩, ⟨(some 114), .mv (.t 20), (some (112, true))⟩, ⟨(some 115), .bin .eql (.t 113) (.t 114), (some (112, true))⟩, ⟨(some 116), .pick (.t 112) (.t 115) (.c (.bool false)), none⟩, ⟨(some 117), .mv (.t 116), none⟩, ⟨(some 118), .mv (.t 8), (some (117, true))⟩, ⟨(some 119), .call 15 [(.t 118)], (some (117, true))⟩, ⟨(some 120), .mv (.t 2), (some (117, true))⟩, ⟨(some 121), .call 20 [(.t 120)], (some (117, true))⟩, ⟨(some 122), .call 9 [(.t 119), (.t 121)], (some (117, true))⟩, ⟨(some 123), .pick (.t 117) (.t 122) (.c (.bool false)), none⟩, ⟨(some 124), .mv (.t 123), none⟩, ⟨(some 125), .mv (.t 8), (some (124, true))⟩, ⟨(some 126), .mv (.t 2), (some (124, true))⟩, ⟨(some 127), .call 9 [(.t 125), (.t 126)], (some (124, true))⟩, ⟨(some 128), .pick (.t 124) (.t 127) (.c (.bool false)), none⟩, ⟨(some 129), .mv (.t 128), none⟩, ⟨(some 130), .mv (.t 0), (some (129, true))⟩, ⟨(some 131), .call 7 [(.t 130)], (some (129, true))⟩, ⟨(some 132), .mv (.t 0), (some (129, true))⟩, ⟨(some 133), .call 8 [(.t 132)], (some (129, true))⟩, ⟨(some 134), .bin .eql (.t 131) (.t 133), (some (129, true))⟩, ⟨(some 135), .pick (.t 129) (.t 134) (.c (.bool false)), none⟩, ⟨(some 136), .mv (.t 135), none⟩, ⟨(some 137), .call 16 [], (some (136, true))⟩, ⟨(some 138), .pick (.t 136) (.t 137) (.c (.bool false)), none⟩, ⟨(some 6), .mv (.t 138), none⟩]) .ret))))))))))), [.t 6]⟩
theorem za4 : cN Tryd.prog 4 = some c4 := by kernel_rfl
-- lightwell/reply.Whole
def c11 : AFn := ⟨29, (.seq (.reg [⟨(some 6), .mv (.c (.slice none 0 (.known 0))), none⟩, ⟨(some 7), .mv (.c (.int .i64 (.ofNat 0))), none⟩]) (.seq (.reg [⟨(some 11), .mv (.t 0), none⟩, ⟨(some 12), .mv (.t 1), none⟩, ⟨(some 13), .call 21 [(.t 11), (.t 12)], none⟩, ⟨(some 10), .mv (.t 13), none⟩, ⟨(some 14), .extract 0 (.t 10), none⟩, ⟨(some 15), .extract 1 (.t 10), none⟩, ⟨(some 8), .mv (.t 14), none⟩, ⟨(some 9), .mv (.t 15), none⟩]) (.seq (.seq (.reg [⟨(some 16), .mv (.t 9), none⟩, ⟨(some 17), .bin .neq (.t 16) (.c (.int .i64 (.ofNat 0))), none⟩]) (.cond (.t 17) (.seq (.reg [⟨(some 18), .mv (.t 9), none⟩, ⟨(some 6), .mv (.c (.slice none 0 (.known 0))), none⟩, ⟨(some 7), .mv (.t 18), none⟩]) .ret) .skip)) (.seq (.reg [⟨(some 19), .mv (.t 8), none⟩, ⟨(some 20), .mv (.t 2), none⟩, ⟨(some 21), .len false (.t 20), none⟩, ⟨(some 22), .call 24 [(.t 21)], none⟩, ⟨(some 23), .bin .add (.c (.str [67, 111, 110, 116, 101, 110, 116, 45, 76, 101, 110, 103, 116, 104, 58, 32])) (.t 22), none⟩, ⟨(some 24), .buildSl 2 [(.str [])] [(0, 1, (.t 23)), (1, 1, (.c (.str [])))], none⟩, ⟨(some 25), .call 22 [(.t 19), (.t 24)], none⟩, ⟨(some 8), .mv (.t 25), none⟩]) (.seq (.reg [⟨(some 26), .mv (.t 8), none⟩, ⟨(some 27), .mv (.t 2), none⟩, ⟨(some 28), .append 1 1 (.t 26) (.t 27), none⟩, ⟨(some 6), .mv (.t 28), none⟩, ⟨(some 7), .mv (.c (.int .i64 (.ofNat 0))), none⟩]) .ret))))), [.t 6, .t 7]⟩
theorem za11 : cN Tryd.prog 11 = some c11 := by kernel_rfl
-- lightwell/reply.head
def c21 : AFn := ⟨31, (.seq (.reg [⟨(some 4), .mv (.c (.slice none 0 (.known 0))), none⟩, ⟨(some 5), .mv (.c (.int .i64 (.ofNat 0))), none⟩]) (.seq (.seq (.reg [⟨(some 8), .mv (.t 0), none⟩, ⟨(some 9), .bin .lss (.t 8) (.c (.int .i64 (.ofNat 200))), none⟩, ⟨(some 10), .mv (.t 9), none⟩, ⟨(some 11), .mv (.t 0), (some (10, false))⟩, ⟨(some 12), .bin .gtr (.t 11) (.c (.int .i64 (.ofNat 599))), (some (10, false))⟩, ⟨(some 13), .pick (.t 10) (.c (.bool true)) (.t 12), none⟩]) (.cond (.t 13) (.seq (.reg [⟨(some 4), .mv (.c (.slice none 0 (.known 0))), none⟩, ⟨(some 5), .mv (.c (.int .i64 (.ofNat 2))), none⟩]) .ret) .skip)) (.seq (.seq (.reg [⟨(some 14), .mv (.t 1), none⟩, ⟨(some 15), .call 25 [(.t 14)], none⟩, ⟨(some 6), .mv (.t 15), none⟩]) (.seq (.reg [⟨(some 16), .mv (.t 6), none⟩, ⟨(some 17), .bin .neq (.t 16) (.c (.int .i64 (.ofNat 0))), none⟩]) (.cond (.t 17) (.seq (.reg [⟨(some 18), .mv (.t 6), none⟩, ⟨(some 4), .mv (.c (.slice none 0 (.known 0))), none⟩, ⟨(some 5), .mv (.t 18), none⟩]) .ret) .skip))) (.seq (.reg [⟨(some 19), .mv (.t 0), none⟩, ⟨(some 20), .call 24 [(.t 19)], none⟩, ⟨(some 21), .bin .add (.c (.str [72, 84, 84, 80, 47, 49, 46, 49, 32])) (.t 20), none⟩, ⟨(some 22), .bin .add (.t 21) (.c (.str [32])), none⟩, ⟨(some 23), .mv (.t 0), none⟩, ⟨(some 24), .call 7 [(.t 23)], none⟩, ⟨(some 25), .bin .add (.t 22) (.t 24), none⟩, ⟨(some 26), .buildSl 1 [(.str [])] [(0, 1, (.t 25))], none⟩, ⟨(some 27), .call 22 [(.c (.slice none 0 (.known 0))), (.t 26)], none⟩, ⟨(some 7), .mv (.t 27), none⟩]) (.seq (.reg [⟨(some 28), .mv (.t 7), none⟩, ⟨(some 29), .mv (.t 1), none⟩, ⟨(some 30), .call 26 [(.t 28), (.t 29)], none⟩, ⟨(some 4), .mv (.t 30), none⟩, ⟨(some 5), .mv (.c (.int .i64 (.ofNat 0))), none⟩]) .ret))))), [.t 4, .t 5]⟩
theorem za21 : cN Tryd.prog 21 = some c21 := by kernel_rfl
-- lightwell/reply.check
def c25 : AFn := ⟨25, (.seq (.reg [⟨(some 2), .mv (.c (.int .i64 (.ofNat 0))), none⟩]) (.seq (.seq (.reg [⟨(some 5), .mv (.t 0), none⟩, ⟨(some 6), .len false (.t 5), none⟩, ⟨(some 7), .bin .gtr (.t 6) (.c (.int .i64 (.ofNat 40))), none⟩]) (.cond (.t 7) (.seq (.reg [⟨(some 2), .mv (.c (.int .i64 (.ofNat 3))), none⟩]) .ret) .skip)) (.seq (.seq (.reg [⟨(some 8), .mv (.t 0), none⟩, ⟨(some 9), .len false (.t 8), none⟩, ⟨(some 10), .mv (.c (.int .i64 (.ofNat 0))), none⟩]) (.block 0 (.loop (.seq (.reg [⟨(some 11), .bin .lss (.t 10) (.t 9), none⟩]) (.seq (.cond (.t 11) .skip (.exit 0)) (.seq (.block 1 (.seq (.reg [⟨(some 12), .idxA 2 (.t 8) (.t 10), none⟩, ⟨(some 13), .load true 2 (.t 12), none⟩, ⟨(some 4), .new [(.str []), (.str [])], none⟩, ⟨none, .store 2 (.t 4) (.t 13), none⟩]) (.seq (.reg [⟨(some 14), .fieldA 0 (.t 4), none⟩, ⟨(some 15), .load false 1 (.t 14), none⟩, ⟨(some 16), .call 31 [(.t 15)], none⟩, ⟨(some 17), .un .not (.t 16), none⟩, ⟨(some 18), .mv (.t 17), none⟩, ⟨(some 19), .fieldA 1 (.t 4), (some (18, false))⟩, ⟨(some 20), .load false 1 (.t 19), (some (18, false))⟩, ⟨(some 21), .call 32 [(.t 20)], (some (18, false))⟩, ⟨(some 22), .un .not (.t 21), (some (18, false))⟩, ⟨(some 23), .pick (.t 18) (.c (.bool true)) (.t 22), none⟩]) (.cond (.t 23) (.seq (.reg [⟨(some 2), .mv (.c (.int .i64 (.ofNat 21))), none⟩]) .ret) .skip)))) (.reg [⟨(some 24), .bin .add (.t 10) (.c (.int .i64 (.ofNat 1))), none⟩, ⟨(some 10), .mv (.t 24), none⟩]))))))) (.seq (.reg [⟨(some 2), .mv (.c (.int .i64 (.ofNat 0))), none⟩]) .ret)))), [.t 2]⟩
theorem za25 : cN Tryd.prog 25 = some c25 := by kernel_rfl
-- lightwell/reply.rightName
def c31 : AFn := ⟨19, (.seq (.reg [⟨(some 2), .mv (.c (.bool false)), none⟩]) (.seq (.seq (.reg [⟨(some 4), .mv (.t 0), none⟩, ⟨(some 5), .bin .eql (.t 4) (.c (.str [])), none⟩, ⟨(some 6), .mv (.t 5), none⟩, ⟨(some 7), .mv (.t 0), (some (6, false))⟩, ⟨(some 8), .call 35 [(.t 7), (.f 36)], (some (6, false))⟩, ⟨(some 9), .un .not (.t 8), (some (6, false))⟩, ⟨(some 10), .pick (.t 6) (.c (.bool true)) (.t 9), none⟩]) (.cond (.t 10) (.seq (.reg [⟨(some 2), .mv (.c (.bool false)), none⟩]) .ret) .skip)) (.seq (.reg [⟨(some 11), .mv (.t 0), none⟩, ⟨(some 12), .call 37 [(.t 11)], none⟩, ⟨(some 3), .mv (.t 12), none⟩]) (.seq (.reg [⟨(some 13), .mv (.t 3), none⟩, ⟨(some 14), .bin .neq (.t 13) (.c (.str [99, 111, 110, 116, 101, 110, 116, 45, 108, 101, 110, 103, 116, 104])), none⟩, ⟨(some 15), .mv (.t 14), none⟩, ⟨(some 16), .mv (.t 3), (some (15, true))⟩, ⟨(some 17), .bin .neq (.t 16) (.c (.str [116, 114, 97, 110, 115, 102, 101, 114, 45, 101, 110, 99, 111, 100, 105, 110, 103])), (some (15, true))⟩, ⟨(some 18), .pick (.t 15) (.t 17) (.c (.bool false)), none⟩, ⟨(some 2), .mv (.t 18), none⟩]) .ret)))), [.t 2]⟩
theorem za31 : cN Tryd.prog 31 = some c31 := by kernel_rfl
-- lightwell/reply.all
def c35 : AFn := ⟨18, (.seq (.reg [⟨(some 4), .mv (.c (.bool false)), none⟩]) (.seq (.seq (.reg [⟨(some 6), .mv (.t 0), none⟩, ⟨(some 7), .len true (.t 6), none⟩, ⟨(some 8), .mv (.c (.int .i64 (.ofNat 0))), none⟩]) (.block 0 (.loop (.seq (.reg [⟨(some 9), .bin .lss (.t 8) (.t 7), none⟩]) (.seq (.cond (.t 9) .skip (.exit 0)) (.seq (.block 1 (.seq (.reg [⟨(some 10), .mv (.t 8), none⟩, ⟨(some 5), .mv (.t 10), none⟩]) (.seq (.reg [⟨(some 11), .mv (.t 1), none⟩, ⟨(some 12), .mv (.t 0), none⟩, ⟨(some 13), .mv (.t 5), none⟩, ⟨(some 14), .idxS (.t 12) (.t 13), none⟩, ⟨(some 15), .callv (.t 11) [(.t 14)], none⟩, ⟨(some 16), .un .not (.t 15), none⟩]) (.cond (.t 16) (.seq (.reg [⟨(some 4), .mv (.c (.bool false)), none⟩]) .ret) .skip)))) (.reg [⟨(some 17), .bin .add (.t 8) (.c (.int .i64 (.ofNat 1))), none⟩, ⟨(some 8), .mv (.t 17), none⟩]))))))) (.seq (.reg [⟨(some 4), .mv (.c (.bool true)), none⟩]) .ret))), [.t 4]⟩
theorem za35 : cN Tryd.prog 35 = some c35 := by kernel_rfl
-- lightwell/reply.rightValue
def c32 : AFn := ⟨22, (.seq (.reg [⟨(some 2), .mv (.c (.bool false)), none⟩]) (.seq (.seq (.reg [⟨(some 3), .mv (.t 0), none⟩, ⟨(some 4), .bin .eql (.t 3) (.c (.str [])), none⟩]) (.cond (.t 4) (.seq (.reg [⟨(some 2), .mv (.c (.bool true)), none⟩]) .ret) .skip)) (.seq (.reg [⟨(some 5), .mv (.t 0), none⟩, ⟨(some 6), .call 35 [(.t 5), (.f 38)], none⟩, ⟨(some 7), .mv (.t 6), none⟩, ⟨(some 8), .mv (.t 0), (some (7, true))⟩, ⟨(some 9), .idxS (.t 8) (.c (.int .i64 (.ofNat 0))), (some (7, true))⟩, ⟨(some 10), .call 39 [(.t 9)], (some (7, true))⟩, ⟨(some 11), .un .not (.t 10), (some (7, true))⟩, ⟨(some 12), .pick (.t 7) (.t 11) (.c (.bool false)), none⟩, ⟨(some 13), .mv (.t 12), none⟩, ⟨(some 14), .mv (.t 0), (some (13, true))⟩, ⟨(some 15), .mv (.t 0), (some (13, true))⟩, ⟨(some 16), .len true (.t 15), (some (13, true))⟩, ⟨(some 17), .bin .sub (.t 16) (.c (.int .i64 (.ofNat 1))), (some (13, true))⟩, ⟨(some 18), .idxS (.t 14) (.t 17), (some (13, true))⟩, ⟨(some 19), .call 39 [(.t 18)], (some (13, true))⟩, ⟨(some 20), .un .not (.t 19), (some (13, true))⟩, ⟨(some 21), .pick (.t 13) (.t 20) (.c (.bool false)), none⟩, ⟨(some 2), .mv (.t 21), none⟩]) .ret))), [.t 2]⟩
theorem za32 : cN Tryd.prog 32 = some c32 := by kernel_rfl
-- lightwell/reply.isValue
def c38 : AFn := ⟨13, (.seq (.reg [⟨(some 2), .mv (.c (.bool false)), none⟩]) (.seq (.reg [⟨(some 3), .mv (.t 0), none⟩, ⟨(some 4), .bin .eql (.t 3) (.c (.int .u8 (.ofNat 9))), none⟩, ⟨(some 5), .mv (.t 4), none⟩, ⟨(some 6), .mv (.t 0), (some (5, false))⟩, ⟨(some 7), .bin .geq (.t 6) (.c (.int .u8 (.ofNat 32))), (some (5, false))⟩, ⟨(some 8), .mv (.t 7), (some (5, false))⟩, ⟨(some 9), .mv (.t 0), (some (8, true))⟩, ⟨(some 10), .bin .neq (.t 9) (.c (.int .u8 (.ofNat 127))), (some (8, true))⟩, ⟨(some 11), .pick (.t 8) (.t 10) (.c (.bool false)), (some (5, false))⟩, ⟨(some 12), .pick (.t 5) (.c (.bool true)) (.t 11), none⟩, ⟨(some 2), .mv (.t 12), none⟩]) .ret)), [.t 2]⟩
theorem za38 : cN Tryd.prog 38 = some c38 := by kernel_rfl
-- lightwell/reply.isBlank
def c39 : AFn := ⟨9, (.seq (.reg [⟨(some 2), .mv (.c (.bool false)), none⟩]) (.seq (.reg [⟨(some 3), .mv (.t 0), none⟩, ⟨(some 4), .bin .eql (.t 3) (.c (.int .u8 (.ofNat 32))), none⟩, ⟨(some 5), .mv (.t 4), none⟩, ⟨(some 6), .mv (.t 0), (some (5, false))⟩, ⟨(some 7), .bin .eql (.t 6) (.c (.int .u8 (.ofNat 9))), (some (5, false))⟩, ⟨(some 8), .pick (.t 5) (.c (.bool true)) (.t 7), none⟩, ⟨(some 2), .mv (.t 8), none⟩]) .ret)), [.t 2]⟩
theorem za39 : cN Tryd.prog 39 = some c39 := by kernel_rfl
-- lightwell/reply.Reason
def c7 : AFn := ⟨32, (.seq (.reg [⟨(some 2), .mv (.c (.str [])), none⟩]) (.seq (.seq (.reg [⟨(some 3), .mv (.t 0), none⟩]) (.block 0 (.seq (.reg [⟨(some 5), .bin .eql (.t 3) (.c (.int .i64 (.ofNat 200))), none⟩, ⟨(some 4), .mv (.t 5), none⟩]) (.cond (.t 4) (.seq (.reg [⟨(some 2), .mv (.c (.str [79, 75])), none⟩]) .ret) (.seq (.reg [⟨(some 7), .bin .eql (.t 3) (.c (.int .i64 (.ofNat 201))), none⟩, ⟨(some 6), .mv (.t 7), none⟩]) (.cond (.t 6) (.seq (.reg [⟨(some 2), .mv (.c (.str [67, 114, 101, 97, 116, 101, 100])), none⟩]) .ret) (.seq (.reg [⟨(some 9), .bin .eql (.t 3) (.c (.int .i64 (.ofNat 204))), none⟩, ⟨(some 8), .mv (.t 9), none⟩]) (.cond (.t 8) (.seq (.reg [⟨(some 2), .mv (.c (.str [78, 111, 32, 67, 111, 110, 116, 101, 110, 116])), none⟩]) .ret) (.seq (.reg [⟨(some 11), .bin .eql (.t 3) (.c (.int .i64 (.ofNat 400))), none⟩, ⟨(some 10), .mv (.t 11), none⟩]) (.cond (.t 10) (.seq (.reg [⟨(some 2), .mv (.c (.str [66, 97, 100, 32, 82, 101, 113, 117, 101, 115, 116])), none⟩]) .ret) (.seq (.reg [⟨(some 13), .bin .eql (.t 3) (.c (.int .i64 (.ofNat 401))), none⟩, ⟨(some 12), .mv (.t 13), none⟩]) (.cond (.t 12) (.seq (.reg [⟨(some 2), .mv (.c (.str [85, 110, 97, 117, 116, 104, 111, 114, 105, 122, 101, 100])), none⟩]) .ret) (.seq (.reg [⟨(some 15), .bin .eql (.t 3) (.c (.int .i64 (.ofNat 404))), none⟩, ⟨(some 14), .mv (.t 15), none⟩]) (.cond (.t 14) (.seq (.reg [⟨(some 2), .mv (.c (.str [78, 111, 116, 32, 70, 111, 117, 110, 100])), none⟩]) .ret) (.seq (.reg [⟨(some 17), .bin .eql (.t 3) (.c (.int .i64 (.ofNat 405))), none⟩, ⟨(some 16), .mv (.t 17), none⟩]) (.cond (.t 16) (.seq (.reg [⟨(some 2), .mv (.c (.str [77, 101, 116, 104, 111, 100, 32, 78, 111, 116, 32, 65, 108, 108, 111, 119, 101, 100])), none⟩]) .ret) (.seq (.reg [⟨(some 19), .bin .eql (.t 3) (.c (.int .i64 (.ofNat 409))), none⟩, ⟨(some 18), .mv (.t 19), none⟩]) (.cond (.t 18) (.seq (.reg [⟨(some 2), .mv (.c (.str [67, 111, 110, 102, 108, 105, 99, 116])), none⟩]) .ret) (.seq (.reg [⟨(some 21), .bin .eql (.t 3) (.c (.int .i64 (.ofNat 413))), none⟩, ⟨(some 20), .mv (.t 21), none⟩]) (.cond (.t 20) (.seq (.reg [⟨(some 2), .mv (.c (.str [67, 111, 110, 116, 101, 110, 116, 32, 84, 111, 111, 32, 76, 97, 114, 103, 101])), none⟩]) .ret) (.seq (.reg [⟨(some 23), .bin .eql (.t 3) (.c (.int .i64 (.ofNat 422))), none⟩, ⟨(some 22), .mv (.t 23), none⟩]) (.cond (.t 22) (.seq (.reg [⟨(some 2), .mv (.c (.str [85, 110, 112, 114, 111, 99, 101, 115, 115, 97, 98, 108, 101, 32, 67, 111, 110, 116, 101, 110, 116])), none⟩]) .ret) (.seq (.reg [⟨(some 25), .bin .eql (.t 3) (.c (.int .i64 (.ofNat 429))), none⟩, ⟨(some 24), .mv (.t 25), none⟩]) (.cond (.t 24) (.seq (.reg [⟨(some 2), .mv (.c (.str [84, 111, 111, 32, 77, 97, 110, 121, 32, 82, 101, 113, 117, 101, 115, 116, 115])), none⟩]) .ret) (.seq (.reg [⟨(some 27), .bin .eql (.t 3) (.c (.int .i64 (.ofNat 500))), none⟩, ⟨(some 26), .mv (.t 27), none⟩]) (.cond (.t 26) (.seq (.reg [⟨(some 2), .mv (.c (.str [73, 110, 116, 101, 114, 110, 97, 108, 32, 83, 101, 114, 118, 101, 114, 32, 69, 114, 114, 111, 114])), none⟩]) .ret) (.seq (.reg [⟨(some 29), .bin .eql (.t 3) (.c (.int .i64 (.ofNat 503))), none⟩, ⟨(some 28), .mv (.t 29), none⟩]) (.cond (.t 28) (.seq (.reg [⟨(some 2), .mv (.c (.str [83, 101, 114, 118, 105, 99, 101, 32, 85, 110, 97, 118, 97, 105, 108, 97, 98, 108, 101])), none⟩]) .ret) (.seq (.reg [⟨(some 31), .bin .eql (.t 3) (.c (.int .i64 (.ofNat 507))), none⟩, ⟨(some 30), .mv (.t 31), none⟩]) (.cond (.t 30) (.seq (.reg [⟨(some 2), .mv (.c (.str [73, 110, 115, 117, 102, 102, 105, 99, 105, 101, 110, 116, 32, 83, 116, 111, 114, 97, 103, 101])), none⟩]) .ret) .skip)))))))))))))))))))))))))))))) (.seq (.reg [⟨(some 2), .mv (.c (.str [])), none⟩]) .ret))), [.t 2]⟩
theorem za7 : cN Tryd.prog 7 = some c7 := by kernel_rfl
-- lightwell/reply.lines
def c22 : AFn := ⟨20, (.seq (.reg [⟨(some 4), .mv (.c (.slice none 0 (.known 0))), none⟩]) (.seq (.seq (.reg [⟨(some 7), .mv (.t 1), none⟩, ⟨(some 8), .len false (.t 7), none⟩, ⟨(some 9), .mv (.c (.int .i64 (.ofNat 0))), none⟩]) (.block 0 (.loop (.seq (.reg [⟨(some 10), .bin .lss (.t 9) (.t 8), none⟩]) (.seq (.cond (.t 10) .skip (.exit 0)) (.seq (.block 1 (.seq (.reg [⟨(some 11), .idxA 1 (.t 7) (.t 9), none⟩, ⟨(some 12), .load false 1 (.t 11), none⟩, ⟨(some 6), .mv (.t 12), none⟩]) (.seq (.reg [⟨(some 13), .mv (.t 0), none⟩, ⟨(some 14), .mv (.t 6), none⟩, ⟨(some 15), .append 1 1 (.t 13) (.t 14), none⟩, ⟨(some 0), .mv (.t 15), none⟩]) (.reg [⟨(some 16), .mv (.t 0), none⟩, ⟨(some 17), .append 1 1 (.t 16) (.c (.str [13, 10])), none⟩, ⟨(some 0), .mv (.t 17), none⟩])))) (.reg [⟨(some 18), .bin .add (.t 9) (.c (.int .i64 (.ofNat 1))), none⟩, ⟨(some 9), .mv (.t 18), none⟩]))))))) (.seq (.reg [⟨(some 19), .mv (.t 0), none⟩, ⟨(some 4), .mv (.t 19), none⟩]) .ret))), [.t 4]⟩
theorem za22 : cN Tryd.prog 22 = some c22 := by kernel_rfl
-- lightwell/reply.headers
def c26 : AFn := ⟨24, (.seq (.reg [⟨(some 4), .mv (.c (.slice none 0 (.known 0))), none⟩]) (.seq (.seq (.reg [⟨(some 7), .mv (.t 1), none⟩, ⟨(some 8), .len false (.t 7), none⟩, ⟨(some 9), .mv (.c (.int .i64 (.ofNat 0))), none⟩]) (.block 0 (.loop (.seq (.reg [⟨(some 10), .bin .lss (.t 9) (.t 8), none⟩]) (.seq (.cond (.t 10) .skip (.exit 0)) (.seq (.block 1 (.seq (.reg [⟨(some 11), .idxA 2 (.t 7) (.t 9), none⟩, ⟨(some 12), .load true 2 (.t 11), none⟩, ⟨(some 6), .new [(.str []), (.str [])], none⟩, ⟨none, .store 2 (.t 6) (.t 12), none⟩]) (.reg [⟨(some 13), .mv (.t 0), none⟩, ⟨(some 14), .fieldA 0 (.t 6), none⟩, ⟨(some 15), .load false 1 (.t 14), none⟩, ⟨(some 16), .bin .add (.t 15) (.c (.str [58, 32])), none⟩, ⟨(some 17), .fieldA 1 (.t 6), none⟩, ⟨(some 18), .load false 1 (.t 17), none⟩, ⟨(some 19), .bin .add (.t 16) (.t 18), none⟩, ⟨(some 20), .buildSl 1 [(.str [])] [(0, 1, (.t 19))], none⟩, ⟨(some 21), .call 22 [(.t 13), (.t 20)], none⟩, ⟨(some 0), .mv (.t 21), none⟩]))) (.reg [⟨(some 22), .bin .add (.t 9) (.c (.int .i64 (.ofNat 1))), none⟩, ⟨(some 9), .mv (.t 22), none⟩]))))))) (.seq (.reg [⟨(some 23), .mv (.t 0), none⟩, ⟨(some 4), .mv (.t 23), none⟩]) .ret))), [.t 4]⟩
theorem za26 : cN Tryd.prog 26 = some c26 := by kernel_rfl
-- lightwell/reply.End
def c12 : AFn := ⟨16, (.seq (.reg [⟨(some 2), .mv (.c (.slice none 0 (.known 0))), none⟩, ⟨(some 3), .mv (.c (.int .i64 (.ofNat 0))), none⟩]) (.seq (.seq (.reg [⟨(some 5), .mv (.t 0), none⟩, ⟨(some 6), .call 25 [(.t 5)], none⟩, ⟨(some 4), .mv (.t 6), none⟩]) (.seq (.reg [⟨(some 7), .mv (.t 4), none⟩, ⟨(some 8), .bin .neq (.t 7) (.c (.int .i64 (.ofNat 0))), none⟩]) (.cond (.t 8) (.seq (.reg [⟨(some 9), .mv (.t 4), none⟩, ⟨(some 2), .mv (.c (.slice none 0 (.known 0))), none⟩, ⟨(some 3), .mv (.t 9), none⟩]) .ret) .skip))) (.seq (.reg [⟨(some 10), .buildSl 1 [(.str [])] [(0, 1, (.c (.str [48])))], none⟩, ⟨(some 11), .call 22 [(.c (.slice none 0 (.known 0))), (.t 10)], none⟩, ⟨(some 12), .mv (.t 0), none⟩, ⟨(some 13), .call 26 [(.t 11), (.t 12)], none⟩, ⟨(some 14), .buildSl 1 [(.str [])] [(0, 1, (.c (.str [])))], none⟩, ⟨(some 15), .call 22 [(.t 13), (.t 14)], none⟩, ⟨(some 2), .mv (.t 15), none⟩, ⟨(some 3), .mv (.c (.int .i64 (.ofNat 0))), none⟩]) .ret))), [.t 2, .t 3]⟩
theorem za12 : cN Tryd.prog 12 = some c12 := by kernel_rfl
-- lightwell/reply.Chunk
def c15 : AFn := ⟨18, (.seq (.reg [⟨(some 2), .mv (.c (.slice none 0 (.known 0))), none⟩]) (.seq (.seq (.reg [⟨(some 4), .mv (.t 0), none⟩, ⟨(some 5), .len false (.t 4), none⟩, ⟨(some 6), .bin .eql (.t 5) (.c (.int .i64 (.ofNat 0))), none⟩]) (.cond (.t 6) (.seq (.reg [⟨(some 2), .mv (.c (.slice none 0 (.known 0))), none⟩]) .ret) .skip)) (.seq (.reg [⟨(some 7), .mv (.t 0), none⟩, ⟨(some 8), .len false (.t 7), none⟩, ⟨(some 9), .call 27 [(.t 8), (.c (.int .i64 (.ofNat 16)))], none⟩, ⟨(some 10), .buildSl 1 [(.str [])] [(0, 1, (.t 9))], none⟩, ⟨(some 11), .call 22 [(.c (.slice none 0 (.known 0))), (.t 10)], none⟩, ⟨(some 3), .mv (.t 11), none⟩]) (.seq (.reg [⟨(some 12), .mv (.t 3), none⟩, ⟨(some 13), .mv (.t 0), none⟩, ⟨(some 14), .append 1 1 (.t 12) (.t 13), none⟩, ⟨(some 3), .mv (.t 14), none⟩]) (.seq (.reg [⟨(some 15), .mv (.t 3), none⟩, ⟨(some 16), .buildSl 1 [(.str [])] [(0, 1, (.c (.str [])))], none⟩, ⟨(some 17), .call 22 [(.t 15), (.t 16)], none⟩, ⟨(some 2), .mv (.t 17), none⟩]) .ret))))), [.t 2]⟩
theorem za15 : cN Tryd.prog 15 = some c15 := by kernel_rfl
-- lightwell/lightwelllow.CopyBytes
def c17 : AFn := ⟨7, (.seq (.reg [⟨(some 2), .mv (.c (.slice none 0 (.known 0))), none⟩]) (.seq (.reg [⟨(some 3), .mv (.c (.slice none 0 (.known 0))), none⟩]) (.seq (.reg [⟨(some 4), .mv (.t 3), none⟩, ⟨(some 5), .mv (.t 0), none⟩, ⟨(some 6), .append 1 1 (.t 4) (.t 5), none⟩, ⟨(some 2), .mv (.t 6), none⟩]) .ret))), [.t 2]⟩
theorem za17 : cN Tryd.prog 17 = some c17 := by kernel_rfl
-- lightwell/lightwellref28.Whole
def c18 : AFn := ⟨29, (.seq (.reg [⟨(some 6), .mv (.c (.slice none 0 (.known 0))), none⟩, ⟨(some 7), .mv (.c (.int .i64 (.ofNat 0))), none⟩]) (.seq (.reg [⟨(some 11), .mv (.t 0), none⟩, ⟨(some 12), .mv (.t 1), none⟩, ⟨(some 13), .call 23 [(.t 11), (.t 12)], none⟩, ⟨(some 10), .mv (.t 13), none⟩, ⟨(some 14), .extract 0 (.t 10), none⟩, ⟨(some 15), .extract 1 (.t 10), none⟩, ⟨(some 8), .mv (.t 14), none⟩, ⟨(some 9), .mv (.t 15), none⟩]) (.seq (.seq (.reg [⟨(some 16), .mv (.t 9), none⟩, ⟨(some 17), .bin .neq (.t 16) (.c (.int .i64 (.ofNat 0))), none⟩]) (.cond (.t 17) (.seq (.reg [⟨(some 18), .mv (.t 9), none⟩, ⟨(some 6), .mv (.c (.slice none 0 (.known 0))), none⟩, ⟨(some 7), .mv (.t 18), none⟩]) .ret) .skip)) (.seq (.reg [⟨(some 19), .mv (.t 8), none⟩, ⟨(some 20), .bin .add (.t 19) (.c (.str [67, 111, 110, 116, 101, 110, 116, 45, 76, 101, 110, 103, 116, 104, 58, 32])), none⟩, ⟨(some 21), .mv (.t 2), none⟩, ⟨(some 22), .len false (.t 21), none⟩, ⟨(some 23), .call 28 [(.t 22), (.c (.int .i64 (.ofNat 10)))], none⟩, ⟨(some 24), .bin .add (.t 20) (.t 23), none⟩, ⟨(some 25), .bin .add (.t 24) (.c (.str [13, 10, 13, 10])), none⟩, ⟨(some 26), .convSB (.t 25), none⟩, ⟨(some 27), .mv (.t 2), none⟩, ⟨(some 28), .append 1 1 (.t 26) (.t 27), none⟩, ⟨(some 6), .mv (.t 28), none⟩, ⟨(some 7), .mv (.c (.int .i64 (.ofNat 0))), none⟩]) .ret)))), [.t 6, .t 7]⟩
theorem za18 : cN Tryd.prog 18 = some c18 := by kernel_rfl
-- lightwell/lightwellref28.Head
def c23 : AFn := ⟨30, (.seq (.reg [⟨(some 4), .mv (.c (.str [])), none⟩, ⟨(some 5), .mv (.c (.int .i64 (.ofNat 0))), none⟩]) (.seq (.seq (.reg [⟨(some 8), .mv (.t 0), none⟩, ⟨(some 9), .bin .lss (.t 8) (.c (.int .i64 (.ofNat 200))), none⟩, ⟨(some 10), .mv (.t 9), none⟩, ⟨(some 11), .mv (.t 0), (some (10, false))⟩, ⟨(some 12), .bin .gtr (.t 11) (.c (.int .i64 (.ofNat 599))), (some (10, false))⟩, ⟨(some 13), .pick (.t 10) (.c (.bool true)) (.t 12), none⟩]) (.cond (.t 13) (.seq (.reg [⟨(some 4), .mv (.c (.str [])), none⟩, ⟨(some 5), .mv (.c (.int .i64 (.ofNat 2))), none⟩]) .ret) .skip)) (.seq (.reg [⟨(some 15), .mv (.t 1), none⟩, ⟨(some 16), .call 29 [(.t 15)], none⟩, ⟨(some 14), .mv (.t 16), none⟩, ⟨(some 17), .extract 0 (.t 14), none⟩, ⟨(some 18), .extract 1 (.t 14), none⟩, ⟨(some 6), .mv (.t 17), none⟩, ⟨(some 7), .mv (.t 18), none⟩]) (.seq (.reg [⟨(some 19), .mv (.t 0), none⟩, ⟨(some 20), .call 28 [(.t 19), (.c (.int .i64 (.ofNat 10)))], none⟩, ⟨(some 21), .bin .add (.c (.str [72, 84, 84, 80, 47, 49, 46, 49, 32])) (.t 20), none⟩, ⟨(some 22), .bin .add (.t 21) (.c (.str [32])), none⟩, ⟨(some 23), .mv (.t 0), none⟩, ⟨(some 24), .call 8 [(.t 23)], none⟩, ⟨(some 25), .bin .add (.t 22) (.t 24), none⟩, ⟨(some 26), .bin .add (.t 25) (.c (.str [13, 10])), none⟩, ⟨(some 27), .mv (.t 6), none⟩, ⟨(some 28), .bin .add (.t 26) (.t 27), none⟩, ⟨(some 29), .mv (.t 7), none⟩, ⟨(some 4), .mv (.t 28), none⟩, ⟨(some 5), .mv (.t 29), none⟩]) .ret)))), [.t 4, .t 5]⟩
theorem za23 : cN Tryd.prog 23 = some c23 := by kernel_rfl
-- lightwell/lightwellref28.Fields
def c29 : AFn := ⟨37, (.seq (.reg [⟨(some 2), .mv (.c (.str [])), none⟩, ⟨(some 3), .mv (.c (.int .i64 (.ofNat 0))), none⟩]) (.seq (.seq (.reg [⟨(some 6), .mv (.t 0), none⟩, ⟨(some 7), .len false (.t 6), none⟩, ⟨(some 8), .bin .gtr (.t 7) (.c (.int .i64 (.ofNat 40))), none⟩]) (.cond (.t 8) (.seq (.reg [⟨(some 2), .mv (.c (.str [])), none⟩, ⟨(some 3), .mv (.c (.int .i64 (.ofNat 3))), none⟩]) .ret) .skip)) (.seq (.reg [⟨(some 4), .mv (.c (.str [])), none⟩]) (.seq (.seq (.reg [⟨(some 5), .mv (.c (.int .i64 (.ofNat 0))), none⟩]) (.block 0 (.loop (.seq (.seq (.reg [⟨(some 9), .mv (.t 5), none⟩, ⟨(some 10), .mv (.t 0), none⟩, ⟨(some 11), .len false (.t 10), none⟩, ⟨(some 12), .bin .lss (.t 9) (.t 11), none⟩]) (.cond (.t 12) .skip (.exit 0))) (.seq (.block 1 (.seq (.seq (.reg [⟨(some 15), .mv (.t 0), none⟩, ⟨(some 16), .mv (.t 5), none⟩, ⟨(some 17), .idxA 2 (.t 15) (.t 16), none⟩, ⟨(some 18), .load true 2 (.t 17), none⟩, ⟨(some 19), .call 34 [(.t 18)], none⟩, ⟨(some 20), .un .not (.t 19), none⟩]) (.cond (.t 20) (.seq (.reg [⟨(some 2), .mv (.c (.str [])), none⟩, ⟨(some 3), .mv (.c (.int .i64 (.ofNat 21))), none⟩]) .ret) .skip)) (.reg [⟨(some 21), .mv (.t 4), none⟩, ⟨(some 22), .mv (.t 0), none⟩, ⟨(some 23), .mv (.t 5), none⟩, ⟨(some 24), .idxA 2 (.t 22) (.t 23), none⟩, ⟨(some 25), .fieldA 0 (.t 24), none⟩, ⟨(some 26), .load false 1 (.t 25), none⟩, ⟨(some 27), .bin .add (.t 21) (.t 26), none⟩, ⟨(some 28), .bin .add (.t 27) (.c (.str [58, 32])), none⟩, ⟨(some 29), .mv (.t 0), none⟩, ⟨(some 30), .mv (.t 5), none⟩, ⟨(some 31), .idxA 2 (.t 29) (.t 30), none⟩, ⟨(some 32), .fieldA 1 (.t 31), none⟩, ⟨(some 33), .load false 1 (.t 32), none⟩, ⟨(some 34), .bin .add (.t 28) (.t 33), none⟩, ⟨(some 35), .bin .add (.t 34) (.c (.str [13, 10])), none⟩, ⟨(some 4), .mv (.t 35), none⟩]))) (.reg [⟨(some 13), .mv (.t 5), none⟩, ⟨(some 14), .bin .add (.t 13) (.c (.int .i64 (.ofNat 1))), none⟩, ⟨(some 5), .mv (.t 14), none⟩])))))) (.seq (.reg [⟨(some 36), .mv (.t 4), none⟩, ⟨(some 2), .mv (.t 36), none⟩, ⟨(some 3), .mv (.c (.int .i64 (.ofNat 0))), none⟩]) .ret))))), [.t 2, .t 3]⟩
theorem za29 : cN Tryd.prog 29 = some c29 := by kernel_rfl
-- lightwell/lightwellref28.right
def c34 : AFn := ⟨54, (.seq (.reg [⟨(some 1), .box (.t 0), none⟩, ⟨(some 2), .mv (.c (.bool false)), none⟩]) (.seq (.reg [⟨(some 7), .fieldA 0 (.t 1), none⟩, ⟨(some 8), .load false 1 (.t 7), none⟩, ⟨(some 9), .call 44 [(.t 8)], none⟩, ⟨(some 3), .mv (.t 9), none⟩]) (.seq (.seq (.reg [⟨(some 4), .mv (.c (.int .i64 (.ofNat 0))), none⟩]) (.block 0 (.loop (.seq (.seq (.reg [⟨(some 10), .mv (.t 4), none⟩, ⟨(some 11), .fieldA 1 (.t 1), none⟩, ⟨(some 12), .load false 1 (.t 11), none⟩, ⟨(some 13), .len true (.t 12), none⟩, ⟨(some 14), .bin .lss (.t 10) (.t 13), none⟩]) (.cond (.t 14) .skip (.exit 0))) (.seq (.block 1 (.seq (.reg [⟨(some 17), .fieldA 1 (.t 1), none⟩, ⟨(some 18), .load false 1 (.t 17), none⟩, ⟨(some 19), .mv (.t 4), none⟩, ⟨(some 20), .idxS (.t 18) (.t 19), none⟩, ⟨(some 21), .bin .eql (.t 20) (.c (.int .u8 (.ofNat 10))), none⟩]) (.cond (.t 21) (.seq (.reg [⟨(some 2), .mv (.c (.bool false)), none⟩]) .ret) .skip))) (.reg [⟨(some 15), .mv (.t 4), none⟩, ⟨(some 16), .bin .add (.t 15) (.c (.int .i64 (.ofNat 1))), none⟩, ⟨(some 4), .mv (.t 16), none⟩])))))) (.seq (.reg [⟨(some 23), .fieldA 0 (.t 1), none⟩, ⟨(some 24), .load false 1 (.t 23), none⟩, ⟨(some 25), .bin .add (.t 24) (.c (.str [58])), none⟩, ⟨(some 26), .fieldA 1 (.t 1), none⟩, ⟨(some 27), .load false 1 (.t 26), none⟩, ⟨(some 28), .bin .add (.t 25) (.t 27), none⟩, ⟨(some 29), .call 45 [(.t 28)], none⟩, ⟨(some 22), .mv (.t 29), none⟩, ⟨(some 30), .extract 0 (.t 22), none⟩, ⟨(some 31), .extract 1 (.t 22), none⟩, ⟨(some 5), .new [(.str []), (.str [])], none⟩, ⟨none, .store 2 (.t 5) (.t 30), none⟩, ⟨(some 6), .mv (.t 31), none⟩]) (.seq (.reg [⟨(some 32), .mv (.t 6), none⟩, ⟨(some 33), .mv (.t 32), none⟩, ⟨(some 34), .fieldA 0 (.t 5), (some (33, true))⟩, ⟨(some 35), .load false 1 (.t 34), (some (33, true))⟩, ⟨(some 36), .mv (.t 3), (some (33, true))⟩, ⟨(some 37), .bin .eql (.t 35) (.t 36), (some (33, true))⟩, ⟨(some 38), .pick (.t 33) (.t 37) (.c (.bool false)), none⟩, ⟨(some 39), .mv (.t 38), none⟩, ⟨(some 40), .fieldA 1 (.t 5), (some (39, true))⟩, ⟨(some 41), .load false 1 (.t 40), (some (39, true))⟩, ⟨(some 42), .fieldA 1 (.t 1), (some (39, true))⟩, ⟨(some 43), .load false 1 (.t 42), (some (39, true))⟩, ⟨(some 44), .bin .eql (.t 41) (.t 43), (some (39, true))⟩, ⟨(some 45), .pick (.t 39) (.t 44) (.c (.bool false)), none⟩, ⟨(some 46), .mv (.t 45), none⟩, ⟨(some 47), .mv (.t 3), (some (46, true))⟩, ⟨(some 48), .bin .neq (.t 47) (.c (.str [99, 111, 110, 116, 101, 110, 116, 45, 108, 101, 110, 103, 116, 104])), (some (46, true))⟩, ⟨(some 49), .pick (.t 46) (.t 48) (.c (.bool false)), none⟩, ⟨(some 50), .mv (.t 49), none⟩, ⟨(some 51), .mv (.t 3), (some (50, true))⟩, ⟨(some 52), .bin .neq (.t 51) (.c (.str [116, 114, 97, 110, 115, 102, 101, 114, 45, 101, 110, 99, 111, 100, 105, 110, 103])), (some (50, true))⟩, ⟨(some 53), .pick (.t 50) (.t 52) (.c (.bool false)), none⟩, ⟨(some 2), .mv (.t 53), none⟩]) .ret))))), [.t 2]⟩
theorem za34 : cN Tryd.prog 34 = some c34 := by kernel_rfl
-- lightwell/lightwellref27.Lower
def c44 : AFn := ⟨20, (.seq (.reg [⟨(some 2), .mv (.c (.str [])), none⟩]) (.seq (.reg [⟨(some 3), .mv (.c (.slice none 0 (.known 0))), none⟩]) (.seq (.seq (.reg [⟨(some 4), .mv (.c (.int .i64 (.ofNat 0))), none⟩]) (.block 0 (.loop (.seq (.seq (.reg [⟨(some 5), .mv (.t 4), none⟩, ⟨(some 6), .mv (.t 0), none⟩, ⟨(some 7), .len true (.t 6), none⟩, ⟨(some 8), .bin .lss (.t 5) (.t 7), none⟩]) (.cond (.t 8) .skip (.exit 0))) (.seq (.block 1 (.reg [⟨(some 11), .mv (.t 3), none⟩, ⟨(some 12), .mv (.t 0), none⟩, ⟨(some 13), .mv (.t 4), none⟩, ⟨(some 14), .idxS (.t 12) (.t 13), none⟩, ⟨(some 15), .call 58 [(.t 14)], none⟩, ⟨(some 16), .buildSl 1 [(.int .u8 (.ofNat 0))] [(0, 1, (.t 15))], none⟩, ⟨(some 17), .append 1 1 (.t 11) (.t 16), none⟩, ⟨(some 3), .mv (.t 17), none⟩])) (.reg [⟨(some 9), .mv (.t 4), none⟩, ⟨(some 10), .bin .add (.t 9) (.c (.int .i64 (.ofNat 1))), none⟩, ⟨(some 4), .mv (.t 10), none⟩])))))) (.seq (.reg [⟨(some 18), .mv (.t 3), none⟩, ⟨(some 19), .convBS (.t 18), none⟩, ⟨(some 2), .mv (.t 19), none⟩]) .ret)))), [.t 2]⟩
theorem za44 : cN Tryd.prog 44 = some c44 := by kernel_rfl
-- lightwell/lightwellref27.Small
def c58 : AFn := ⟨12, (.seq (.reg [⟨(some 2), .mv (.c (.int .u8 (.ofNat 0))), none⟩]) (.seq (.seq (.reg [⟨(some 3), .mv (.t 0), none⟩, ⟨(some 4), .bin .geq (.t 3) (.c (.int .u8 (.ofNat 65))), none⟩, ⟨(some 5), .mv (.t 4), none⟩, ⟨(some 6), .mv (.t 0), (some (5, true))⟩, ⟨(some 7), .bin .leq (.t 6) (.c (.int .u8 (.ofNat 90))), (some (5, true))⟩, ⟨(some 8), .pick (.t 5) (.t 7) (.c (.bool false)), none⟩]) (.cond (.t 8) (.seq (.reg [⟨(some 9), .mv (.t 0), none⟩, ⟨(some 10), .bin .add (.t 9) (.c (.int .u8 (.ofNat 32))), none⟩, ⟨(some 2), .mv (.t 10), none⟩]) .ret) .skip)) (.seq (.reg [⟨(some 11), .mv (.t 0), none⟩, ⟨(some 2), .mv (.t 11), none⟩]) .ret))), [.t 2]⟩
theorem za58 : cN Tryd.prog 58 = some c58 := by kernel_rfl
-- lightwell/lightwellref27.Field
def c45 : AFn := ⟨39, (.seq (.reg [⟨(some 2), .new [(.str []), (.str [])], none⟩, ⟨(some 3), .mv (.c (.bool false)), none⟩]) (.seq (.reg [⟨(some 6), .mv (.t 0), none⟩, ⟨(some 7), .call 59 [(.t 6), (.c (.int .u8 (.ofNat 58)))], none⟩, ⟨(some 4), .mv (.t 7), none⟩]) (.seq (.seq (.reg [⟨(some 8), .mv (.t 4), none⟩, ⟨(some 9), .mv (.t 0), none⟩, ⟨(some 10), .len true (.t 9), none⟩, ⟨(some 11), .bin .eql (.t 8) (.t 10), none⟩, ⟨(some 12), .mv (.t 11), none⟩, ⟨(some 13), .mv (.t 0), (some (12, false))⟩, ⟨(some 14), .mv (.t 4), (some (12, false))⟩, ⟨(some 15), .slStr (.t 13) none (some (.t 14)), (some (12, false))⟩, ⟨(some 16), .call 60 [(.t 15), (.c (.int .i64 (.ofNat 1)))], (some (12, false))⟩, ⟨(some 17), .un .not (.t 16), (some (12, false))⟩, ⟨(some 18), .pick (.t 12) (.c (.bool true)) (.t 17), none⟩]) (.cond (.t 18) (.seq (.reg [⟨(some 19), .build [(.str []), (.str [])] [], none⟩, ⟨none, .store 2 (.t 2) (.t 19), none⟩, ⟨(some 3), .mv (.c (.bool false)), none⟩]) .ret) .skip)) (.seq (.reg [⟨(some 20), .mv (.t 0), none⟩, ⟨(some 21), .mv (.t 4), none⟩, ⟨(some 22), .bin .add (.t 21) (.c (.int .i64 (.ofNat 1))), none⟩, ⟨(some 23), .slStr (.t 20) (some (.t 22)) none, none⟩, ⟨(some 24), .call 61 [(.t 23)], none⟩, ⟨(some 5), .mv (.t 24), none⟩]) (.seq (.seq (.reg [⟨(some 25), .mv (.t 5), none⟩, ⟨(some 26), .bin .neq (.t 25) (.c (.str [])), none⟩, ⟨(some 27), .mv (.t 26), none⟩, ⟨(some 28), .mv (.t 5), (some (27, true))⟩, ⟨(some 29), .call 60 [(.t 28), (.c (.int .i64 (.ofNat 2)))], (some (27, true))⟩, ⟨(some 30), .un .not (.t 29), (some (27, true))⟩, ⟨(some 31), .pick (.t 27) (.t 30) (.c (.bool false)), none⟩]) (.cond (.t 31) (.seq (.reg [⟨(some 32), .build [(.str []), (.str [])] [], none⟩, ⟨none, .store 2 (.t 2) (.t 32), none⟩, ⟨(some 3), .mv (.c (.bool false)), none⟩]) .ret) .skip)) (.seq (.reg [⟨(some 33), .mv (.t 0), none⟩, ⟨(some 34), .mv (.t 4), none⟩, ⟨(some 35), .slStr (.t 33) none (some (.t 34)), none⟩, ⟨(some 36), .call 44 [(.t 35)], none⟩, ⟨(some 37), .mv (.t 5), none⟩, ⟨(some 38), .build [(.str []), (.str [])] [(0, 1, (.t 36)), (1, 1, (.t 37))], none⟩, ⟨none, .store 2 (.t 2) (.t 38), none⟩, ⟨(some 3), .mv (.c (.bool true)), none⟩]) .ret)))))), [.cell true 2 2, .t 3]⟩
theorem za45 : cN Tryd.prog 45 = some c45 := by kernel_rfl
-- lightwell/lightwellref27.find
def c59 : AFn := ⟨20, (.seq (.reg [⟨(some 4), .mv (.c (.int .i64 (.ofNat 0))), none⟩]) (.seq (.seq (.reg [⟨(some 5), .mv (.c (.int .i64 (.ofNat 0))), none⟩]) (.block 0 (.loop (.seq (.seq (.reg [⟨(some 6), .mv (.t 5), none⟩, ⟨(some 7), .mv (.t 0), none⟩, ⟨(some 8), .len true (.t 7), none⟩, ⟨(some 9), .bin .lss (.t 6) (.t 8), none⟩]) (.cond (.t 9) .skip (.exit 0))) (.seq (.block 1 (.seq (.reg [⟨(some 12), .mv (.t 0), none⟩, ⟨(some 13), .mv (.t 5), none⟩, ⟨(some 14), .idxS (.t 12) (.t 13), none⟩, ⟨(some 15), .mv (.t 1), none⟩, ⟨(some 16), .bin .eql (.t 14) (.t 15), none⟩]) (.cond (.t 16) (.seq (.reg [⟨(some 17), .mv (.t 5), none⟩, ⟨(some 4), .mv (.t 17), none⟩]) .ret) .skip))) (.reg [⟨(some 10), .mv (.t 5), none⟩, ⟨(some 11), .bin .add (.t 10) (.c (.int .i64 (.ofNat 1))), none⟩, ⟨(some 5), .mv (.t 11), none⟩])))))) (.seq (.reg [⟨(some 18), .mv (.t 0), none⟩, ⟨(some 19), .len true (.t 18), none⟩, ⟨(some 4), .mv (.t 19), none⟩]) .ret))), [.t 4]⟩
theorem za59 : cN Tryd.prog 59 = some c59 := by kernel_rfl
-- lightwell/lightwellref27.All
def c60 : AFn := ⟨66, (.seq (.reg [⟨(some 4), .mv (.c (.bool false)), none⟩]) (.seq (.seq (.reg [⟨(some 5), .mv (.c (.int .i64 (.ofNat 0))), none⟩]) (.block 0 (.loop (.seq (.seq (.reg [⟨(some 8), .mv (.t 5), none⟩, ⟨(some 9), .mv (.t 0), none⟩, ⟨(some 10), .len true (.t 9), none⟩, ⟨(some 11), .bin .lss (.t 8) (.t 10), none⟩]) (.cond (.t 11) .skip (.exit 0))) (.seq (.block 1 (.seq (.reg [⟨(some 14), .mv (.t 0), none⟩, ⟨(some 15), .mv (.t 5), none⟩, ⟨(some 16), .idxS (.t 14) (.t 15), none⟩, ⟨(some 6), .mv (.t 16), none⟩]) (.seq (.reg [⟨(some 17), .mv (.t 6), none⟩, ⟨(some 18), .call 72 [(.t 17)], none⟩, ⟨(some 7), .mv (.t 18), none⟩]) (.seq (.seq (.reg [⟨(some 19), .mv (.t 1), none⟩]) (.block 2 (.seq (.reg [⟨(some 21), .bin .eql (.t 19) (.c (.int .i64 (.ofNat 1))), none⟩, ⟨(some 20), .mv (.t 21), none⟩]) (.cond (.t 20) (.reg [⟨(some 22), .mv (.t 6), none⟩, ⟨(some 23), .call 73 [(.t 22)], none⟩, ⟨(some 7), .mv (.t 23), none⟩]) (.seq (.reg [⟨(some 25), .bin .eql (.t 19) (.c (.int .i64 (.ofNat 2))), none⟩, ⟨(some 24), .mv (.t 25), none⟩]) (.cond (.t 24) (.reg [⟨(some 26), .mv (.t 6), none⟩, ⟨(some 27), .bin .eql (.t 26) (.c (.int .u8 (.ofNat 9))), none⟩, ⟨(some 28), .mv (.t 27), none⟩, ⟨(some 29), .mv (.t 6), (some (28, false))⟩, ⟨(some 30), .bin .geq (.t 29) (.c (.int .u8 (.ofNat 32))), (some (28, false))⟩, ⟨(some 31), .mv (.t 30), (some (28, false))⟩, ⟨(some 32), .mv (.t 6), (some (31, true))⟩, ⟨(some 33), .bin .leq (.t 32) (.c (.int .u8 (.ofNat 126))), (some (31, true))⟩, ⟨(some 34), .pick (.t 31) (.t 33) (.c (.bool false)), (some (28, false))⟩, ⟨(some 35), .pick (.t 28) (.c (.bool true)) (.t 34), none⟩, ⟨(some 36), .mv (.t 35), none⟩, ⟨(some 37), .mv (.t 6), (some (36, false))⟩, ⟨(some 38), .bin .geq (.t 37) (.c (.int .u8 (.ofNat 128))), (some (36, false))⟩, ⟨(some 39), .pick (.t 36) (.c (.bool true)) (.t 38), none⟩, ⟨(some 7), .mv (.t 39), none⟩]) (.seq (.reg [⟨(some 41), .bin .eql (.t 19) (.c (.int .i64 (.ofNat 3))), none⟩, ⟨(some 40), .mv (.t 41), none⟩]) (.cond (.t 40) (.reg [⟨(some 42), .mv (.t 6), none⟩, ⟨(some 43), .bin .geq (.t 42) (.c (.int .u8 (.ofNat 33))), none⟩, ⟨(some 44), .mv (.t 43), none⟩, ⟨(some 45), .mv (.t 6), (some (44, true))⟩, ⟨(some 46), .bin .leq (.t 45) (.c (.int .u8 (.ofNat 126))), (some (44, true))⟩, ⟨(some 47), .pick (.t 44) (.t 46) (.c (.bool false)), none⟩, ⟨(some 7), .mv (.t 47), none⟩]) (.seq (.reg [⟨(some 49), .bin .eql (.t 19) (.c (.int .i64 (.ofNat 4))), none⟩, ⟨(some 48), .mv (.t 49), none⟩]) (.cond (.t 48) (.reg [⟨(some 50), .mv (.t 7), none⟩, ⟨(some 51), .mv (.t 50), none⟩, ⟨(some 52), .mv (.t 6), (some (51, false))⟩, ⟨(some 53), .call 58 [(.t 52)], (some (51, false))⟩, ⟨(some 54), .bin .geq (.t 53) (.c (.int .u8 (.ofNat 97))), (some (51, false))⟩, ⟨(some 55), .mv (.t 54), (some (51, false))⟩, ⟨(some 56), .mv (.t 6), (some (55, true))⟩, ⟨(some 57), .call 58 [(.t 56)], (some (55, true))⟩, ⟨(some 58), .bin .leq (.t 57) (.c (.int .u8 (.ofNat 102))), (some (55, true))⟩, ⟨(some 59), .pick (.t 55) (.t 58) (.c (.bool false)), (some (51, false))⟩, ⟨(some 60), .pick (.t 51) (.c (.bool true)) (.t 59), none⟩, ⟨(some 7), .mv (.t 60), none⟩]) .skip)))))))))) (.seq (.reg [⟨(some 61), .mv (.t 7), none⟩, ⟨(some 62), .un .not (.t 61), none⟩]) (.cond (.t 62) (.seq (.reg [⟨(some 4), .mv (.c (.bool false)), none⟩]) .ret) .skip)))))) (.reg [⟨(some 12), .mv (.t 5), none⟩, ⟨(some 13), .bin .add (.t 12) (.c (.int .i64 (.ofNat 1))), none⟩, ⟨(some 5), .mv (.t 13), none⟩])))))) (.seq (.reg [⟨(some 63), .mv (.t 0), none⟩, ⟨(some 64), .len true (.t 63), none⟩, ⟨(some 65), .bin .gtr (.t 64) (.c (.int .i64 (.ofNat 0))), none⟩, ⟨(some 4), .mv (.t 65), none⟩]) .ret))), [.t 4]⟩
theorem za60 : cN Tryd.prog 60 = some c60 := by kernel_rfl
-- lightwell/lightwellref27.digit
def c72 : AFn := ⟨9, (.seq (.reg [⟨(some 2), .mv (.c (.bool false)), none⟩]) (.seq (.reg [⟨(some 3), .mv (.t 0), none⟩, ⟨(some 4), .bin .geq (.t 3) (.c (.int .u8 (.ofNat 48))), none⟩, ⟨(some 5), .mv (.t 4), none⟩, ⟨(some 6), .mv (.t 0), (some (5, true))⟩, ⟨(some 7), .bin .leq (.t 6) (.c (.int .u8 (.ofNat 57))), (some (5, true))⟩, ⟨(some 8), .pick (.t 5) (.t 7) (.c (.bool false)), none⟩, ⟨(some 2), .mv (.t 8), none⟩]) .ret)), [.t 2]⟩
theorem za72 : cN Tryd.prog 72 = some c72 := by kernel_rfl
-- lightwell/lightwellref27.bare
def c61 : AFn := ⟨43, (.seq (.reg [⟨(some 2), .mv (.c (.str [])), none⟩]) (.seq (.block 0 (.loop (.seq (.seq (.reg [⟨(some 3), .mv (.t 0), none⟩, ⟨(some 4), .len true (.t 3), none⟩, ⟨(some 5), .bin .gtr (.t 4) (.c (.int .i64 (.ofNat 0))), none⟩, ⟨(some 6), .mv (.t 5), none⟩, ⟨(some 7), .mv (.t 0), (some (6, true))⟩, ⟨(some 8), .idxS (.t 7) (.c (.int .i64 (.ofNat 0))), (some (6, true))⟩, ⟨(some 9), .bin .eql (.t 8) (.c (.int .u8 (.ofNat 32))), (some (6, true))⟩, ⟨(some 10), .mv (.t 9), (some (6, true))⟩, ⟨(some 11), .mv (.t 0), (some (10, false))⟩, ⟨(some 12), .idxS (.t 11) (.c (.int .i64 (.ofNat 0))), (some (10, false))⟩, ⟨(some 13), .bin .eql (.t 12) (.c (.int .u8 (.ofNat 9))), (some (10, false))⟩, ⟨(some 14), .pick (.t 10) (.c (.bool true)) (.t 13), (some (6, true))⟩, ⟨(some 15), .pick (.t 6) (.t 14) (.c (.bool false)), none⟩]) (.cond (.t 15) .skip (.exit 0))) (.block 1 (.reg [⟨(some 16), .mv (.t 0), none⟩, ⟨(some 17), .slStr (.t 16) (some (.c (.int .i64 (.ofNat 1)))) none, none⟩, ⟨(some 0), .mv (.t 17), none⟩]))))) (.seq (.block 2 (.loop (.seq (.seq (.reg [⟨(some 18), .mv (.t 0), none⟩, ⟨(some 19), .len true (.t 18), none⟩, ⟨(some 20), .bin .gtr (.t 19) (.c (.int .i64 (.ofNat 0))), none⟩, ⟨(some 21), .mv (.t 20), none⟩, ⟨(some 22), .mv (.t 0), (some (21, true))⟩, ⟨(some 23), .mv (.t 0), (some (21, true))⟩, ⟨(some 24), .len true (.t 23), (some (21, true))⟩, ⟨(some 25), .bin .sub (.t 24) (.c (.int .i64 (.ofNat 1))), (some (21, true))⟩, ⟨(some 26), .idxS (.t 22) (.t 25), (some (21, true))⟩, ⟨(some 27), .bin .eql (.t 26) (.c (.int .u8 (.ofNat 32))), (some (21, true))⟩, ⟨(some 28), .mv (.t 27), (some (21, true))⟩, ⟨(some 29), .mv (.t 0), (some (28, false))⟩, ⟨(some 30), .mv (.t 0), (some (28, false))⟩, ⟨(some 31), .len true (.t 30), (some (28, false))⟩, ⟨(some 32), .bin .sub (.t 31) (.c (.int .i64 (.ofNat 1))), (some (28, false))⟩, ⟨(some 33), .idxS (.t 29) (.t 32), (some (28, false))⟩, ⟨(some 34), .bin .eql (.t 33) (.c (.int .u8 (.ofNat 9))), (some (28, false))⟩, ⟨(some 35), .pick (.t 28) (.c (.bool true)) (.t 34), (some (21, true))⟩, ⟨(some 36), .pick (.t 21) (.t 35) (.c (.bool false)), none⟩]) (.cond (.t 36) .skip (.exit 2))) (.block 3 (.reg [⟨(some 37), .mv (.t 0), none⟩, ⟨(some 38), .mv (.t 0), none⟩, ⟨(some 39), .len true (.t 38), none⟩, ⟨(some 40), .bin .sub (.t 39) (.c (.int .i64 (.ofNat 1))), none⟩, ⟨(some 41), .slStr (.t 37) none (some (.t 40)), none⟩, ⟨(some 0), .mv (.t 41), none⟩]))))) (.seq (.reg [⟨(some 42), .mv (.t 0), none⟩, ⟨(some 2), .mv (.t 42), none⟩]) .ret)))), [.t 2]⟩
theorem za61 : cN Tryd.prog 61 = some c61 := by kernel_rfl
-- lightwell/lightwellref28.Reason
def c8 : AFn := ⟨24, (.seq (.reg [⟨(some 2), .mv (.c (.str [])), none⟩]) (.seq (.reg [⟨(some 6), .buildSl 14 [(.int .i64 (.ofNat 0))] [(0, 1, (.c (.int .i64 (.ofNat 200)))), (1, 1, (.c (.int .i64 (.ofNat 201)))), (2, 1, (.c (.int .i64 (.ofNat 204)))), (3, 1, (.c (.int .i64 (.ofNat 400)))), (4, 1, (.c (.int .i64 (.ofNat 401)))), (5, 1, (.c (.int .i64 (.ofNat 404)))), (6, 1, (.c (.int .i64 (.ofNat 405)))), (7, 1, (.c (.int .i64 (.ofNat 409)))), (8, 1, (.c (.int .i64 (.ofNat 413)))), (9, 1, (.c (.int .i64 (.ofNat 422)))), (10, 1, (.c (.int .i64 (.ofNat 429)))), (11, 1, (.c (.int .i64 (.ofNat 500)))), (12, 1, (.c (.int .i64 (.ofNat 503)))), (13, 1, (.c (.int .i64 (.ofNat 507))))], none⟩, ⟨(some 3), .mv (.t 6), none⟩]) (.seq (.reg [⟨(some 7), .buildSl 14 [(.str [])] [(0, 1, (.c (.str [79, 75]))), (1, 1, (.c (.str [67, 114, 101, 97, 116, 101, 100]))), (2, 1, (.c (.str [78, 111, 32, 67, 111, 110, 116, 101, 110, 116]))), (3, 1, (.c (.str [66, 97, 100, 32, 82, 101, 113, 117, 101, 115, 116]))), (4, 1, (.c (.str [85, 110, 97, 117, 116, 104, 111, 114, 105, 122, 101, 100]))), (5, 1, (.c (.str [78, 111, 116, 32, 70, 111, 117, 110, 100]))), (6, 1, (.c (.str [77, 101, 116, 104, 111, 100, 32, 78, 111, 116, 32, 65, 108, 108, 111, 119, 101, 100]))), (7, 1, (.c (.str [67, 111, 110, 102, 108, 105, 99, 116]))), (8, 1, (.c (.str [67, 111, 110, 116, 101, 110, 116, 32, 84, 111, 111, 32, 76, 97, 114, 103, 101]))), (9, 1, (.c (.str [85, 110, 112, 114, 111, 99, 101, 115, 115, 97, 98, 108, 101, 32, 67, 111, 110, 116, 101, 110, 116]))), (10, 1, (.c (.str [84, 111, 111, 32, 77, 97, 110, 121, 32, 82, 101, 113, 117, 101, 115, 116, 115]))), (11, 1, (.c (.str [73, 110, 116, 101, 114, 110, 97, 108, 32, 83, 101, 114, 118, 101, 114, 32, 69, 114, 114, 111, 114]))), (12, 1, (.c (.str [83, 101, 114, 118, 105, 99, 101, 32, 85, 110, 97, 118, 97, 105, 108, 97, 98, 108, 101]))), (13, 1, (.c (.str [73, 110, 115, 117, 102, 102, 105, 99, 105, 101, 110, 116, 32, 83, 116, 111, 114, 97, 103, 101])))], none⟩, ⟨(some 4), .mv (.t 7), none⟩]) (.seq (.seq (.reg [⟨(some 5), .mv (.c (.int .i64 (.ofNat 0))), none⟩]) (.block 0 (.loop (.seq (.seq (.reg [⟨(some 8), .mv (.t 5), none⟩, ⟨(some 9), .mv (.t 3), none⟩, ⟨(some 10), .len false (.t 9), none⟩, ⟨(some 11), .bin .lss (.t 8) (.t 10), none⟩]) (.cond (.t 11) .skip (.exit 0))) (.seq (.block 1 (.seq (.reg [⟨(some 14), .mv (.t 3), none⟩, ⟨(some 15), .mv (.t 5), none⟩, ⟨(some 16), .idxA 1 (.t 14) (.t 15), none⟩, ⟨(some 17), .load false 1 (.t 16), none⟩, ⟨(some 18), .mv (.t 0), none⟩, ⟨(some 19), .bin .eql (.t 17) (.t 18), none⟩]) (.cond (.t 19) (.seq (.reg [⟨(some 20), .mv (.t 4), none⟩, ⟨(some 21), .mv (.t 5), none⟩, ⟨(some 22), .idxA 1 (.t 20) (.t 21), none⟩, ⟨(some 23), .load false 1 (.t 22), none⟩, ⟨(some 2), .mv (.t 23), none⟩]) .ret) .skip))) (.reg [⟨(some 12), .mv (.t 5), none⟩, ⟨(some 13), .bin .add (.t 12) (.c (.int .i64 (.ofNat 1))), none⟩, ⟨(some 5), .mv (.t 13), none⟩])))))) (.seq (.reg [⟨(some 2), .mv (.c (.str [])), none⟩]) .ret))))), [.t 2]⟩
theorem za8 : cN Tryd.prog 8 = some c8 := by kernel_rfl
-- lightwell/reply.Begin
def c5 : AFn := ⟨20, (.seq (.reg [⟨(some 4), .mv (.c (.slice none 0 (.known 0))), none⟩, ⟨(some 5), .mv (.c (.int .i64 (.ofNat 0))), none⟩]) (.seq (.reg [⟨(some 9), .mv (.t 0), none⟩, ⟨(some 10), .mv (.t 1), none⟩, ⟨(some 11), .call 21 [(.t 9), (.t 10)], none⟩, ⟨(some 8), .mv (.t 11), none⟩, ⟨(some 12), .extract 0 (.t 8), none⟩, ⟨(some 13), .extract 1 (.t 8), none⟩, ⟨(some 6), .mv (.t 12), none⟩, ⟨(some 7), .mv (.t 13), none⟩]) (.seq (.seq (.reg [⟨(some 14), .mv (.t 7), none⟩, ⟨(some 15), .bin .neq (.t 14) (.c (.int .i64 (.ofNat 0))), none⟩]) (.cond (.t 15) (.seq (.reg [⟨(some 16), .mv (.t 7), none⟩, ⟨(some 4), .mv (.c (.slice none 0 (.known 0))), none⟩, ⟨(some 5), .mv (.t 16), none⟩]) .ret) .skip)) (.seq (.reg [⟨(some 17), .mv (.t 6), none⟩, ⟨(some 18), .buildSl 2 [(.str [])] [(0, 1, (.c (.str [84, 114, 97, 110, 115, 102, 101, 114, 45, 69, 110, 99, 111, 100, 105, 110, 103, 58, 32, 99, 104, 117, 110, 107, 101, 100]))), (1, 1, (.c (.str [])))], none⟩, ⟨(some 19), .call 22 [(.t 17), (.t 18)], none⟩, ⟨(some 4), .mv (.t 19), none⟩, ⟨(some 5), .mv (.c (.int .i64 (.ofNat 0))), none⟩]) .ret)))), [.t 4, .t 5]⟩
theorem za5 : cN Tryd.prog 5 = some c5 := by kernel_rfl
-- lightwell/lightwellref28.Begin
def c6 : AFn := ⟨20, (.seq (.reg [⟨(some 4), .mv (.c (.slice none 0 (.known 0))), none⟩, ⟨(some 5), .mv (.c (.int .i64 (.ofNat 0))), none⟩]) (.seq (.reg [⟨(some 9), .mv (.t 0), none⟩, ⟨(some 10), .mv (.t 1), none⟩, ⟨(some 11), .call 23 [(.t 9), (.t 10)], none⟩, ⟨(some 8), .mv (.t 11), none⟩, ⟨(some 12), .extract 0 (.t 8), none⟩, ⟨(some 13), .extract 1 (.t 8), none⟩, ⟨(some 6), .mv (.t 12), none⟩, ⟨(some 7), .mv (.t 13), none⟩]) (.seq (.seq (.reg [⟨(some 14), .mv (.t 7), none⟩, ⟨(some 15), .bin .neq (.t 14) (.c (.int .i64 (.ofNat 0))), none⟩]) (.cond (.t 15) (.seq (.reg [⟨(some 16), .mv (.t 7), none⟩, ⟨(some 4), .mv (.c (.slice none 0 (.known 0))), none⟩, ⟨(some 5), .mv (.t 16), none⟩]) .ret) .skip)) (.seq (.reg [⟨(some 17), .mv (.t 6), none⟩, ⟨(some 18), .bin .add (.t 17) (.c (.str [84, 114, 97, 110, 115, 102, 101, 114, 45, 69, 110, 99, 111, 100, 105, 110, 103, 58, 32, 99, 104, 117, 110, 107, 101, 100, 13, 10, 13, 10])), none⟩, ⟨(some 19), .convSB (.t 18), none⟩, ⟨(some 4), .mv (.t 19), none⟩, ⟨(some 5), .mv (.c (.int .i64 (.ofNat 0))), none⟩]) .ret)))), [.t 4, .t 5]⟩
theorem za6 : cN Tryd.prog 6 = some c6 := by kernel_rfl
-- lightwell/lightwellref28.End
def c19 : AFn := ⟨18, (.seq (.reg [⟨(some 2), .mv (.c (.slice none 0 (.known 0))), none⟩, ⟨(some 3), .mv (.c (.int .i64 (.ofNat 0))), none⟩]) (.seq (.reg [⟨(some 7), .mv (.t 0), none⟩, ⟨(some 8), .call 29 [(.t 7)], none⟩, ⟨(some 6), .mv (.t 8), none⟩, ⟨(some 9), .extract 0 (.t 6), none⟩, ⟨(some 10), .extract 1 (.t 6), none⟩, ⟨(some 4), .mv (.t 9), none⟩, ⟨(some 5), .mv (.t 10), none⟩]) (.seq (.seq (.reg [⟨(some 11), .mv (.t 5), none⟩, ⟨(some 12), .bin .neq (.t 11) (.c (.int .i64 (.ofNat 0))), none⟩]) (.cond (.t 12) (.seq (.reg [⟨(some 13), .mv (.t 5), none⟩, ⟨(some 2), .mv (.c (.slice none 0 (.known 0))), none⟩, ⟨(some 3), .mv (.t 13), none⟩]) .ret) .skip)) (.seq (.reg [⟨(some 14), .mv (.t 4), none⟩, ⟨(some 15), .bin .add (.c (.str [48, 13, 10])) (.t 14), none⟩, ⟨(some 16), .bin .add (.t 15) (.c (.str [13, 10])), none⟩, ⟨(some 17), .convSB (.t 16), none⟩, ⟨(some 2), .mv (.t 17), none⟩, ⟨(some 3), .mv (.c (.int .i64 (.ofNat 0))), none⟩]) .ret)))), [.t 2, .t 3]⟩
theorem za19 : cN Tryd.prog 19 = some c19 := by kernel_rfl
-- lightwell/lightwelllow.SameBytes
def c9 : AFn := ⟨10, (.seq (.reg [⟨(some 4), .mv (.c (.bool false)), none⟩]) (.seq (.reg [⟨(some 5), .mv (.t 0), none⟩, ⟨(some 6), .convBS (.t 5), none⟩, ⟨(some 7), .mv (.t 1), none⟩, ⟨(some 8), .convBS (.t 7), none⟩, ⟨(some 9), .bin .eql (.t 6) (.t 8), none⟩, ⟨(some 4), .mv (.t 9), none⟩]) .ret)), [.t 4]⟩
theorem za9 : cN Tryd.prog 9 = some c9 := by kernel_rfl
-- lightwell/lightwellref28.Chunk
def c20 : AFn := ⟨22, (.seq (.reg [⟨(some 2), .mv (.c (.slice none 0 (.known 0))), none⟩]) (.seq (.reg [⟨(some 3), .mv (.c (.slice none 0 (.known 0))), none⟩]) (.seq (.seq (.reg [⟨(some 4), .mv (.t 0), none⟩, ⟨(some 5), .len false (.t 4), none⟩, ⟨(some 6), .bin .gtr (.t 5) (.c (.int .i64 (.ofNat 0))), none⟩]) (.cond (.t 6) (.seq (.reg [⟨(some 7), .mv (.t 3), none⟩, ⟨(some 8), .mv (.t 0), none⟩, ⟨(some 9), .len false (.t 8), none⟩, ⟨(some 10), .call 28 [(.t 9), (.c (.int .i64 (.ofNat 16)))], none⟩, ⟨(some 11), .append 1 1 (.t 7) (.t 10), none⟩, ⟨(some 3), .mv (.t 11), none⟩]) (.seq (.reg [⟨(some 12), .mv (.t 3), none⟩, ⟨(some 13), .buildSl 2 [(.int .u8 (.ofNat 0))] [(0, 1, (.c (.int .u8 (.ofNat 13)))), (1, 1, (.c (.int .u8 (.ofNat 10))))], none⟩, ⟨(some 14), .append 1 1 (.t 12) (.t 13), none⟩, ⟨(some 3), .mv (.t 14), none⟩]) (.seq (.reg [⟨(some 15), .mv (.t 3), none⟩, ⟨(some 16), .mv (.t 0), none⟩, ⟨(some 17), .append 1 1 (.t 15) (.t 16), none⟩, ⟨(some 3), .mv (.t 17), none⟩]) (.reg [⟨(some 18), .mv (.t 3), none⟩, ⟨(some 19), .buildSl 2 [(.int .u8 (.ofNat 0))] [(0, 1, (.c (.int .u8 (.ofNat 13)))), (1, 1, (.c (.int .u8 (.ofNat 10))))], none⟩, ⟨(some 20), .append 1 1 (.t 18) (.t 19), none⟩, ⟨(some 3), .mv (.t 20), none⟩])))) .skip)) (.seq (.reg [⟨(some 21), .mv (.t 3), none⟩, ⟨(some 2), .mv (.t 21), none⟩]) .ret)))), [.t 2]⟩
theorem za20 : cN Tryd.prog 20 = some c20 := by kernel_rfl
end
end Go.Proofs.Re
/-
  DERIVED: THE SHELF's CONTRACTS AT THIS DUMP, IN PLAIN WORDS (tools/lay-plain.mjs out of 'XxRShelf.lean', which tools/lay-shelf.mjs wrote): THE SAME DECLARATIONS UNDER THE SAME NAMES: 'import', 'namespace', 'open', 'def', 'theorem' AND NOTHING ELSE: no command of the shelf's: FOR A HAND-IN. Each laying: the table of numbers ('.._ren') and one theorem, a field a fact of the dump's own or the kernel's comparison; each contract: ONE APPLICATION.
-/
namespace Go.Proofs
open Go.Shelf
def Tryd.lays159_ren : Go.Shelf.Ren := ⟨fun | 159 => 37 | 165 => 47 | 166 => 48 | 167 => 49 | 169 => 50 | 230 => 51 | 204 => 52 | 240 => 63 | 241 => 64 | 197 => 65 | 118 => 66 | 168 => 67 | 270 => 68 | 262 => 69 | 276 => 75 | 277 => 76 | 260 => 77 | 242 => 78 | 313 => 79 | 278 => 80 | 274 => 81 | 275 => 82 | n => n, fun | 9 => 9 | 4 => 4 | 3 => 3 | 5 => 5 | 72 => 67 | 0 => 0 | 76 => 71 | 75 => 70 | 107 => 76 | 70 => 65 | 20 => 20 | 37 => 22 | 127 => 87 | 21 => 21 | 105 => 88 | 164 => 95 | 162 => 101 | 203 => 99 | 119 => 104 | 46 => 83 | 139 => 107 | 138 => 106 | 51 => 80 | 160 => 108 | 208 => 114 | 206 => 112 | 80 => 74 | n => n, fun | 13 => 1 | 3 => 5 | 4 => 6 | n => n⟩
theorem Tryd.lays159 : Go.Proofs.Lays.n159 Tryd.prog Tryd.lays159_ren := {
  mixed := by kernel_rfl
  f118 := Tryd.func66.trans (congrArg some (by kernel_rfl))
  f159 := Tryd.func37.trans (congrArg some (by kernel_rfl))
  f165 := Tryd.func47.trans (congrArg some (by kernel_rfl))
  f166 := Tryd.func48.trans (congrArg some (by kernel_rfl))
  f167 := Tryd.func49.trans (congrArg some (by kernel_rfl))
  f168 := Tryd.func67.trans (congrArg some (by kernel_rfl))
  f169 := Tryd.func50.trans (congrArg some (by kernel_rfl))
  f197 := Tryd.func65.trans (congrArg some (by kernel_rfl))
  f204 := Tryd.func52.trans (congrArg some (by kernel_rfl))
  f230 := Tryd.func51.trans (congrArg some (by kernel_rfl))
  f240 := Tryd.func63.trans (congrArg some (by kernel_rfl))
  f241 := Tryd.func64.trans (congrArg some (by kernel_rfl))
  f242 := Tryd.func78.trans (congrArg some (by kernel_rfl))
  f260 := Tryd.func77.trans (congrArg some (by kernel_rfl))
  f262 := Tryd.func69.trans (congrArg some (by kernel_rfl))
  f270 := Tryd.func68.trans (congrArg some (by kernel_rfl))
  f274 := Tryd.func81.trans (congrArg some (by kernel_rfl))
  f275 := Tryd.func82.trans (congrArg some (by kernel_rfl))
  f276 := Tryd.func75.trans (congrArg some (by kernel_rfl))
  f277 := Tryd.func76.trans (congrArg some (by kernel_rfl))
  f278 := Tryd.func80.trans (congrArg some (by kernel_rfl))
  f313 := Tryd.func79.trans (congrArg some (by kernel_rfl))
  t0 := Tryd.underlying0
  a0 := Tryd.isAgg0
  z0 := Tryd.sizeOf0
  v0 := Tryd.zeroValue0
  t3 := Tryd.underlying3
  a3 := Tryd.isAgg3
  z3 := Tryd.sizeOf3
  v3 := Tryd.zeroValue3
  t4 := Tryd.underlying4
  a4 := Tryd.isAgg4
  z4 := Tryd.sizeOf4
  v4 := Tryd.zeroValue4
  t5 := Tryd.underlying5
  a5 := Tryd.isAgg5
  z5 := Tryd.sizeOf5
  v5 := Tryd.zeroValue5
  t9 := Tryd.underlying9
  a9 := Tryd.isAgg9
  z9 := Tryd.sizeOf9
  v9 := Tryd.zeroValue9
  t20 := Tryd.underlying20
  a20 := Tryd.isAgg20
  z20 := Tryd.sizeOf20
  v20 := Tryd.zeroValue20
  t21 := Tryd.underlying21
  a21 := Tryd.isAgg21
  z21 := Tryd.sizeOf21
  v21 := Tryd.zeroValue21
  t37 := Tryd.underlying22
  a37 := Tryd.isAgg22
  z37 := Tryd.sizeOf22
  v37 := Tryd.zeroValue22
  t46 := Tryd.underlying83
  a46 := Tryd.isAgg83
  z46 := Tryd.sizeOf83
  v46 := Tryd.zeroValue83
  t51 := Tryd.underlying80
  a51 := Tryd.isAgg80
  z51 := Tryd.sizeOf80
  v51 := Tryd.zeroValue80
  t70 := Tryd.underlying65
  a70 := Tryd.isAgg65
  z70 := Tryd.sizeOf65
  v70 := Tryd.zeroValue65
  t72 := Tryd.underlying67
  a72 := Tryd.isAgg67
  z72 := Tryd.sizeOf67
  v72 := Tryd.zeroValue67
  t75 := Tryd.underlying70
  a75 := Tryd.isAgg70
  z75 := Tryd.sizeOf70
  v75 := Tryd.zeroValue70
  t76 := Tryd.underlying71
  a76 := Tryd.isAgg71
  z76 := Tryd.sizeOf71
  v76 := Tryd.zeroValue71
  t105 := Tryd.underlying88
  a105 := Tryd.isAgg88
  z105 := Tryd.sizeOf88
  v105 := Tryd.zeroValue88
  t107 := Tryd.underlying76
  a107 := Tryd.isAgg76
  z107 := Tryd.sizeOf76
  v107 := Tryd.zeroValue76
  t119 := Tryd.underlying104
  a119 := Tryd.isAgg104
  z119 := Tryd.sizeOf104
  t127 := Tryd.underlying87
  a127 := Tryd.isAgg87
  z127 := Tryd.sizeOf87
  v127 := Tryd.zeroValue87
  t138 := Tryd.underlying106
  a138 := Tryd.isAgg106
  z138 := Tryd.sizeOf106
  v138 := Tryd.zeroValue106
  t139 := Tryd.underlying107
  a139 := Tryd.isAgg107
  z139 := Tryd.sizeOf107
  v139 := Tryd.zeroValue107
  t160 := Tryd.underlying108
  a160 := Tryd.isAgg108
  z160 := Tryd.sizeOf108
  v160 := Tryd.zeroValue108
  t162 := Tryd.underlying101
  a162 := Tryd.isAgg101
  z162 := Tryd.sizeOf101
  v162 := Tryd.zeroValue101
  t164 := Tryd.underlying95
  a164 := Tryd.isAgg95
  z164 := Tryd.sizeOf95
  v164 := Tryd.zeroValue95
  t203 := Tryd.underlying99
  a203 := Tryd.isAgg99
  z203 := Tryd.sizeOf99
  v203 := Tryd.zeroValue99
  t206 := Tryd.underlying112
  a206 := Tryd.isAgg112
  z206 := Tryd.sizeOf112
  v206 := Tryd.zeroValue112
  t208 := Tryd.underlying114
  a208 := Tryd.isAgg114
  z208 := Tryd.sizeOf114
  v208 := Tryd.zeroValue114
  g3 := by kernel_rfl
  g4 := by kernel_rfl
  g13 := by kernel_rfl }
theorem Tryd.Builder_Extra_159 : Builder.Extra Tryd.prog Tryd.lays159_ren := {
  sizeBuilder := by kernel_rfl
  liesBuilder := by kernel_rfl
  t5 := Tryd.underlying5
  a5 := Tryd.isAgg5
  z5 := Tryd.sizeOf5
  v5 := Tryd.zeroValue5
  infoByte := by kernel_rfl
  cellsByte := by kernel_rfl
  sizeByte := by kernel_rfl
  neB5 := by decide }
open Go.RowKit in
/-- strings.ToLower: "ToLower returns s with all Unicode letters mapped to their lower case.": ON ASCII TEXT OF AT MOST 2^47 BYTES. Below the heap's end the world is as it was: where a letter turns, the call makes a builder and its buffer. (LAID: no walk: one application.) -/
theorem Tryd.strings_ToLower_ascii (s : ByteArray) (w : World) (hs : s.size ≤ 140737488355328) (hascii : ∀ (j : Nat) (b : UInt8), s.data.toList[j]? = some b → b.toNat < 128) :
    Calls Tryd.prog 37 #[.string s] w fun e w' => e = .returned (.string ⟨(Lib.toLowerA s.data.toList).toArray⟩) ∧ Below w.heap.size w w' := Any.strings_ToLower_ascii Tryd.lays159 Tryd.Builder_Extra_159 s w hs hascii
end Go.Proofs
/- The fast machine, part 1: frames of 256 places, results, and forcing; each reading and each setting is a few steps of the kernel. Plain Lean. -/
namespace Go.Abs.F
open Go.Abs
noncomputable section

structure F8 where
  (a0 a1 a2 a3 a4 a5 a6 a7 : AVal)
structure F64 where
  (b0 b1 b2 b3 b4 b5 b6 b7 : F8)
structure Fr where
  (c0 c1 c2 c3 : F64)
/-- eight of a kind -/
structure N8 (α : Type) where
  (a0 a1 a2 a3 a4 a5 a6 a7 : α)
def Nd (α : Type) : Nat → Type := @Nat.rec (fun _ => Type) α (fun _ t => N8 t)
structure Cs where
  d : Nat
  t : Nd AVal d
inductive FObj where
  | cells (t : Cs) (n low : Nat) (ro : Bool)
  | map (es : List (AVal × AVal × Nat)) (clock : Nat)
  | iter (s : List UInt8) (pos : Nat)
structure FHeap where
  next : Nat
  tr : Nd (Option FObj) 5
/-- how a run ends: as asked; or: not known -/
inductive R where
  | yes
  | no
  | val (v : AVal) (h : FHeap)
/-- a reading, a setting, found -/
structure GW (T β : Type) where
  g : T → (β → R) → R
structure SW (T β : Type) where
  s : β → T → (T → R) → R
abbrev Kn := Fr → FHeap → R
/-- what a piece of code is given: fuel, calls -/
structure E where
  n : Nat
  call : FuncId → List AVal → FHeap → (AVal → FHeap → R) → R
abbrev GV := Fr → (AVal → R) → R
abbrev SV := AVal → Fr → (Fr → R) → R
abbrev K := E → Fr → FHeap → Kn → List Kn → R

def l0 (t : F8) (k : AVal → R) : R := @F8.rec (fun _ => R) (fun x _ _ _ _ _ _ _ => k x) t
def l1 (t : F8) (k : AVal → R) : R := @F8.rec (fun _ => R) (fun _ x _ _ _ _ _ _ => k x) t
def l2 (t : F8) (k : AVal → R) : R := @F8.rec (fun _ => R) (fun _ _ x _ _ _ _ _ => k x) t
def l3 (t : F8) (k : AVal → R) : R := @F8.rec (fun _ => R) (fun _ _ _ x _ _ _ _ => k x) t
def l4 (t : F8) (k : AVal → R) : R := @F8.rec (fun _ => R) (fun _ _ _ _ x _ _ _ => k x) t
def l5 (t : F8) (k : AVal → R) : R := @F8.rec (fun _ => R) (fun _ _ _ _ _ x _ _ => k x) t
def l6 (t : F8) (k : AVal → R) : R := @F8.rec (fun _ => R) (fun _ _ _ _ _ _ x _ => k x) t
def l7 (t : F8) (k : AVal → R) : R := @F8.rec (fun _ => R) (fun _ _ _ _ _ _ _ x => k x) t
def m0 (g : F8 → (AVal → R) → R) (t : F64) (k : AVal → R) : R := @F64.rec (fun _ => R) (fun x _ _ _ _ _ _ _ => g x k) t
def m1 (g : F8 → (AVal → R) → R) (t : F64) (k : AVal → R) : R := @F64.rec (fun _ => R) (fun _ x _ _ _ _ _ _ => g x k) t
def m2 (g : F8 → (AVal → R) → R) (t : F64) (k : AVal → R) : R := @F64.rec (fun _ => R) (fun _ _ x _ _ _ _ _ => g x k) t
def m3 (g : F8 → (AVal → R) → R) (t : F64) (k : AVal → R) : R := @F64.rec (fun _ => R) (fun _ _ _ x _ _ _ _ => g x k) t
def m4 (g : F8 → (AVal → R) → R) (t : F64) (k : AVal → R) : R := @F64.rec (fun _ => R) (fun _ _ _ _ x _ _ _ => g x k) t
def m5 (g : F8 → (AVal → R) → R) (t : F64) (k : AVal → R) : R := @F64.rec (fun _ => R) (fun _ _ _ _ _ x _ _ => g x k) t
def m6 (g : F8 → (AVal → R) → R) (t : F64) (k : AVal → R) : R := @F64.rec (fun _ => R) (fun _ _ _ _ _ _ x _ => g x k) t
def m7 (g : F8 → (AVal → R) → R) (t : F64) (k : AVal → R) : R := @F64.rec (fun _ => R) (fun _ _ _ _ _ _ _ x => g x k) t
def t0 (g : F64 → (AVal → R) → R) (t : Fr) (k : AVal → R) : R := @Fr.rec (fun _ => R) (fun x _ _ _ => g x k) t
def t1 (g : F64 → (AVal → R) → R) (t : Fr) (k : AVal → R) : R := @Fr.rec (fun _ => R) (fun _ x _ _ => g x k) t
def t2 (g : F64 → (AVal → R) → R) (t : Fr) (k : AVal → R) : R := @Fr.rec (fun _ => R) (fun _ _ x _ => g x k) t
def t3 (g : F64 → (AVal → R) → R) (t : Fr) (k : AVal → R) : R := @Fr.rec (fun _ => R) (fun _ _ _ x => g x k) t
def sl0 (v : AVal) (t : F8) (k : F8 → R) : R := @F8.rec (fun _ => R) (fun _ a1 a2 a3 a4 a5 a6 a7 => k (.mk v a1 a2 a3 a4 a5 a6 a7)) t
def sl1 (v : AVal) (t : F8) (k : F8 → R) : R := @F8.rec (fun _ => R) (fun a0 _ a2 a3 a4 a5 a6 a7 => k (.mk a0 v a2 a3 a4 a5 a6 a7)) t
def sl2 (v : AVal) (t : F8) (k : F8 → R) : R := @F8.rec (fun _ => R) (fun a0 a1 _ a3 a4 a5 a6 a7 => k (.mk a0 a1 v a3 a4 a5 a6 a7)) t
def sl3 (v : AVal) (t : F8) (k : F8 → R) : R := @F8.rec (fun _ => R) (fun a0 a1 a2 _ a4 a5 a6 a7 => k (.mk a0 a1 a2 v a4 a5 a6 a7)) t
def sl4 (v : AVal) (t : F8) (k : F8 → R) : R := @F8.rec (fun _ => R) (fun a0 a1 a2 a3 _ a5 a6 a7 => k (.mk a0 a1 a2 a3 v a5 a6 a7)) t
def sl5 (v : AVal) (t : F8) (k : F8 → R) : R := @F8.rec (fun _ => R) (fun a0 a1 a2 a3 a4 _ a6 a7 => k (.mk a0 a1 a2 a3 a4 v a6 a7)) t
def sl6 (v : AVal) (t : F8) (k : F8 → R) : R := @F8.rec (fun _ => R) (fun a0 a1 a2 a3 a4 a5 _ a7 => k (.mk a0 a1 a2 a3 a4 a5 v a7)) t
def sl7 (v : AVal) (t : F8) (k : F8 → R) : R := @F8.rec (fun _ => R) (fun a0 a1 a2 a3 a4 a5 a6 _ => k (.mk a0 a1 a2 a3 a4 a5 a6 v)) t
def sm0 (s : AVal → F8 → (F8 → R) → R) (v : AVal) (t : F64) (k : F64 → R) : R := @F64.rec (fun _ => R) (fun b0 b1 b2 b3 b4 b5 b6 b7 => s v b0 fun x => k (.mk x b1 b2 b3 b4 b5 b6 b7)) t
def sm1 (s : AVal → F8 → (F8 → R) → R) (v : AVal) (t : F64) (k : F64 → R) : R := @F64.rec (fun _ => R) (fun b0 b1 b2 b3 b4 b5 b6 b7 => s v b1 fun x => k (.mk b0 x b2 b3 b4 b5 b6 b7)) t
def sm2 (s : AVal → F8 → (F8 → R) → R) (v : AVal) (t : F64) (k : F64 → R) : R := @F64.rec (fun _ => R) (fun b0 b1 b2 b3 b4 b5 b6 b7 => s v b2 fun x => k (.mk b0 b1 x b3 b4 b5 b6 b7)) t
def sm3 (s : AVal → F8 → (F8 → R) → R) (v : AVal) (t : F64) (k : F64 → R) : R := @F64.rec (fun _ => R) (fun b0 b1 b2 b3 b4 b5 b6 b7 => s v b3 fun x => k (.mk b0 b1 b2 x b4 b5 b6 b7)) t
def sm4 (s : AVal → F8 → (F8 → R) → R) (v : AVal) (t : F64) (k : F64 → R) : R := @F64.rec (fun _ => R) (fun b0 b1 b2 b3 b4 b5 b6 b7 => s v b4 fun x => k (.mk b0 b1 b2 b3 x b5 b6 b7)) t
def sm5 (s : AVal → F8 → (F8 → R) → R) (v : AVal) (t : F64) (k : F64 → R) : R := @F64.rec (fun _ => R) (fun b0 b1 b2 b3 b4 b5 b6 b7 => s v b5 fun x => k (.mk b0 b1 b2 b3 b4 x b6 b7)) t
def sm6 (s : AVal → F8 → (F8 → R) → R) (v : AVal) (t : F64) (k : F64 → R) : R := @F64.rec (fun _ => R) (fun b0 b1 b2 b3 b4 b5 b6 b7 => s v b6 fun x => k (.mk b0 b1 b2 b3 b4 b5 x b7)) t
def sm7 (s : AVal → F8 → (F8 → R) → R) (v : AVal) (t : F64) (k : F64 → R) : R := @F64.rec (fun _ => R) (fun b0 b1 b2 b3 b4 b5 b6 b7 => s v b7 fun x => k (.mk b0 b1 b2 b3 b4 b5 b6 x)) t
def st0 (s : AVal → F64 → (F64 → R) → R) (v : AVal) (t : Fr) (k : Fr → R) : R := @Fr.rec (fun _ => R) (fun c0 c1 c2 c3 => s v c0 fun x => k (.mk x c1 c2 c3)) t
def st1 (s : AVal → F64 → (F64 → R) → R) (v : AVal) (t : Fr) (k : Fr → R) : R := @Fr.rec (fun _ => R) (fun c0 c1 c2 c3 => s v c1 fun x => k (.mk c0 x c2 c3)) t
def st2 (s : AVal → F64 → (F64 → R) → R) (v : AVal) (t : Fr) (k : Fr → R) : R := @Fr.rec (fun _ => R) (fun c0 c1 c2 c3 => s v c2 fun x => k (.mk c0 c1 x c3)) t
def st3 (s : AVal → F64 → (F64 → R) → R) (v : AVal) (t : Fr) (k : Fr → R) : R := @Fr.rec (fun _ => R) (fun c0 c1 c2 c3 => s v c3 fun x => k (.mk c0 c1 c2 x)) t
def lo (i : Nat) : F8 → (AVal → R) → R := match i with | 0 => l0 | 1 => l1 | 2 => l2 | 3 => l3 | 4 => l4 | 5 => l5 | 6 => l6 | _ => l7
def mi (i : Nat) : (F8 → (AVal → R) → R) → F64 → (AVal → R) → R := match i with | 0 => m0 | 1 => m1 | 2 => m2 | 3 => m3 | 4 => m4 | 5 => m5 | 6 => m6 | _ => m7
def to (i : Nat) : (F64 → (AVal → R) → R) → GV := match i with | 0 => t0 | 1 => t1 | 2 => t2 | _ => t3
def slo (i : Nat) : AVal → F8 → (F8 → R) → R := match i with | 0 => sl0 | 1 => sl1 | 2 => sl2 | 3 => sl3 | 4 => sl4 | 5 => sl5 | 6 => sl6 | _ => sl7
def smi (i : Nat) : (AVal → F8 → (F8 → R) → R) → AVal → F64 → (F64 → R) → R := match i with | 0 => sm0 | 1 => sm1 | 2 => sm2 | 3 => sm3 | 4 => sm4 | 5 => sm5 | 6 => sm6 | _ => sm7
def sto (i : Nat) : (AVal → F64 → (F64 → R) → R) → SV := match i with | 0 => st0 | 1 => st1 | 2 => st2 | _ => st3
def F8.at (x : F8) (i : Nat) : AVal := match i with | 0 => x.a0 | 1 => x.a1 | 2 => x.a2 | 3 => x.a3 | 4 => x.a4 | 5 => x.a5 | 6 => x.a6 | _ => x.a7
def F8.put (x : F8) (i : Nat) (v : AVal) : F8 := match i with | 0 => { x with a0 := v } | 1 => { x with a1 := v } | 2 => { x with a2 := v } | 3 => { x with a3 := v } | 4 => { x with a4 := v } | 5 => { x with a5 := v } | 6 => { x with a6 := v } | _ => { x with a7 := v }
def F64.at (x : F64) (i : Nat) : F8 := match i with | 0 => x.b0 | 1 => x.b1 | 2 => x.b2 | 3 => x.b3 | 4 => x.b4 | 5 => x.b5 | 6 => x.b6 | _ => x.b7
def F64.put (x : F64) (i : Nat) (v : F8) : F64 := match i with | 0 => { x with b0 := v } | 1 => { x with b1 := v } | 2 => { x with b2 := v } | 3 => { x with b3 := v } | 4 => { x with b4 := v } | 5 => { x with b5 := v } | 6 => { x with b6 := v } | _ => { x with b7 := v }
def Fr.at (x : Fr) (i : Nat) : F64 := match i with | 0 => x.c0 | 1 => x.c1 | 2 => x.c2 | _ => x.c3
def Fr.put (x : Fr) (i : Nat) (v : F64) : Fr := match i with | 0 => { x with c0 := v } | 1 => { x with c1 := v } | 2 => { x with c2 := v } | _ => { x with c3 := v }
theorem lo_eq (i : Nat) (x : F8) (k : AVal → R) : lo i x k = k (x.at i) := by cases x; exact match i with | 0 => rfl | 1 => rfl | 2 => rfl | 3 => rfl | 4 => rfl | 5 => rfl | 6 => rfl | _ + 7 => rfl
theorem mi_eq (i : Nat) (g : F8 → (AVal → R) → R) (x : F64) (k : AVal → R) : mi i g x k = g (x.at i) k := by cases x; exact match i with | 0 => rfl | 1 => rfl | 2 => rfl | 3 => rfl | 4 => rfl | 5 => rfl | 6 => rfl | _ + 7 => rfl
theorem to_eq (i : Nat) (g : F64 → (AVal → R) → R) (x : Fr) (k : AVal → R) : to i g x k = g (x.at i) k := by cases x; exact match i with | 0 => rfl | 1 => rfl | 2 => rfl | _ + 3 => rfl
theorem slo_eq (i : Nat) (v : AVal) (x : F8) (k : F8 → R) : slo i v x k = k (x.put i v) := by cases x; exact match i with | 0 => rfl | 1 => rfl | 2 => rfl | 3 => rfl | 4 => rfl | 5 => rfl | 6 => rfl | _ + 7 => rfl
theorem smi_eq (i : Nat) (s : AVal → F8 → (F8 → R) → R) (v : AVal) (x : F64) (k : F64 → R) : smi i s v x k = s v (x.at i) fun y => k (x.put i y) := by cases x; exact match i with | 0 => rfl | 1 => rfl | 2 => rfl | 3 => rfl | 4 => rfl | 5 => rfl | 6 => rfl | _ + 7 => rfl
theorem sto_eq (i : Nat) (s : AVal → F64 → (F64 → R) → R) (v : AVal) (x : Fr) (k : Fr → R) : sto i s v x k = s v (x.at i) fun y => k (x.put i y) := by cases x; exact match i with | 0 => rfl | 1 => rfl | 2 => rfl | _ + 3 => rfl
theorem F8.at_put (x : F8) (v : AVal) (i j : Nat) (hi : i < 8) (hj : j < 8) : (x.put i v).at j = if j = i then v else x.at j := by
  obtain rfl | rfl | rfl | rfl | rfl | rfl | rfl | rfl : i = 0 ∨ i = 1 ∨ i = 2 ∨ i = 3 ∨ i = 4 ∨ i = 5 ∨ i = 6 ∨ i = 7 := by omega
  all_goals
    obtain rfl | rfl | rfl | rfl | rfl | rfl | rfl | rfl : j = 0 ∨ j = 1 ∨ j = 2 ∨ j = 3 ∨ j = 4 ∨ j = 5 ∨ j = 6 ∨ j = 7 := by omega
    all_goals rfl
theorem F64.at_put (x : F64) (v : F8) (i j : Nat) (hi : i < 8) (hj : j < 8) : (x.put i v).at j = if j = i then v else x.at j := by
  obtain rfl | rfl | rfl | rfl | rfl | rfl | rfl | rfl : i = 0 ∨ i = 1 ∨ i = 2 ∨ i = 3 ∨ i = 4 ∨ i = 5 ∨ i = 6 ∨ i = 7 := by omega
  all_goals
    obtain rfl | rfl | rfl | rfl | rfl | rfl | rfl | rfl : j = 0 ∨ j = 1 ∨ j = 2 ∨ j = 3 ∨ j = 4 ∨ j = 5 ∨ j = 6 ∨ j = 7 := by omega
    all_goals rfl
theorem Fr.at_put (x : Fr) (v : F64) (i j : Nat) (hi : i < 4) (hj : j < 4) : (x.put i v).at j = if j = i then v else x.at j := by
  obtain rfl | rfl | rfl | rfl : i = 0 ∨ i = 1 ∨ i = 2 ∨ i = 3 := by omega
  all_goals
    obtain rfl | rfl | rfl | rfl : j = 0 ∨ j = 1 ∨ j = 2 ∨ j = 3 := by omega
    all_goals rfl

def Fr.get (F : Fr) (i : Nat) : AVal := ((F.at (i / 64)).at (i / 8 % 8)).at (i % 8)
def Fr.set (F : Fr) (i : Nat) (v : AVal) : Fr := F.put (i / 64) ((F.at (i / 64)).put (i / 8 % 8) (((F.at (i / 64)).at (i / 8 % 8)).put (i % 8) v))
def gt (i : Nat) : GV := to (i / 64) (mi (i / 8 % 8) (lo (i % 8)))
def st (i : Nat) : SV := sto (i / 64) (smi (i / 8 % 8) (slo (i % 8)))
theorem gt_eq (i : Nat) (F : Fr) (k : AVal → R) : gt i F k = k (F.get i) := by
  simp only [gt, to_eq, mi_eq, lo_eq, Fr.get]
theorem st_eq (i : Nat) (v : AVal) (F : Fr) (k : Fr → R) : st i v F k = k (F.set i v) := by
  simp only [st, sto_eq, smi_eq, slo_eq, Fr.set]
theorem Fr.get_set (F : Fr) (v : AVal) (i j : Nat) (hi : i < 256) (hj : j < 256) : (F.set i v).get j = if j = i then v else F.get j := by
  simp only [Fr.get, Fr.set]
  rw [Fr.at_put _ _ _ _ (by omega) (by omega)]
  by_cases h1 : j / 64 = i / 64
  · rw [if_pos h1, F64.at_put _ _ _ _ (by omega) (by omega)]
    by_cases h2 : j / 8 % 8 = i / 8 % 8
    · rw [if_pos h2, F8.at_put _ _ _ _ (by omega) (by omega)]
      by_cases h3 : j % 8 = i % 8
      · rw [if_pos h3, if_pos (by omega)]
      · rw [if_neg h3, if_neg (by omega), h1, h2]
    · rw [if_neg h2, if_neg (fun e => h2 (by rw [e])), h1]
  · rw [if_neg h1, if_neg (fun e => h1 (by rw [e]))]

def g0 : GV := t0 (m0 l0)
def g1 : GV := t0 (m0 l1)
def g2 : GV := t0 (m0 l2)
def g3 : GV := t0 (m0 l3)
def g4 : GV := t0 (m0 l4)
def g5 : GV := t0 (m0 l5)
def g6 : GV := t0 (m0 l6)
def g7 : GV := t0 (m0 l7)
def g8 : GV := t0 (m1 l0)
def g9 : GV := t0 (m1 l1)
def g10 : GV := t0 (m1 l2)
def g11 : GV := t0 (m1 l3)
def g12 : GV := t0 (m1 l4)
def g13 : GV := t0 (m1 l5)
def g14 : GV := t0 (m1 l6)
def g15 : GV := t0 (m1 l7)
def g16 : GV := t0 (m2 l0)
def g17 : GV := t0 (m2 l1)
def g18 : GV := t0 (m2 l2)
def g19 : GV := t0 (m2 l3)
def g20 : GV := t0 (m2 l4)
def g21 : GV := t0 (m2 l5)
def g22 : GV := t0 (m2 l6)
def g23 : GV := t0 (m2 l7)
def g24 : GV := t0 (m3 l0)
def g25 : GV := t0 (m3 l1)
def g26 : GV := t0 (m3 l2)
def g27 : GV := t0 (m3 l3)
def g28 : GV := t0 (m3 l4)
def g29 : GV := t0 (m3 l5)
def g30 : GV := t0 (m3 l6)
def g31 : GV := t0 (m3 l7)
def g32 : GV := t0 (m4 l0)
def g33 : GV := t0 (m4 l1)
def g34 : GV := t0 (m4 l2)
def g35 : GV := t0 (m4 l3)
def g36 : GV := t0 (m4 l4)
def g37 : GV := t0 (m4 l5)
def g38 : GV := t0 (m4 l6)
def g39 : GV := t0 (m4 l7)
def g40 : GV := t0 (m5 l0)
def g41 : GV := t0 (m5 l1)
def g42 : GV := t0 (m5 l2)
def g43 : GV := t0 (m5 l3)
def g44 : GV := t0 (m5 l4)
def g45 : GV := t0 (m5 l5)
def g46 : GV := t0 (m5 l6)
def g47 : GV := t0 (m5 l7)
def g48 : GV := t0 (m6 l0)
def g49 : GV := t0 (m6 l1)
def g50 : GV := t0 (m6 l2)
def g51 : GV := t0 (m6 l3)
def g52 : GV := t0 (m6 l4)
def g53 : GV := t0 (m6 l5)
def g54 : GV := t0 (m6 l6)
def g55 : GV := t0 (m6 l7)
def g56 : GV := t0 (m7 l0)
def g57 : GV := t0 (m7 l1)
def g58 : GV := t0 (m7 l2)
def g59 : GV := t0 (m7 l3)
def g60 : GV := t0 (m7 l4)
def g61 : GV := t0 (m7 l5)
def g62 : GV := t0 (m7 l6)
def g63 : GV := t0 (m7 l7)
def g64 : GV := t1 (m0 l0)
def g65 : GV := t1 (m0 l1)
def g66 : GV := t1 (m0 l2)
def g67 : GV := t1 (m0 l3)
def g68 : GV := t1 (m0 l4)
def g69 : GV := t1 (m0 l5)
def g70 : GV := t1 (m0 l6)
def g71 : GV := t1 (m0 l7)
def g72 : GV := t1 (m1 l0)
def g73 : GV := t1 (m1 l1)
def g74 : GV := t1 (m1 l2)
def g75 : GV := t1 (m1 l3)
def g76 : GV := t1 (m1 l4)
def g77 : GV := t1 (m1 l5)
def g78 : GV := t1 (m1 l6)
def g79 : GV := t1 (m1 l7)
def g80 : GV := t1 (m2 l0)
def g81 : GV := t1 (m2 l1)
def g82 : GV := t1 (m2 l2)
def g83 : GV := t1 (m2 l3)
def g84 : GV := t1 (m2 l4)
def g85 : GV := t1 (m2 l5)
def g86 : GV := t1 (m2 l6)
def g87 : GV := t1 (m2 l7)
def g88 : GV := t1 (m3 l0)
def g89 : GV := t1 (m3 l1)
def g90 : GV := t1 (m3 l2)
def g91 : GV := t1 (m3 l3)
def g92 : GV := t1 (m3 l4)
def g93 : GV := t1 (m3 l5)
def g94 : GV := t1 (m3 l6)
def g95 : GV := t1 (m3 l7)
def g96 : GV := t1 (m4 l0)
def g97 : GV := t1 (m4 l1)
def g98 : GV := t1 (m4 l2)
def g99 : GV := t1 (m4 l3)
def g100 : GV := t1 (m4 l4)
def g101 : GV := t1 (m4 l5)
def g102 : GV := t1 (m4 l6)
def g103 : GV := t1 (m4 l7)
def g104 : GV := t1 (m5 l0)
def g105 : GV := t1 (m5 l1)
def g106 : GV := t1 (m5 l2)
def g107 : GV := t1 (m5 l3)
def g108 : GV := t1 (m5 l4)
def g109 : GV := t1 (m5 l5)
def g110 : GV := t1 (m5 l6)
def g111 : GV := t1 (m5 l7)
def g112 : GV := t1 (m6 l0)
def g113 : GV := t1 (m6 l1)
def g114 : GV := t1 (m6 l2)
def g115 : GV := t1 (m6 l3)
def g116 : GV := t1 (m6 l4)
def g117 : GV := t1 (m6 l5)
def g118 : GV := t1 (m6 l6)
def g119 : GV := t1 (m6 l7)
def g120 : GV := t1 (m7 l0)
def g121 : GV := t1 (m7 l1)
def g122 : GV := t1 (m7 l2)
def g123 : GV := t1 (m7 l3)
def g124 : GV := t1 (m7 l4)
def g125 : GV := t1 (m7 l5)
def g126 : GV := t1 (m7 l6)
def g127 : GV := t1 (m7 l7)
def g128 : GV := t2 (m0 l0)
def g129 : GV := t2 (m0 l1)
def g130 : GV := t2 (m0 l2)
def g131 : GV := t2 (m0 l3)
def g132 : GV := t2 (m0 l4)
def g133 : GV := t2 (m0 l5)
def g134 : GV := t2 (m0 l6)
def g135 : GV := t2 (m0 l7)
def g136 : GV := t2 (m1 l0)
def g137 : GV := t2 (m1 l1)
def g138 : GV := t2 (m1 l2)
def g139 : GV := t2 (m1 l3)
def g140 : GV := t2 (m1 l4)
def g141 : GV := t2 (m1 l5)
def g142 : GV := t2 (m1 l6)
def g143 : GV := t2 (m1 l7)
def g144 : GV := t2 (m2 l0)
def g145 : GV := t2 (m2 l1)
def g146 : GV := t2 (m2 l2)
def g147 : GV := t2 (m2 l3)
def g148 : GV := t2 (m2 l4)
def g149 : GV := t2 (m2 l5)
def g150 : GV := t2 (m2 l6)
def g151 : GV := t2 (m2 l7)
def g152 : GV := t2 (m3 l0)
def g153 : GV := t2 (m3 l1)
def g154 : GV := t2 (m3 l2)
def g155 : GV := t2 (m3 l3)
def g156 : GV := t2 (m3 l4)
def g157 : GV := t2 (m3 l5)
def g158 : GV := t2 (m3 l6)
def g159 : GV := t2 (m3 l7)
def g160 : GV := t2 (m4 l0)
def g161 : GV := t2 (m4 l1)
def g162 : GV := t2 (m4 l2)
def g163 : GV := t2 (m4 l3)
def g164 : GV := t2 (m4 l4)
def g165 : GV := t2 (m4 l5)
def g166 : GV := t2 (m4 l6)
def g167 : GV := t2 (m4 l7)
def g168 : GV := t2 (m5 l0)
def g169 : GV := t2 (m5 l1)
def g170 : GV := t2 (m5 l2)
def g171 : GV := t2 (m5 l3)
def g172 : GV := t2 (m5 l4)
def g173 : GV := t2 (m5 l5)
def g174 : GV := t2 (m5 l6)
def g175 : GV := t2 (m5 l7)
def g176 : GV := t2 (m6 l0)
def g177 : GV := t2 (m6 l1)
def g178 : GV := t2 (m6 l2)
def g179 : GV := t2 (m6 l3)
def g180 : GV := t2 (m6 l4)
def g181 : GV := t2 (m6 l5)
def g182 : GV := t2 (m6 l6)
def g183 : GV := t2 (m6 l7)
def g184 : GV := t2 (m7 l0)
def g185 : GV := t2 (m7 l1)
def g186 : GV := t2 (m7 l2)
def g187 : GV := t2 (m7 l3)
def g188 : GV := t2 (m7 l4)
def g189 : GV := t2 (m7 l5)
def g190 : GV := t2 (m7 l6)
def g191 : GV := t2 (m7 l7)
def g192 : GV := t3 (m0 l0)
def g193 : GV := t3 (m0 l1)
def g194 : GV := t3 (m0 l2)
def g195 : GV := t3 (m0 l3)
def g196 : GV := t3 (m0 l4)
def g197 : GV := t3 (m0 l5)
def g198 : GV := t3 (m0 l6)
def g199 : GV := t3 (m0 l7)
def g200 : GV := t3 (m1 l0)
def g201 : GV := t3 (m1 l1)
def g202 : GV := t3 (m1 l2)
def g203 : GV := t3 (m1 l3)
def g204 : GV := t3 (m1 l4)
def g205 : GV := t3 (m1 l5)
def g206 : GV := t3 (m1 l6)
def g207 : GV := t3 (m1 l7)
def g208 : GV := t3 (m2 l0)
def g209 : GV := t3 (m2 l1)
def g210 : GV := t3 (m2 l2)
def g211 : GV := t3 (m2 l3)
def g212 : GV := t3 (m2 l4)
def g213 : GV := t3 (m2 l5)
def g214 : GV := t3 (m2 l6)
def g215 : GV := t3 (m2 l7)
def g216 : GV := t3 (m3 l0)
def g217 : GV := t3 (m3 l1)
def g218 : GV := t3 (m3 l2)
def g219 : GV := t3 (m3 l3)
def g220 : GV := t3 (m3 l4)
def g221 : GV := t3 (m3 l5)
def g222 : GV := t3 (m3 l6)
def g223 : GV := t3 (m3 l7)
def g224 : GV := t3 (m4 l0)
def g225 : GV := t3 (m4 l1)
def g226 : GV := t3 (m4 l2)
def g227 : GV := t3 (m4 l3)
def g228 : GV := t3 (m4 l4)
def g229 : GV := t3 (m4 l5)
def g230 : GV := t3 (m4 l6)
def g231 : GV := t3 (m4 l7)
def g232 : GV := t3 (m5 l0)
def g233 : GV := t3 (m5 l1)
def g234 : GV := t3 (m5 l2)
def g235 : GV := t3 (m5 l3)
def g236 : GV := t3 (m5 l4)
def g237 : GV := t3 (m5 l5)
def g238 : GV := t3 (m5 l6)
def g239 : GV := t3 (m5 l7)
def g240 : GV := t3 (m6 l0)
def g241 : GV := t3 (m6 l1)
def g242 : GV := t3 (m6 l2)
def g243 : GV := t3 (m6 l3)
def g244 : GV := t3 (m6 l4)
def g245 : GV := t3 (m6 l5)
def g246 : GV := t3 (m6 l6)
def g247 : GV := t3 (m6 l7)
def g248 : GV := t3 (m7 l0)
def g249 : GV := t3 (m7 l1)
def g250 : GV := t3 (m7 l2)
def g251 : GV := t3 (m7 l3)
def g252 : GV := t3 (m7 l4)
def g253 : GV := t3 (m7 l5)
def g254 : GV := t3 (m7 l6)
def g255 : GV := t3 (m7 l7)
def s0 : SV := st0 (sm0 sl0)
def s1 : SV := st0 (sm0 sl1)
def s2 : SV := st0 (sm0 sl2)
def s3 : SV := st0 (sm0 sl3)
def s4 : SV := st0 (sm0 sl4)
def s5 : SV := st0 (sm0 sl5)
def s6 : SV := st0 (sm0 sl6)
def s7 : SV := st0 (sm0 sl7)
def s8 : SV := st0 (sm1 sl0)
def s9 : SV := st0 (sm1 sl1)
def s10 : SV := st0 (sm1 sl2)
def s11 : SV := st0 (sm1 sl3)
def s12 : SV := st0 (sm1 sl4)
def s13 : SV := st0 (sm1 sl5)
def s14 : SV := st0 (sm1 sl6)
def s15 : SV := st0 (sm1 sl7)
def s16 : SV := st0 (sm2 sl0)
def s17 : SV := st0 (sm2 sl1)
def s18 : SV := st0 (sm2 sl2)
def s19 : SV := st0 (sm2 sl3)
def s20 : SV := st0 (sm2 sl4)
def s21 : SV := st0 (sm2 sl5)
def s22 : SV := st0 (sm2 sl6)
def s23 : SV := st0 (sm2 sl7)
def s24 : SV := st0 (sm3 sl0)
def s25 : SV := st0 (sm3 sl1)
def s26 : SV := st0 (sm3 sl2)
def s27 : SV := st0 (sm3 sl3)
def s28 : SV := st0 (sm3 sl4)
def s29 : SV := st0 (sm3 sl5)
def s30 : SV := st0 (sm3 sl6)
def s31 : SV := st0 (sm3 sl7)
def s32 : SV := st0 (sm4 sl0)
def s33 : SV := st0 (sm4 sl1)
def s34 : SV := st0 (sm4 sl2)
def s35 : SV := st0 (sm4 sl3)
def s36 : SV := st0 (sm4 sl4)
def s37 : SV := st0 (sm4 sl5)
def s38 : SV := st0 (sm4 sl6)
def s39 : SV := st0 (sm4 sl7)
def s40 : SV := st0 (sm5 sl0)
def s41 : SV := st0 (sm5 sl1)
def s42 : SV := st0 (sm5 sl2)
def s43 : SV := st0 (sm5 sl3)
def s44 : SV := st0 (sm5 sl4)
def s45 : SV := st0 (sm5 sl5)
def s46 : SV := st0 (sm5 sl6)
def s47 : SV := st0 (sm5 sl7)
def s48 : SV := st0 (sm6 sl0)
def s49 : SV := st0 (sm6 sl1)
def s50 : SV := st0 (sm6 sl2)
def s51 : SV := st0 (sm6 sl3)
def s52 : SV := st0 (sm6 sl4)
def s53 : SV := st0 (sm6 sl5)
def s54 : SV := st0 (sm6 sl6)
def s55 : SV := st0 (sm6 sl7)
def s56 : SV := st0 (sm7 sl0)
def s57 : SV := st0 (sm7 sl1)
def s58 : SV := st0 (sm7 sl2)
def s59 : SV := st0 (sm7 sl3)
def s60 : SV := st0 (sm7 sl4)
def s61 : SV := st0 (sm7 sl5)
def s62 : SV := st0 (sm7 sl6)
def s63 : SV := st0 (sm7 sl7)
def s64 : SV := st1 (sm0 sl0)
def s65 : SV := st1 (sm0 sl1)
def s66 : SV := st1 (sm0 sl2)
def s67 : SV := st1 (sm0 sl3)
def s68 : SV := st1 (sm0 sl4)
def s69 : SV := st1 (sm0 sl5)
def s70 : SV := st1 (sm0 sl6)
def s71 : SV := st1 (sm0 sl7)
def s72 : SV := st1 (sm1 sl0)
def s73 : SV := st1 (sm1 sl1)
def s74 : SV := st1 (sm1 sl2)
def s75 : SV := st1 (sm1 sl3)
def s76 : SV := st1 (sm1 sl4)
def s77 : SV := st1 (sm1 sl5)
def s78 : SV := st1 (sm1 sl6)
def s79 : SV := st1 (sm1 sl7)
def s80 : SV := st1 (sm2 sl0)
def s81 : SV := st1 (sm2 sl1)
def s82 : SV := st1 (sm2 sl2)
def s83 : SV := st1 (sm2 sl3)
def s84 : SV := st1 (sm2 sl4)
def s85 : SV := st1 (sm2 sl5)
def s86 : SV := st1 (sm2 sl6)
def s87 : SV := st1 (sm2 sl7)
def s88 : SV := st1 (sm3 sl0)
def s89 : SV := st1 (sm3 sl1)
def s90 : SV := st1 (sm3 sl2)
def s91 : SV := st1 (sm3 sl3)
def s92 : SV := st1 (sm3 sl4)
def s93 : SV := st1 (sm3 sl5)
def s94 : SV := st1 (sm3 sl6)
def s95 : SV := st1 (sm3 sl7)
def s96 : SV := st1 (sm4 sl0)
def s97 : SV := st1 (sm4 sl1)
def s98 : SV := st1 (sm4 sl2)
def s99 : SV := st1 (sm4 sl3)
def s100 : SV := st1 (sm4 sl4)
def s101 : SV := st1 (sm4 sl5)
def s102 : SV := st1 (sm4 sl6)
def s103 : SV := st1 (sm4 sl7)
def s104 : SV := st1 (sm5 sl0)
def s105 : SV := st1 (sm5 sl1)
def s106 : SV := st1 (sm5 sl2)
def s107 : SV := st1 (sm5 sl3)
def s108 : SV := st1 (sm5 sl4)
def s109 : SV := st1 (sm5 sl5)
def s110 : SV := st1 (sm5 sl6)
def s111 : SV := st1 (sm5 sl7)
def s112 : SV := st1 (sm6 sl0)
def s113 : SV := st1 (sm6 sl1)
def s114 : SV := st1 (sm6 sl2)
def s115 : SV := st1 (sm6 sl3)
def s116 : SV := st1 (sm6 sl4)
def s117 : SV := st1 (sm6 sl5)
def s118 : SV := st1 (sm6 sl6)
def s119 : SV := st1 (sm6 sl7)
def s120 : SV := st1 (sm7 sl0)
def s121 : SV := st1 (sm7 sl1)
def s122 : SV := st1 (sm7 sl2)
def s123 : SV := st1 (sm7 sl3)
def s124 : SV := st1 (sm7 sl4)
def s125 : SV := st1 (sm7 sl5)
def s126 : SV := st1 (sm7 sl6)
def s127 : SV := st1 (sm7 sl7)
def s128 : SV := st2 (sm0 sl0)
def s129 : SV := st2 (sm0 sl1)
def s130 : SV := st2 (sm0 sl2)
def s131 : SV := st2 (sm0 sl3)
def s132 : SV := st2 (sm0 sl4)
def s133 : SV := st2 (sm0 sl5)
def s134 : SV := st2 (sm0 sl6)
def s135 : SV := st2 (sm0 sl7)
def s136 : SV := st2 (sm1 sl0)
def s137 : SV := st2 (sm1 sl1)
def s138 : SV := st2 (sm1 sl2)
def s139 : SV := st2 (sm1 sl3)
def s140 : SV := st2 (sm1 sl4)
def s141 : SV := st2 (sm1 sl5)
def s142 : SV := st2 (sm1 sl6)
def s143 : SV := st2 (sm1 sl7)
def s144 : SV := st2 (sm2 sl0)
def s145 : SV := st2 (sm2 sl1)
def s146 : SV := st2 (sm2 sl2)
def s147 : SV := st2 (sm2 sl3)
def s148 : SV := st2 (sm2 sl4)
def s149 : SV := st2 (sm2 sl5)
def s150 : SV := st2 (sm2 sl6)
def s151 : SV := st2 (sm2 sl7)
def s152 : SV := st2 (sm3 sl0)
def s153 : SV := st2 (sm3 sl1)
def s154 : SV := st2 (sm3 sl2)
def s155 : SV := st2 (sm3 sl3)
def s156 : SV := st2 (sm3 sl4)
def s157 : SV := st2 (sm3 sl5)
def s158 : SV := st2 (sm3 sl6)
def s159 : SV := st2 (sm3 sl7)
def s160 : SV := st2 (sm4 sl0)
def s161 : SV := st2 (sm4 sl1)
def s162 : SV := st2 (sm4 sl2)
def s163 : SV := st2 (sm4 sl3)
def s164 : SV := st2 (sm4 sl4)
def s165 : SV := st2 (sm4 sl5)
def s166 : SV := st2 (sm4 sl6)
def s167 : SV := st2 (sm4 sl7)
def s168 : SV := st2 (sm5 sl0)
def s169 : SV := st2 (sm5 sl1)
def s170 : SV := st2 (sm5 sl2)
def s171 : SV := st2 (sm5 sl3)
def s172 : SV := st2 (sm5 sl4)
def s173 : SV := st2 (sm5 sl5)
def s174 : SV := st2 (sm5 sl6)
def s175 : SV := st2 (sm5 sl7)
def s176 : SV := st2 (sm6 sl0)
def s177 : SV := st2 (sm6 sl1)
def s178 : SV := st2 (sm6 sl2)
def s179 : SV := st2 (sm6 sl3)
def s180 : SV := st2 (sm6 sl4)
def s181 : SV := st2 (sm6 sl5)
def s182 : SV := st2 (sm6 sl6)
def s183 : SV := st2 (sm6 sl7)
def s184 : SV := st2 (sm7 sl0)
def s185 : SV := st2 (sm7 sl1)
def s186 : SV := st2 (sm7 sl2)
def s187 : SV := st2 (sm7 sl3)
def s188 : SV := st2 (sm7 sl4)
def s189 : SV := st2 (sm7 sl5)
def s190 : SV := st2 (sm7 sl6)
def s191 : SV := st2 (sm7 sl7)
def s192 : SV := st3 (sm0 sl0)
def s193 : SV := st3 (sm0 sl1)
def s194 : SV := st3 (sm0 sl2)
def s195 : SV := st3 (sm0 sl3)
def s196 : SV := st3 (sm0 sl4)
def s197 : SV := st3 (sm0 sl5)
def s198 : SV := st3 (sm0 sl6)
def s199 : SV := st3 (sm0 sl7)
def s200 : SV := st3 (sm1 sl0)
def s201 : SV := st3 (sm1 sl1)
def s202 : SV := st3 (sm1 sl2)
def s203 : SV := st3 (sm1 sl3)
def s204 : SV := st3 (sm1 sl4)
def s205 : SV := st3 (sm1 sl5)
def s206 : SV := st3 (sm1 sl6)
def s207 : SV := st3 (sm1 sl7)
def s208 : SV := st3 (sm2 sl0)
def s209 : SV := st3 (sm2 sl1)
def s210 : SV := st3 (sm2 sl2)
def s211 : SV := st3 (sm2 sl3)
def s212 : SV := st3 (sm2 sl4)
def s213 : SV := st3 (sm2 sl5)
def s214 : SV := st3 (sm2 sl6)
def s215 : SV := st3 (sm2 sl7)
def s216 : SV := st3 (sm3 sl0)
def s217 : SV := st3 (sm3 sl1)
def s218 : SV := st3 (sm3 sl2)
def s219 : SV := st3 (sm3 sl3)
def s220 : SV := st3 (sm3 sl4)
def s221 : SV := st3 (sm3 sl5)
def s222 : SV := st3 (sm3 sl6)
def s223 : SV := st3 (sm3 sl7)
def s224 : SV := st3 (sm4 sl0)
def s225 : SV := st3 (sm4 sl1)
def s226 : SV := st3 (sm4 sl2)
def s227 : SV := st3 (sm4 sl3)
def s228 : SV := st3 (sm4 sl4)
def s229 : SV := st3 (sm4 sl5)
def s230 : SV := st3 (sm4 sl6)
def s231 : SV := st3 (sm4 sl7)
def s232 : SV := st3 (sm5 sl0)
def s233 : SV := st3 (sm5 sl1)
def s234 : SV := st3 (sm5 sl2)
def s235 : SV := st3 (sm5 sl3)
def s236 : SV := st3 (sm5 sl4)
def s237 : SV := st3 (sm5 sl5)
def s238 : SV := st3 (sm5 sl6)
def s239 : SV := st3 (sm5 sl7)
def s240 : SV := st3 (sm6 sl0)
def s241 : SV := st3 (sm6 sl1)
def s242 : SV := st3 (sm6 sl2)
def s243 : SV := st3 (sm6 sl3)
def s244 : SV := st3 (sm6 sl4)
def s245 : SV := st3 (sm6 sl5)
def s246 : SV := st3 (sm6 sl6)
def s247 : SV := st3 (sm6 sl7)
def s248 : SV := st3 (sm7 sl0)
def s249 : SV := st3 (sm7 sl1)
def s250 : SV := st3 (sm7 sl2)
def s251 : SV := st3 (sm7 sl3)
def s252 : SV := st3 (sm7 sl4)
def s253 : SV := st3 (sm7 sl5)
def s254 : SV := st3 (sm7 sl6)
def s255 : SV := st3 (sm7 sl7)
def gTree : N8 (N8 (N8 GV)) := ⟨⟨⟨g0, g1, g2, g3, g4, g5, g6, g7⟩, ⟨g8, g9, g10, g11, g12, g13, g14, g15⟩, ⟨g16, g17, g18, g19, g20, g21, g22, g23⟩, ⟨g24, g25, g26, g27, g28, g29, g30, g31⟩, ⟨g32, g33, g34, g35, g36, g37, g38, g39⟩, ⟨g40, g41, g42, g43, g44, g45, g46, g47⟩, ⟨g48, g49, g50, g51, g52, g53, g54, g55⟩, ⟨g56, g57, g58, g59, g60, g61, g62, g63⟩⟩, ⟨⟨g64, g65, g66, g67, g68, g69, g70, g71⟩, ⟨g72, g73, g74, g75, g76, g77, g78, g79⟩, ⟨g80, g81, g82, g83, g84, g85, g86, g87⟩, ⟨g88, g89, g90, g91, g92, g93, g94, g95⟩, ⟨g96, g97, g98, g99, g100, g101, g102, g103⟩, ⟨g104, g105, g106, g107, g108, g109, g110, g111⟩, ⟨g112, g113, g114, g115, g116, g117, g118, g119⟩, ⟨g120, g121, g122, g123, g124, g125, g126, g127⟩⟩, ⟨⟨g128, g129, g130, g131, g132, g133, g134, g135⟩, ⟨g136, g137, g138, g139, g140, g141, g142, g143⟩, ⟨g144, g145, g146, g147, g148, g149, g150, g151⟩, ⟨g152, g153, g154, g155, g156, g157, g158, g159⟩, ⟨g160, g161, g162, g163, g164, g165, g166, g167⟩, ⟨g168, g169, g170, g171, g172, g173, g174, g175⟩, ⟨g176, g177, g178, g179, g180, g181, g182, g183⟩, ⟨g184, g185, g186, g187, g188, g189, g190, g191⟩⟩, ⟨⟨g192, g193, g194, g195, g196, g197, g198, g199⟩, ⟨g200, g201, g202, g203, g204, g205, g206, g207⟩, ⟨g208, g209, g210, g211, g212, g213, g214, g215⟩, ⟨g216, g217, g218, g219, g220, g221, g222, g223⟩, ⟨g224, g225, g226, g227, g228, g229, g230, g231⟩, ⟨g232, g233, g234, g235, g236, g237, g238, g239⟩, ⟨g240, g241, g242, g243, g244, g245, g246, g247⟩, ⟨g248, g249, g250, g251, g252, g253, g254, g255⟩⟩, ⟨⟨g255, g255, g255, g255, g255, g255, g255, g255⟩, ⟨g255, g255, g255, g255, g255, g255, g255, g255⟩, ⟨g255, g255, g255, g255, g255, g255, g255, g255⟩, ⟨g255, g255, g255, g255, g255, g255, g255, g255⟩, ⟨g255, g255, g255, g255, g255, g255, g255, g255⟩, ⟨g255, g255, g255, g255, g255, g255, g255, g255⟩, ⟨g255, g255, g255, g255, g255, g255, g255, g255⟩, ⟨g255, g255, g255, g255, g255, g255, g255, g255⟩⟩, ⟨⟨g255, g255, g255, g255, g255, g255, g255, g255⟩, ⟨g255, g255, g255, g255, g255, g255, g255, g255⟩, ⟨g255, g255, g255, g255, g255, g255, g255, g255⟩, ⟨g255, g255, g255, g255, g255, g255, g255, g255⟩, ⟨g255, g255, g255, g255, g255, g255, g255, g255⟩, ⟨g255, g255, g255, g255, g255, g255, g255, g255⟩, ⟨g255, g255, g255, g255, g255, g255, g255, g255⟩, ⟨g255, g255, g255, g255, g255, g255, g255, g255⟩⟩, ⟨⟨g255, g255, g255, g255, g255, g255, g255, g255⟩, ⟨g255, g255, g255, g255, g255, g255, g255, g255⟩, ⟨g255, g255, g255, g255, g255, g255, g255, g255⟩, ⟨g255, g255, g255, g255, g255, g255, g255, g255⟩, ⟨g255, g255, g255, g255, g255, g255, g255, g255⟩, ⟨g255, g255, g255, g255, g255, g255, g255, g255⟩, ⟨g255, g255, g255, g255, g255, g255, g255, g255⟩, ⟨g255, g255, g255, g255, g255, g255, g255, g255⟩⟩, ⟨⟨g255, g255, g255, g255, g255, g255, g255, g255⟩, ⟨g255, g255, g255, g255, g255, g255, g255, g255⟩, ⟨g255, g255, g255, g255, g255, g255, g255, g255⟩, ⟨g255, g255, g255, g255, g255, g255, g255, g255⟩, ⟨g255, g255, g255, g255, g255, g255, g255, g255⟩, ⟨g255, g255, g255, g255, g255, g255, g255, g255⟩, ⟨g255, g255, g255, g255, g255, g255, g255, g255⟩, ⟨g255, g255, g255, g255, g255, g255, g255, g255⟩⟩⟩
def sTree : N8 (N8 (N8 SV)) := ⟨⟨⟨s0, s1, s2, s3, s4, s5, s6, s7⟩, ⟨s8, s9, s10, s11, s12, s13, s14, s15⟩, ⟨s16, s17, s18, s19, s20, s21, s22, s23⟩, ⟨s24, s25, s26, s27, s28, s29, s30, s31⟩, ⟨s32, s33, s34, s35, s36, s37, s38, s39⟩, ⟨s40, s41, s42, s43, s44, s45, s46, s47⟩, ⟨s48, s49, s50, s51, s52, s53, s54, s55⟩, ⟨s56, s57, s58, s59, s60, s61, s62, s63⟩⟩, ⟨⟨s64, s65, s66, s67, s68, s69, s70, s71⟩, ⟨s72, s73, s74, s75, s76, s77, s78, s79⟩, ⟨s80, s81, s82, s83, s84, s85, s86, s87⟩, ⟨s88, s89, s90, s91, s92, s93, s94, s95⟩, ⟨s96, s97, s98, s99, s100, s101, s102, s103⟩, ⟨s104, s105, s106, s107, s108, s109, s110, s111⟩, ⟨s112, s113, s114, s115, s116, s117, s118, s119⟩, ⟨s120, s121, s122, s123, s124, s125, s126, s127⟩⟩, ⟨⟨s128, s129, s130, s131, s132, s133, s134, s135⟩, ⟨s136, s137, s138, s139, s140, s141, s142, s143⟩, ⟨s144, s145, s146, s147, s148, s149, s150, s151⟩, ⟨s152, s153, s154, s155, s156, s157, s158, s159⟩, ⟨s160, s161, s162, s163, s164, s165, s166, s167⟩, ⟨s168, s169, s170, s171, s172, s173, s174, s175⟩, ⟨s176, s177, s178, s179, s180, s181, s182, s183⟩, ⟨s184, s185, s186, s187, s188, s189, s190, s191⟩⟩, ⟨⟨s192, s193, s194, s195, s196, s197, s198, s199⟩, ⟨s200, s201, s202, s203, s204, s205, s206, s207⟩, ⟨s208, s209, s210, s211, s212, s213, s214, s215⟩, ⟨s216, s217, s218, s219, s220, s221, s222, s223⟩, ⟨s224, s225, s226, s227, s228, s229, s230, s231⟩, ⟨s232, s233, s234, s235, s236, s237, s238, s239⟩, ⟨s240, s241, s242, s243, s244, s245, s246, s247⟩, ⟨s248, s249, s250, s251, s252, s253, s254, s255⟩⟩, ⟨⟨s255, s255, s255, s255, s255, s255, s255, s255⟩, ⟨s255, s255, s255, s255, s255, s255, s255, s255⟩, ⟨s255, s255, s255, s255, s255, s255, s255, s255⟩, ⟨s255, s255, s255, s255, s255, s255, s255, s255⟩, ⟨s255, s255, s255, s255, s255, s255, s255, s255⟩, ⟨s255, s255, s255, s255, s255, s255, s255, s255⟩, ⟨s255, s255, s255, s255, s255, s255, s255, s255⟩, ⟨s255, s255, s255, s255, s255, s255, s255, s255⟩⟩, ⟨⟨s255, s255, s255, s255, s255, s255, s255, s255⟩, ⟨s255, s255, s255, s255, s255, s255, s255, s255⟩, ⟨s255, s255, s255, s255, s255, s255, s255, s255⟩, ⟨s255, s255, s255, s255, s255, s255, s255, s255⟩, ⟨s255, s255, s255, s255, s255, s255, s255, s255⟩, ⟨s255, s255, s255, s255, s255, s255, s255, s255⟩, ⟨s255, s255, s255, s255, s255, s255, s255, s255⟩, ⟨s255, s255, s255, s255, s255, s255, s255, s255⟩⟩, ⟨⟨s255, s255, s255, s255, s255, s255, s255, s255⟩, ⟨s255, s255, s255, s255, s255, s255, s255, s255⟩, ⟨s255, s255, s255, s255, s255, s255, s255, s255⟩, ⟨s255, s255, s255, s255, s255, s255, s255, s255⟩, ⟨s255, s255, s255, s255, s255, s255, s255, s255⟩, ⟨s255, s255, s255, s255, s255, s255, s255, s255⟩, ⟨s255, s255, s255, s255, s255, s255, s255, s255⟩, ⟨s255, s255, s255, s255, s255, s255, s255, s255⟩⟩, ⟨⟨s255, s255, s255, s255, s255, s255, s255, s255⟩, ⟨s255, s255, s255, s255, s255, s255, s255, s255⟩, ⟨s255, s255, s255, s255, s255, s255, s255, s255⟩, ⟨s255, s255, s255, s255, s255, s255, s255, s255⟩, ⟨s255, s255, s255, s255, s255, s255, s255, s255⟩, ⟨s255, s255, s255, s255, s255, s255, s255, s255⟩, ⟨s255, s255, s255, s255, s255, s255, s255, s255⟩, ⟨s255, s255, s255, s255, s255, s255, s255, s255⟩⟩⟩
def N8.at {α : Type} (x : N8 α) (i : Nat) : α := match i with | 0 => x.a0 | 1 => x.a1 | 2 => x.a2 | 3 => x.a3 | 4 => x.a4 | 5 => x.a5 | 6 => x.a6 | _ => x.a7
def gN (i : Nat) : GV := ((gTree.at (i / 64)).at (i / 8 % 8)).at (i % 8)
def sN (i : Nat) : SV := ((sTree.at (i / 64)).at (i / 8 % 8)).at (i % 8)
theorem gN_eq (i : Nat) (h : i < 256) : gN i = gt i := match i, h with
  | 0, _ => rfl
  | 1, _ => rfl
  | 2, _ => rfl
  | 3, _ => rfl
  | 4, _ => rfl
  | 5, _ => rfl
  | 6, _ => rfl
  | 7, _ => rfl
  | 8, _ => rfl
  | 9, _ => rfl
  | 10, _ => rfl
  | 11, _ => rfl
  | 12, _ => rfl
  | 13, _ => rfl
  | 14, _ => rfl
  | 15, _ => rfl
  | 16, _ => rfl
  | 17, _ => rfl
  | 18, _ => rfl
  | 19, _ => rfl
  | 20, _ => rfl
  | 21, _ => rfl
  | 22, _ => rfl
  | 23, _ => rfl
  | 24, _ => rfl
  | 25, _ => rfl
  | 26, _ => rfl
  | 27, _ => rfl
  | 28, _ => rfl
  | 29, _ => rfl
  | 30, _ => rfl
  | 31, _ => rfl
  | 32, _ => rfl
  | 33, _ => rfl
  | 34, _ => rfl
  | 35, _ => rfl
  | 36, _ => rfl
  | 37, _ => rfl
  | 38, _ => rfl
  | 39, _ => rfl
  | 40, _ => rfl
  | 41, _ => rfl
  | 42, _ => rfl
  | 43, _ => rfl
  | 44, _ => rfl
  | 45, _ => rfl
  | 46, _ => rfl
  | 47, _ => rfl
  | 48, _ => rfl
  | 49, _ => rfl
  | 50, _ => rfl
  | 51, _ => rfl
  | 52, _ => rfl
  | 53, _ => rfl
  | 54, _ => rfl
  | 55, _ => rfl
  | 56, _ => rfl
  | 57, _ => rfl
  | 58, _ => rfl
  | 59, _ => rfl
  | 60, _ => rfl
  | 61, _ => rfl
  | 62, _ => rfl
  | 63, _ => rfl
  | 64, _ => rfl
  | 65, _ => rfl
  | 66, _ => rfl
  | 67, _ => rfl
  | 68, _ => rfl
  | 69, _ => rfl
  | 70, _ => rfl
  | 71, _ => rfl
  | 72, _ => rfl
  | 73, _ => rfl
  | 74, _ => rfl
  | 75, _ => rfl
  | 76, _ => rfl
  | 77, _ => rfl
  | 78, _ => rfl
  | 79, _ => rfl
  | 80, _ => rfl
  | 81, _ => rfl
  | 82, _ => rfl
  | 83, _ => rfl
  | 84, _ => rfl
  | 85, _ => rfl
  | 86, _ => rfl
  | 87, _ => rfl
  | 88, _ => rfl
  | 89, _ => rfl
  | 90, _ => rfl
  | 91, _ => rfl
  | 92, _ => rfl
  | 93, _ => rfl
  | 94, _ => rfl
  | 95, _ => rfl
  | 96, _ => rfl
  | 97, _ => rfl
  | 98, _ => rfl
  | 99, _ => rfl
  | 100, _ => rfl
  | 101, _ => rfl
  | 102, _ => rfl
  | 103, _ => rfl
  | 104, _ => rfl
  | 105, _ => rfl
  | 106, _ => rfl
  | 107, _ => rfl
  | 108, _ => rfl
  | 109, _ => rfl
  | 110, _ => rfl
  | 111, _ => rfl
  | 112, _ => rfl
  | 113, _ => rfl
  | 114, _ => rfl
  | 115, _ => rfl
  | 116, _ => rfl
  | 117, _ => rfl
  | 118, _ => rfl
  | 119, _ => rfl
  | 120, _ => rfl
  | 121, _ => rfl
  | 122, _ => rfl
  | 123, _ => rfl
  | 124, _ => rfl
  | 125, _ => rfl
  | 126, _ => rfl
  | 127, _ => rfl
  | 128, _ => rfl
  | 129, _ => rfl
  | 130, _ => rfl
  | 131, _ => rfl
  | 132, _ => rfl
  | 133, _ => rfl
  | 134, _ => rfl
  | 135, _ => rfl
  | 136, _ => rfl
  | 137, _ => rfl
  | 138, _ => rfl
  | 139, _ => rfl
  | 140, _ => rfl
  | 141, _ => rfl
  | 142, _ => rfl
  | 143, _ => rfl
  | 144, _ => rfl
  | 145, _ => rfl
  | 146, _ => rfl
  | 147, _ => rfl
  | 148, _ => rfl
  | 149, _ => rfl
  | 150, _ => rfl
  | 151, _ => rfl
  | 152, _ => rfl
  | 153, _ => rfl
  | 154, _ => rfl
  | 155, _ => rfl
  | 156, _ => rfl
  | 157, _ => rfl
  | 158, _ => rfl
  | 159, _ => rfl
  | 160, _ => rfl
  | 161, _ => rfl
  | 162, _ => rfl
  | 163, _ => rfl
  | 164, _ => rfl
  | 165, _ => rfl
  | 166, _ => rfl
  | 167, _ => rfl
  | 168, _ => rfl
  | 169, _ => rfl
  | 170, _ => rfl
  | 171, _ => rfl
  | 172, _ => rfl
  | 173, _ => rfl
  | 174, _ => rfl
  | 175, _ => rfl
  | 176, _ => rfl
  | 177, _ => rfl
  | 178, _ => rfl
  | 179, _ => rfl
  | 180, _ => rfl
  | 181, _ => rfl
  | 182, _ => rfl
  | 183, _ => rfl
  | 184, _ => rfl
  | 185, _ => rfl
  | 186, _ => rfl
  | 187, _ => rfl
  | 188, _ => rfl
  | 189, _ => rfl
  | 190, _ => rfl
  | 191, _ => rfl
  | 192, _ => rfl
  | 193, _ => rfl
  | 194, _ => rfl
  | 195, _ => rfl
  | 196, _ => rfl
  | 197, _ => rfl
  | 198, _ => rfl
  | 199, _ => rfl
  | 200, _ => rfl
  | 201, _ => rfl
  | 202, _ => rfl
  | 203, _ => rfl
  | 204, _ => rfl
  | 205, _ => rfl
  | 206, _ => rfl
  | 207, _ => rfl
  | 208, _ => rfl
  | 209, _ => rfl
  | 210, _ => rfl
  | 211, _ => rfl
  | 212, _ => rfl
  | 213, _ => rfl
  | 214, _ => rfl
  | 215, _ => rfl
  | 216, _ => rfl
  | 217, _ => rfl
  | 218, _ => rfl
  | 219, _ => rfl
  | 220, _ => rfl
  | 221, _ => rfl
  | 222, _ => rfl
  | 223, _ => rfl
  | 224, _ => rfl
  | 225, _ => rfl
  | 226, _ => rfl
  | 227, _ => rfl
  | 228, _ => rfl
  | 229, _ => rfl
  | 230, _ => rfl
  | 231, _ => rfl
  | 232, _ => rfl
  | 233, _ => rfl
  | 234, _ => rfl
  | 235, _ => rfl
  | 236, _ => rfl
  | 237, _ => rfl
  | 238, _ => rfl
  | 239, _ => rfl
  | 240, _ => rfl
  | 241, _ => rfl
  | 242, _ => rfl
  | 243, _ => rfl
  | 244, _ => rfl
  | 245, _ => rfl
  | 246, _ => rfl
  | 247, _ => rfl
  | 248, _ => rfl
  | 249, _ => rfl
  | 250, _ => rfl
  | 251, _ => rfl
  | 252, _ => rfl
  | 253, _ => rfl
  | 254, _ => rfl
  | 255, _ => rfl
  | n + 256, h => absurd h (by omega)
theorem sN_eq (i : Nat) (h : i < 256) : sN i = st i := match i, h with
  | 0, _ => rfl
  | 1, _ => rfl
  | 2, _ => rfl
  | 3, _ => rfl
  | 4, _ => rfl
  | 5, _ => rfl
  | 6, _ => rfl
  | 7, _ => rfl
  | 8, _ => rfl
  | 9, _ => rfl
  | 10, _ => rfl
  | 11, _ => rfl
  | 12, _ => rfl
  | 13, _ => rfl
  | 14, _ => rfl
  | 15, _ => rfl
  | 16, _ => rfl
  | 17, _ => rfl
  | 18, _ => rfl
  | 19, _ => rfl
  | 20, _ => rfl
  | 21, _ => rfl
  | 22, _ => rfl
  | 23, _ => rfl
  | 24, _ => rfl
  | 25, _ => rfl
  | 26, _ => rfl
  | 27, _ => rfl
  | 28, _ => rfl
  | 29, _ => rfl
  | 30, _ => rfl
  | 31, _ => rfl
  | 32, _ => rfl
  | 33, _ => rfl
  | 34, _ => rfl
  | 35, _ => rfl
  | 36, _ => rfl
  | 37, _ => rfl
  | 38, _ => rfl
  | 39, _ => rfl
  | 40, _ => rfl
  | 41, _ => rfl
  | 42, _ => rfl
  | 43, _ => rfl
  | 44, _ => rfl
  | 45, _ => rfl
  | 46, _ => rfl
  | 47, _ => rfl
  | 48, _ => rfl
  | 49, _ => rfl
  | 50, _ => rfl
  | 51, _ => rfl
  | 52, _ => rfl
  | 53, _ => rfl
  | 54, _ => rfl
  | 55, _ => rfl
  | 56, _ => rfl
  | 57, _ => rfl
  | 58, _ => rfl
  | 59, _ => rfl
  | 60, _ => rfl
  | 61, _ => rfl
  | 62, _ => rfl
  | 63, _ => rfl
  | 64, _ => rfl
  | 65, _ => rfl
  | 66, _ => rfl
  | 67, _ => rfl
  | 68, _ => rfl
  | 69, _ => rfl
  | 70, _ => rfl
  | 71, _ => rfl
  | 72, _ => rfl
  | 73, _ => rfl
  | 74, _ => rfl
  | 75, _ => rfl
  | 76, _ => rfl
  | 77, _ => rfl
  | 78, _ => rfl
  | 79, _ => rfl
  | 80, _ => rfl
  | 81, _ => rfl
  | 82, _ => rfl
  | 83, _ => rfl
  | 84, _ => rfl
  | 85, _ => rfl
  | 86, _ => rfl
  | 87, _ => rfl
  | 88, _ => rfl
  | 89, _ => rfl
  | 90, _ => rfl
  | 91, _ => rfl
  | 92, _ => rfl
  | 93, _ => rfl
  | 94, _ => rfl
  | 95, _ => rfl
  | 96, _ => rfl
  | 97, _ => rfl
  | 98, _ => rfl
  | 99, _ => rfl
  | 100, _ => rfl
  | 101, _ => rfl
  | 102, _ => rfl
  | 103, _ => rfl
  | 104, _ => rfl
  | 105, _ => rfl
  | 106, _ => rfl
  | 107, _ => rfl
  | 108, _ => rfl
  | 109, _ => rfl
  | 110, _ => rfl
  | 111, _ => rfl
  | 112, _ => rfl
  | 113, _ => rfl
  | 114, _ => rfl
  | 115, _ => rfl
  | 116, _ => rfl
  | 117, _ => rfl
  | 118, _ => rfl
  | 119, _ => rfl
  | 120, _ => rfl
  | 121, _ => rfl
  | 122, _ => rfl
  | 123, _ => rfl
  | 124, _ => rfl
  | 125, _ => rfl
  | 126, _ => rfl
  | 127, _ => rfl
  | 128, _ => rfl
  | 129, _ => rfl
  | 130, _ => rfl
  | 131, _ => rfl
  | 132, _ => rfl
  | 133, _ => rfl
  | 134, _ => rfl
  | 135, _ => rfl
  | 136, _ => rfl
  | 137, _ => rfl
  | 138, _ => rfl
  | 139, _ => rfl
  | 140, _ => rfl
  | 141, _ => rfl
  | 142, _ => rfl
  | 143, _ => rfl
  | 144, _ => rfl
  | 145, _ => rfl
  | 146, _ => rfl
  | 147, _ => rfl
  | 148, _ => rfl
  | 149, _ => rfl
  | 150, _ => rfl
  | 151, _ => rfl
  | 152, _ => rfl
  | 153, _ => rfl
  | 154, _ => rfl
  | 155, _ => rfl
  | 156, _ => rfl
  | 157, _ => rfl
  | 158, _ => rfl
  | 159, _ => rfl
  | 160, _ => rfl
  | 161, _ => rfl
  | 162, _ => rfl
  | 163, _ => rfl
  | 164, _ => rfl
  | 165, _ => rfl
  | 166, _ => rfl
  | 167, _ => rfl
  | 168, _ => rfl
  | 169, _ => rfl
  | 170, _ => rfl
  | 171, _ => rfl
  | 172, _ => rfl
  | 173, _ => rfl
  | 174, _ => rfl
  | 175, _ => rfl
  | 176, _ => rfl
  | 177, _ => rfl
  | 178, _ => rfl
  | 179, _ => rfl
  | 180, _ => rfl
  | 181, _ => rfl
  | 182, _ => rfl
  | 183, _ => rfl
  | 184, _ => rfl
  | 185, _ => rfl
  | 186, _ => rfl
  | 187, _ => rfl
  | 188, _ => rfl
  | 189, _ => rfl
  | 190, _ => rfl
  | 191, _ => rfl
  | 192, _ => rfl
  | 193, _ => rfl
  | 194, _ => rfl
  | 195, _ => rfl
  | 196, _ => rfl
  | 197, _ => rfl
  | 198, _ => rfl
  | 199, _ => rfl
  | 200, _ => rfl
  | 201, _ => rfl
  | 202, _ => rfl
  | 203, _ => rfl
  | 204, _ => rfl
  | 205, _ => rfl
  | 206, _ => rfl
  | 207, _ => rfl
  | 208, _ => rfl
  | 209, _ => rfl
  | 210, _ => rfl
  | 211, _ => rfl
  | 212, _ => rfl
  | 213, _ => rfl
  | 214, _ => rfl
  | 215, _ => rfl
  | 216, _ => rfl
  | 217, _ => rfl
  | 218, _ => rfl
  | 219, _ => rfl
  | 220, _ => rfl
  | 221, _ => rfl
  | 222, _ => rfl
  | 223, _ => rfl
  | 224, _ => rfl
  | 225, _ => rfl
  | 226, _ => rfl
  | 227, _ => rfl
  | 228, _ => rfl
  | 229, _ => rfl
  | 230, _ => rfl
  | 231, _ => rfl
  | 232, _ => rfl
  | 233, _ => rfl
  | 234, _ => rfl
  | 235, _ => rfl
  | 236, _ => rfl
  | 237, _ => rfl
  | 238, _ => rfl
  | 239, _ => rfl
  | 240, _ => rfl
  | 241, _ => rfl
  | 242, _ => rfl
  | 243, _ => rfl
  | 244, _ => rfl
  | 245, _ => rfl
  | 246, _ => rfl
  | 247, _ => rfl
  | 248, _ => rfl
  | 249, _ => rfl
  | 250, _ => rfl
  | 251, _ => rfl
  | 252, _ => rfl
  | 253, _ => rfl
  | 254, _ => rfl
  | 255, _ => rfl
  | n + 256, h => absurd h (by omega)
def u8 : F8 := ⟨undefA, undefA, undefA, undefA, undefA, undefA, undefA, undefA⟩
def u64 : F64 := ⟨u8, u8, u8, u8, u8, u8, u8, u8⟩
def u0 : Fr := ⟨u64, u64, u64, u64⟩
theorem u0_get (i : Nat) : u0.get i = undefA := by
  have h : ∀ n, u8.at n = undefA := fun i => match i with | 0 => rfl | 1 => rfl | 2 => rfl | 3 => rfl | 4 => rfl | 5 => rfl | 6 => rfl | _ + 7 => rfl
  have h2 : ∀ n, u64.at n = u8 := fun i => match i with | 0 => rfl | 1 => rfl | 2 => rfl | 3 => rfl | 4 => rfl | 5 => rfl | 6 => rfl | _ + 7 => rfl
  have h3 : ∀ n, u0.at n = u64 := fun i => match i with | 0 => rfl | 1 => rfl | 2 => rfl | _ + 3 => rfl
  simp only [Fr.get, h, h2, h3]
end
end Go.Abs.F
