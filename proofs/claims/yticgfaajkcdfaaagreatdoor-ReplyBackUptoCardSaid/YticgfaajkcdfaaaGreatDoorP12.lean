/- Part of a proof (HC2 S22 S23 S24 HB2 HB3 HB3b HB4 HB5 HB6); no condition. -/
import Derived.Test.YticgfaajkcdfaaaGreatDoorProg
import Derived.KernelRfl
import Derived.Test.YticgfaajkcdfaaaGreatDoorP7
import Derived.Test.YticgfaajkcdfaaaGreatDoorP11
set_option linter.unusedSimpArgs false
set_option linter.unusedVariables false
set_option linter.unnecessarySimpa false
namespace Go.Proofs.Ht
open Go.Abs Go.Abs.S
noncomputable section
def c13 : AFn := ⟨9, (.seq (.reg [⟨(some 4), .mv (.c (.slice none 0 (.known 0))), none⟩]) (.seq (.reg [⟨(some 5), .mv (.t 0), none⟩, ⟨(some 6), .mv (.t 1), none⟩, ⟨(some 7), .build [(.str []), (.str [])] [(0, 1, (.t 5)), (1, 1, (.t 6))], none⟩, ⟨(some 8), .buildSl 1 [(.str []), (.str [])] [(0, 2, (.t 7))], none⟩, ⟨(some 4), .mv (.t 8), none⟩]) .ret)), [.t 4]⟩
theorem za13 : cN Tryz.prog 13 = some c13 := by kernel_rfl
def c50 : AFn := ⟨54, (.seq (.reg [⟨(some 4), .mv (.c (.str [])), none⟩]) (.seq (.seq (.reg [⟨(some 10), .mv (.t 1), none⟩, ⟨(some 11), .bin .eql (.t 10) (.c (.int .i64 (.ofNat 10))), none⟩]) (.cond (.t 11) (.seq (.seq (.reg [⟨(some 12), .mv (.t 0), none⟩, ⟨(some 13), .bin .leq (.c (.int .i64 (.ofNat 0))) (.t 12), none⟩, ⟨(some 14), .mv (.t 13), none⟩, ⟨(some 15), .mv (.t 0), (some (14, true))⟩, ⟨(some 16), .bin .lss (.t 15) (.c (.int .i64 (.ofNat 100))), (some (14, true))⟩, ⟨(some 17), .pick (.t 14) (.t 16) (.c (.bool false)), none⟩]) (.cond (.t 17) (.seq (.reg [⟨(some 18), .mv (.t 0), none⟩, ⟨(some 19), .call 61 [(.t 18)], none⟩, ⟨(some 4), .mv (.t 19), none⟩]) .ret) .skip)) (.seq (.reg [⟨(some 5), .new [(.int .u8 (.ofNat 0)), (.int .u8 (.ofNat 0)), (.int .u8 (.ofNat 0)), (.int .u8 (.ofNat 0)), (.int .u8 (.ofNat 0)), (.int .u8 (.ofNat 0)), (.int .u8 (.ofNat 0)), (.int .u8 (.ofNat 0)), (.int .u8 (.ofNat 0)), (.int .u8 (.ofNat 0)), (.int .u8 (.ofNat 0)), (.int .u8 (.ofNat 0)), (.int .u8 (.ofNat 0)), (.int .u8 (.ofNat 0)), (.int .u8 (.ofNat 0)), (.int .u8 (.ofNat 0)), (.int .u8 (.ofNat 0)), (.int .u8 (.ofNat 0)), (.int .u8 (.ofNat 0)), (.int .u8 (.ofNat 0)), (.int .u8 (.ofNat 0)), (.int .u8 (.ofNat 0)), (.int .u8 (.ofNat 0)), (.int .u8 (.ofNat 0))], none⟩]) (.seq (.reg [⟨(some 20), .mv (.t 0), none⟩, ⟨(some 21), .conv .u64 (.t 20), none⟩, ⟨(some 6), .mv (.t 21), none⟩]) (.seq (.seq (.reg [⟨(some 22), .mv (.t 0), none⟩, ⟨(some 23), .bin .lss (.t 22) (.c (.int .i64 (.ofNat 0))), none⟩]) (.cond (.t 23) (.reg [⟨(some 24), .mv (.t 6), none⟩, ⟨(some 25), .un .neg (.t 24), none⟩, ⟨(some 6), .mv (.t 25), none⟩]) .skip)) (.seq (.reg [⟨(some 26), .mv (.t 6), none⟩, ⟨(some 27), .call 62 [(.t 26)], none⟩, ⟨(some 7), .mv (.t 27), none⟩]) (.seq (.reg [⟨(some 28), .mv (.t 7), none⟩, ⟨(some 29), .bin .add (.c (.int .i64 (.ofNat 1))) (.t 28), none⟩, ⟨(some 30), .slA 24 1 (.t 5) (some (.c (.int .i64 (.ofNat 1)))) (some (.t 29)) none, none⟩, ⟨(some 31), .mv (.t 6), none⟩, ⟨(some 32), .call 63 [(.t 30), (.t 31)], none⟩]) (.seq (.seq (.reg [⟨(some 33), .mv (.t 0), none⟩, ⟨(some 34), .bin .lss (.t 33) (.c (.int .i64 (.ofNat 0))), none⟩]) (.cond (.t 34) (.seq (.reg [⟨(some 35), .idxArr 24 1 (.t 5) (.c (.int .i64 (.ofNat 0))), none⟩, ⟨none, .store 1 (.t 35) (.c (.int .u8 (.ofNat 45))), none⟩]) (.seq (.reg [⟨(some 36), .mv (.t 7), none⟩, ⟨(some 37), .bin .add (.c (.int .i64 (.ofNat 1))) (.t 36), none⟩, ⟨(some 38), .slA 24 1 (.t 5) none (some (.t 37)) none, none⟩, ⟨(some 39), .convBS (.t 38), none⟩, ⟨(some 4), .mv (.t 39), none⟩]) .ret)) .skip)) (.seq (.reg [⟨(some 40), .mv (.t 7), none⟩, ⟨(some 41), .bin .add (.c (.int .i64 (.ofNat 1))) (.t 40), none⟩, ⟨(some 42), .slA 24 1 (.t 5) (some (.c (.int .i64 (.ofNat 1)))) (some (.t 41)) none, none⟩, ⟨(some 43), .convBS (.t 42), none⟩, ⟨(some 4), .mv (.t 43), none⟩]) .ret)))))))) .skip)) (.seq (.reg [⟨(some 45), .mv (.t 0), none⟩, ⟨(some 46), .conv .u64 (.t 45), none⟩, ⟨(some 47), .mv (.t 1), none⟩, ⟨(some 48), .mv (.t 0), none⟩, ⟨(some 49), .bin .lss (.t 48) (.c (.int .i64 (.ofNat 0))), none⟩, ⟨(some 50), .call 64 [(.c (.slice none 0 (.known 0))), (.t 46), (.t 47), (.t 49), (.c (.bool false))], none⟩, ⟨(some 44), .mv (.t 50), none⟩, ⟨(some 51), .extract 0 (.t 44), none⟩, ⟨(some 52), .extract 1 (.t 44), none⟩, ⟨(some 8), .mv (.t 51), none⟩, ⟨(some 9), .mv (.t 52), none⟩]) (.seq (.reg [⟨(some 53), .mv (.t 9), none⟩, ⟨(some 4), .mv (.t 53), none⟩]) .ret)))), [.t 4]⟩
theorem za50 : cN Tryz.prog 50 = some c50 := by kernel_rfl
def c64 : AFn := ⟨102, (.seq (.reg [⟨(some 10), .mv (.c (.slice none 0 (.known 0))), none⟩, ⟨(some 11), .mv (.c (.str [])), none⟩]) (.seq (.seq (.reg [⟨(some 19), .mv (.t 2), none⟩, ⟨(some 20), .bin .lss (.t 19) (.c (.int .i64 (.ofNat 2))), none⟩, ⟨(some 21), .mv (.t 20), none⟩, ⟨(some 22), .mv (.t 2), (some (21, false))⟩, ⟨(some 23), .bin .eql (.t 22) (.c (.int .i64 (.ofNat 10))), (some (21, false))⟩, ⟨(some 24), .pick (.t 21) (.c (.bool true)) (.t 23), none⟩, ⟨(some 25), .mv (.t 24), none⟩, ⟨(some 26), .mv (.t 2), (some (25, false))⟩, ⟨(some 27), .bin .gtr (.t 26) (.c (.int .i64 (.ofNat 36))), (some (25, false))⟩, ⟨(some 28), .pick (.t 25) (.c (.bool true)) (.t 27), none⟩]) (.cond (.t 28) (.reg [⟨(some 29), .mkIface 9 (.c (.str [115, 116, 114, 99, 111, 110, 118, 58, 32, 105, 108, 108, 101, 103, 97, 108, 32, 65, 112, 112, 101, 110, 100, 73, 110, 116, 47, 70, 111, 114, 109, 97, 116, 73, 110, 116, 32, 98, 97, 115, 101])), none⟩, ⟨none, .bad, none⟩]) .skip)) (.seq (.reg [⟨(some 12), .new [(.int .u8 (.ofNat 0)), (.int .u8 (.ofNat 0)), (.int .u8 (.ofNat 0)), (.int .u8 (.ofNat 0)), (.int .u8 (.ofNat 0)), (.int .u8 (.ofNat 0)), (.int .u8 (.ofNat 0)), (.int .u8 (.ofNat 0)), (.int .u8 (.ofNat 0)), (.int .u8 (.ofNat 0)), (.int .u8 (.ofNat 0)), (.int .u8 (.ofNat 0)), (.int .u8 (.ofNat 0)), (.int .u8 (.ofNat 0)), (.int .u8 (.ofNat 0)), (.int .u8 (.ofNat 0)), (.int .u8 (.ofNat 0)), (.int .u8 (.ofNat 0)), (.int .u8 (.ofNat 0)), (.int .u8 (.ofNat 0)), (.int .u8 (.ofNat 0)), (.int .u8 (.ofNat 0)), (.int .u8 (.ofNat 0)), (.int .u8 (.ofNat 0)), (.int .u8 (.ofNat 0)), (.int .u8 (.ofNat 0)), (.int .u8 (.ofNat 0)), (.int .u8 (.ofNat 0)), (.int .u8 (.ofNat 0)), (.int .u8 (.ofNat 0)), (.int .u8 (.ofNat 0)), (.int .u8 (.ofNat 0)), (.int .u8 (.ofNat 0)), (.int .u8 (.ofNat 0)), (.int .u8 (.ofNat 0)), (.int .u8 (.ofNat 0)), (.int .u8 (.ofNat 0)), (.int .u8 (.ofNat 0)), (.int .u8 (.ofNat 0)), (.int .u8 (.ofNat 0)), (.int .u8 (.ofNat 0)), (.int .u8 (.ofNat 0)), (.int .u8 (.ofNat 0)), (.int .u8 (.ofNat 0)), (.int .u8 (.ofNat 0)), (.int .u8 (.ofNat 0)), (.int .u8 (.ofNat 0)), (.int .u8 (.ofNat 0)), (.int .u8 (.ofNat 0)), (.int .u8 (.ofNat 0)), (.int .u8 (.ofNat 0)), (.int .u8 (.ofNat 0)), (.int .u8 (.ofNat 0)), (.int .u8 (.ofNat 0)), (.int .u8 (.ofNat 0)), (.int .u8 (.ofNat 0)), (.int .u8 (.ofNat 0)), (.int .u8 (.ofNat 0)), (.int .u8 (.ofNat 0)), (.int .u8 (.ofNat 0)), (.int .u8 (.ofNat 0)), (.int .u8 (.ofNat 0)), (.int .u8 (.ofNat 0)), (.int .u8 (.ofNat 0)), (.int .u8 (.ofNat 0))], none⟩]) (.seq (.reg [⟨(some 13), .mv (.c (.int .i64 (.ofNat 65))), none⟩]) (.seq (.seq (.reg [⟨(some 30), .mv (.t 3), none⟩]) (.cond (.t 30) (.reg [⟨(some 31), .mv (.t 1), none⟩, ⟨(some 32), .un .neg (.t 31), none⟩, ⟨(some 1), .mv (.t 32), none⟩]) .skip)) (.seq (.seq (.reg [⟨(some 33), .mv (.t 2), none⟩, ⟨(some 34), .call 86 [(.t 33)], none⟩]) (.cond (.t 34) (.seq (.reg [⟨(some 35), .mv (.t 2), none⟩, ⟨(some 36), .conv .u64 (.t 35), none⟩, ⟨(some 37), .call 87 [(.t 36)], none⟩, ⟨(some 38), .conv .u64 (.t 37), none⟩, ⟨(some 14), .mv (.t 38), none⟩]) (.seq (.reg [⟨(some 39), .mv (.t 2), none⟩, ⟨(some 40), .conv .u64 (.t 39), none⟩, ⟨(some 15), .mv (.t 40), none⟩]) (.seq (.reg [⟨(some 41), .mv (.t 2), none⟩, ⟨(some 42), .conv .u64 (.t 41), none⟩, ⟨(some 43), .bin .sub (.t 42) (.c (.int .u64 (.ofNat 1))), none⟩, ⟨(some 16), .mv (.t 43), none⟩]) (.seq (.block 0 (.loop (.seq (.seq (.reg [⟨(some 44), .mv (.t 1), none⟩, ⟨(some 45), .mv (.t 15), none⟩, ⟨(some 46), .bin .geq (.t 44) (.t 45), none⟩]) (.cond (.t 46) .skip (.exit 0))) (.block 1 (.seq (.reg [⟨(some 47), .mv (.t 13), none⟩, ⟨(some 48), .bin .sub (.t 47) (.c (.int .i64 (.ofNat 1))), none⟩, ⟨(some 13), .mv (.t 48), none⟩]) (.seq (.reg [⟨(some 49), .mv (.t 13), none⟩, ⟨(some 50), .mv (.t 1), none⟩, ⟨(some 51), .mv (.t 16), none⟩, ⟨(some 52), .bin .and (.t 50) (.t 51), none⟩, ⟨(some 53), .idxS (.c (.str [48, 49, 50, 51, 52, 53, 54, 55, 56, 57, 97, 98, 99, 100, 101, 102, 103, 104, 105, 106, 107, 108, 109, 110, 111, 112, 113, 114, 115, 116, 117, 118, 119, 120, 121, 122])) (.t 52), none⟩, ⟨(some 54), .idxArr 65 1 (.t 12) (.t 49), none⟩, ⟨none, .store 1 (.t 54) (.t 53), none⟩]) (.reg [⟨(some 55), .mv (.t 1), none⟩, ⟨(some 56), .mv (.t 14), none⟩, ⟨(some 57), .bin .shr (.t 55) (.t 56), none⟩, ⟨(some 1), .mv (.t 57), none⟩]))))))) (.seq (.reg [⟨(some 58), .mv (.t 13), none⟩, ⟨(some 59), .bin .sub (.t 58) (.c (.int .i64 (.ofNat 1))), none⟩, ⟨(some 13), .mv (.t 59), none⟩]) (.reg [⟨(some 60), .mv (.t 13), none⟩, ⟨(some 61), .mv (.t 1), none⟩, ⟨(some 62), .idxS (.c (.str [48, 49, 50, 51, 52, 53, 54, 55, 56, 57, 97, 98, 99, 100, 101, 102, 103, 104, 105, 106, 107, 108, 109, 110, 111, 112, 113, 114, 115, 116, 117, 118, 119, 120, 121, 122])) (.t 61), none⟩, ⟨(some 63), .idxArr 65 1 (.t 12) (.t 60), none⟩, ⟨none, .store 1 (.t 63) (.t 62), none⟩])))))) (.seq (.reg [⟨(some 64), .mv (.t 2), none⟩, ⟨(some 65), .conv .u64 (.t 64), none⟩, ⟨(some 17), .mv (.t 65), none⟩]) (.seq (.block 2 (.loop (.seq (.seq (.reg [⟨(some 66), .mv (.t 1), none⟩, ⟨(some 67), .mv (.t 17), none⟩, ⟨(some 68), .bin .geq (.t 66) (.t 67), none⟩]) (.cond (.t 68) .skip (.exit 2))) (.block 3 (.seq (.reg [⟨(some 69), .mv (.t 13), none⟩, ⟨(some 70), .bin .sub (.t 69) (.c (.int .i64 (.ofNat 1))), none⟩, ⟨(some 13), .mv (.t 70), none⟩]) (.seq (.reg [⟨(some 71), .mv (.t 1), none⟩, ⟨(some 72), .mv (.t 17), none⟩, ⟨(some 73), .bin .quo (.t 71) (.t 72), none⟩, ⟨(some 18), .mv (.t 73), none⟩]) (.seq (.reg [⟨(some 74), .mv (.t 13), none⟩, ⟨(some 75), .mv (.t 1), none⟩, ⟨(some 76), .mv (.t 18), none⟩, ⟨(some 77), .mv (.t 17), none⟩, ⟨(some 78), .bin .mul (.t 76) (.t 77), none⟩, ⟨(some 79), .bin .sub (.t 75) (.t 78), none⟩, ⟨(some 80), .idxS (.c (.str [48, 49, 50, 51, 52, 53, 54, 55, 56, 57, 97, 98, 99, 100, 101, 102, 103, 104, 105, 106, 107, 108, 109, 110, 111, 112, 113, 114, 115, 116, 117, 118, 119, 120, 121, 122])) (.t 79), none⟩, ⟨(some 81), .idxArr 65 1 (.t 12) (.t 74), none⟩, ⟨none, .store 1 (.t 81) (.t 80), none⟩]) (.reg [⟨(some 82), .mv (.t 18), none⟩, ⟨(some 1), .mv (.t 82), none⟩])))))))) (.seq (.reg [⟨(some 83), .mv (.t 13), none⟩, ⟨(some 84), .bin .sub (.t 83) (.c (.int .i64 (.ofNat 1))), none⟩, ⟨(some 13), .mv (.t 84), none⟩]) (.reg [⟨(some 85), .mv (.t 13), none⟩, ⟨(some 86), .mv (.t 1), none⟩, ⟨(some 87), .idxS (.c (.str [48, 49, 50, 51, 52, 53, 54, 55, 56, 57, 97, 98, 99, 100, 101, 102, 103, 104, 105, 106, 107, 108, 109, 110, 111, 112, 113, 114, 115, 116, 117, 118, 119, 120, 121, 122])) (.t 86), none⟩, ⟨(some 88), .idxArr 65 1 (.t 12) (.t 85), none⟩, ⟨none, .store 1 (.t 88) (.t 87), none⟩])))))) (.seq (.seq (.reg [⟨(some 89), .mv (.t 3), none⟩]) (.cond (.t 89) (.seq (.reg [⟨(some 90), .mv (.t 13), none⟩, ⟨(some 91), .bin .sub (.t 90) (.c (.int .i64 (.ofNat 1))), none⟩, ⟨(some 13), .mv (.t 91), none⟩]) (.reg [⟨(some 92), .mv (.t 13), none⟩, ⟨(some 93), .idxArr 65 1 (.t 12) (.t 92), none⟩, ⟨none, .store 1 (.t 93) (.c (.int .u8 (.ofNat 45))), none⟩])) .skip)) (.seq (.seq (.reg [⟨(some 94), .mv (.t 4), none⟩]) (.cond (.t 94) (.seq (.reg [⟨(some 95), .mv (.t 0), none⟩, ⟨(some 96), .mv (.t 13), none⟩, ⟨(some 97), .slA 65 1 (.t 12) (some (.t 96)) none none, none⟩, ⟨(some 98), .append 1 1 (.t 95) (.t 97), none⟩, ⟨(some 10), .mv (.t 98), none⟩]) .ret) .skip)) (.seq (.reg [⟨(some 99), .mv (.t 13), none⟩, ⟨(some 100), .slA 65 1 (.t 12) (some (.t 99)) none none, none⟩, ⟨(some 101), .convBS (.t 100), none⟩, ⟨(some 11), .mv (.t 101), none⟩]) .ret))))))))), [.t 10, .t 11]⟩
theorem za64 : cN Tryz.prog 64 = some c64 := by kernel_rfl
def c86 : AFn := ⟨8, (.seq (.reg [⟨(some 2), .mv (.c (.bool false)), none⟩]) (.seq (.reg [⟨(some 3), .mv (.t 0), none⟩, ⟨(some 4), .mv (.t 0), none⟩, ⟨(some 5), .bin .sub (.t 4) (.c (.int .i64 (.ofNat 1))), none⟩, ⟨(some 6), .bin .and (.t 3) (.t 5), none⟩, ⟨(some 7), .bin .eql (.t 6) (.c (.int .i64 (.ofNat 0))), none⟩, ⟨(some 2), .mv (.t 7), none⟩]) .ret)), [.t 2]⟩
theorem za86 : cN Tryz.prog 86 = some c86 := by kernel_rfl
def c87 : AFn := ⟨8, (.seq (.reg [⟨(some 2), .mv (.c (.int .i64 (.ofNat 0))), none⟩]) (.seq (.cond (.c (.bool false)) (.seq (.reg [⟨(some 3), .mv (.t 0), none⟩, ⟨(some 4), .conv .u32 (.t 3), none⟩, ⟨(some 5), .call 99 [(.t 4)], none⟩, ⟨(some 2), .mv (.t 5), none⟩]) .ret) .skip) (.seq (.reg [⟨(some 6), .mv (.t 0), none⟩, ⟨(some 7), .call 100 [(.t 6)], none⟩, ⟨(some 2), .mv (.t 7), none⟩]) .ret))), [.t 2]⟩
theorem za87 : cN Tryz.prog 87 = some c87 := by kernel_rfl
def c100 : AFn := ⟨14, (.seq (.reg [⟨(some 2), .mv (.c (.int .i64 (.ofNat 0))), none⟩]) (.seq (.seq (.reg [⟨(some 3), .mv (.t 0), none⟩, ⟨(some 4), .bin .eql (.t 3) (.c (.int .u64 (.ofNat 0))), none⟩]) (.cond (.t 4) (.seq (.reg [⟨(some 2), .mv (.c (.int .i64 (.ofNat 64))), none⟩]) .ret) .skip)) (.seq (.reg [⟨(some 5), .mv (.t 0), none⟩, ⟨(some 6), .mv (.t 0), none⟩, ⟨(some 7), .un .neg (.t 6), none⟩, ⟨(some 8), .bin .and (.t 5) (.t 7), none⟩, ⟨(some 9), .bin .mul (.t 8) (.c (.int .u64 (.ofNat 285870213051353865))), none⟩, ⟨(some 10), .bin .shr (.t 9) (.c (.int .u64 (.ofNat 58))), none⟩, ⟨(some 11), .hf (.gIdx 6 64 1) [(.t 10)], none⟩, ⟨(some 12), .load false 1 (.t 11), none⟩, ⟨(some 13), .conv .i64 (.t 12), none⟩, ⟨(some 2), .mv (.t 13), none⟩]) .ret))), [.t 2]⟩
theorem za100 : cN Tryz.prog 100 = some c100 := by kernel_rfl
def c14 : AFn := ⟨15, (.seq (.reg [⟨(some 6), .mv (.c (.bool false)), none⟩]) (.seq (.reg [⟨(some 7), .mv (.t 1), none⟩, ⟨(some 8), .bin .eql (.t 7) (.c (.int .i64 (.ofNat 0))), none⟩, ⟨(some 9), .mv (.t 8), none⟩, ⟨(some 10), .mv (.t 0), (some (9, true))⟩, ⟨(some 11), .convBS (.t 10), (some (9, true))⟩, ⟨(some 12), .mv (.t 2), (some (9, true))⟩, ⟨(some 13), .bin .eql (.t 11) (.t 12), (some (9, true))⟩, ⟨(some 14), .pick (.t 9) (.t 13) (.c (.bool false)), none⟩, ⟨(some 6), .mv (.t 14), none⟩]) .ret)), [.t 6]⟩
theorem za14 : cN Tryz.prog 14 = some c14 := by kernel_rfl
def c15 : AFn := ⟨37, (.seq (.reg [⟨(some 4), .mv (.c (.bool false)), none⟩]) (.seq (.reg [⟨(some 10), .mv (.t 0), none⟩, ⟨(some 11), .mv (.t 1), none⟩, ⟨(some 12), .call 13 [(.t 10), (.t 11)], none⟩, ⟨(some 13), .call 6 [(.c (.int .i64 (.ofNat 200))), (.t 12), (.c (.slice none 0 (.known 0)))], none⟩, ⟨(some 9), .mv (.t 13), none⟩, ⟨(some 14), .extract 0 (.t 9), none⟩, ⟨(some 15), .extract 1 (.t 9), none⟩, ⟨(some 5), .mv (.t 14), none⟩, ⟨(some 6), .mv (.t 15), none⟩]) (.seq (.reg [⟨(some 17), .mv (.t 0), none⟩, ⟨(some 18), .mv (.t 1), none⟩, ⟨(some 19), .call 13 [(.t 17), (.t 18)], none⟩, ⟨(some 20), .call 12 [(.t 19)], none⟩, ⟨(some 16), .mv (.t 20), none⟩, ⟨(some 21), .extract 0 (.t 16), none⟩, ⟨(some 22), .extract 1 (.t 16), none⟩, ⟨(some 7), .mv (.t 21), none⟩, ⟨(some 8), .mv (.t 22), none⟩]) (.seq (.reg [⟨(some 23), .mv (.t 5), none⟩, ⟨(some 24), .len false (.t 23), none⟩, ⟨(some 25), .mv (.t 7), none⟩, ⟨(some 26), .len false (.t 25), none⟩, ⟨(some 27), .bin .add (.t 24) (.t 26), none⟩, ⟨(some 28), .bin .eql (.t 27) (.c (.int .i64 (.ofNat 0))), none⟩, ⟨(some 29), .mv (.t 28), none⟩, ⟨(some 30), .mv (.t 6), (some (29, true))⟩, ⟨(some 31), .bin .eql (.t 30) (.c (.int .i64 (.ofNat 21))), (some (29, true))⟩, ⟨(some 32), .pick (.t 29) (.t 31) (.c (.bool false)), none⟩, ⟨(some 33), .mv (.t 32), none⟩, ⟨(some 34), .mv (.t 8), (some (33, true))⟩, ⟨(some 35), .bin .eql (.t 34) (.c (.int .i64 (.ofNat 21))), (some (33, true))⟩, ⟨(some 36), .pick (.t 33) (.t 35) (.c (.bool false)), none⟩, ⟨(some 4), .mv (.t 36), none⟩]) .ret)))), [.t 4]⟩
theorem za15 : cN Tryz.prog 15 = some c15 := by kernel_rfl
end
end Go.Proofs.Ht
namespace Go.Abs.S
open Go.Abs
theorem wrap_u (k : IntKind) (hk : k = .u8 ∨ k = .u16 ∨ k = .u32 ∨ k = .u64) {a : Nat} (h : a < 2 ^ k.bits) : k.wrap (a : Int) = a := by
  rcases hk with rfl | rfl | rfl | rfl
  · rw [IntKind.wrap_u8]; simp only [IntKind.bits] at h; omega
  · rw [IntKind.wrap_u16]; simp only [IntKind.bits] at h; omega
  · rw [IntKind.wrap_u32]; simp only [IntKind.bits] at h; omega
  · rw [IntKind.wrap_u64]; simp only [IntKind.bits] at h; omega
theorem bin_andU (k : IntKind) (hk : k = .u8 ∨ k = .u16 ∨ k = .u32 ∨ k = .u64) {a b : Nat} (ha : a < 2 ^ k.bits) (hb : b < 2 ^ k.bits) : aBin .and (.int k (a : Int)) (.int k (b : Int)) = some (.int k ((a &&& b : Nat) : Int)) := by
  have e : (BitVec.ofInt k.bits (a : Int) &&& BitVec.ofInt k.bits (b : Int)).toNat = a &&& b := by
    rw [BitVec.toNat_and, ofInt_nat, ofInt_nat, Nat.mod_eq_of_lt ha, Nat.mod_eq_of_lt hb]
  simp only [aBin, isShift, cond_false, if_true, aIntF_eq, aInt, e]
  rw [wrap_u k hk (Nat.and_lt_two_pow _ hb)]
def upT (τ : Nat → Nat) (H H' : AHeap) (k : Nat) : Nat → Nat := fun c => if c < H.next then τ c else if c < H'.next then k else 0
theorem upT_old {τ : Nat → Nat} {H H' : AHeap} {k c : Nat} (h : c < H.next) : upT τ H H' k c = τ c := if_pos h
theorem upT_new {τ : Nat → Nat} {H H' : AHeap} {k c : Nat} (h : H.next ≤ c) (h' : c < H'.next) : upT τ H H' k c = k := by
  unfold upT; rw [if_neg (by omega), if_pos h']
theorem upT_z {τ : Nat → Nat} {H H' : AHeap} {k c : Nat} (hn : H.next ≤ H'.next) (h : H'.next ≤ c) : upT τ H H' k c = 0 := by
  unfold upT; rw [if_neg (by omega), if_neg (by omega)]
end Go.Abs.S
namespace Go.Abs.S
open Go.Abs
end Go.Abs.S
namespace Go.Abs.S
open Go.Abs
theorem bnd_lh {len c lo hi : Nat} (h1 : lo ≤ hi) (h2 : hi ≤ c) : aBnd len c (some (.int .i64 (lo : Int))) (some (.int .i64 (hi : Int))) none = some (lo, hi, none) := by
  show (match bdO (some (AVal.int .i64 (Int.ofNat hi))) c len with | some h => (match bdO (some (AVal.int .i64 (Int.ofNat lo))) h 0 with | some l => some (l, h, none) | none => none) | none => none) = _
  simp only [bdO, bd, Nat.ble_eq_true_of_le h2, Nat.ble_eq_true_of_le h1, cond_true]
theorem bnd_l {len c lo : Nat} (h1 : lo ≤ len) : aBnd len c (some (.int .i64 (lo : Int))) none none = some (lo, len, none) := by
  show (match bdO none c len with | some h => (match bdO (some (AVal.int .i64 (Int.ofNat lo))) h 0 with | some l => some (l, h, none) | none => none) | none => none) = _
  simp only [bdO, bd, Nat.ble_eq_true_of_le h1, cond_true]
end Go.Abs.S
namespace Go.Proofs.Ht
open Go.Abs Go.Abs.S
set_option linter.unusedSimpArgs false
def b64L : List Int := [0, 1, 56, 2, 57, 49, 28, 3, 61, 58, 42, 50, 38, 29, 17, 4, 62, 47, 59, 36, 45, 43, 51, 22, 53, 39, 33, 30, 24, 18, 12, 5, 63, 55, 48, 27, 60, 41, 37, 16, 46, 35, 44, 21, 52, 32, 23, 11, 54, 26, 40, 15, 34, 20, 31, 10, 25, 14, 19, 9, 13, 8, 7, 6]
def b64 : List AVal := b64L.map (.int .u8)
def digL : Bs := [48, 49, 50, 51, 52, 53, 54, 55, 56, 57, 97, 98, 99, 100, 101, 102, 103, 104, 105, 106, 107, 108, 109, 110, 111, 112, 113, 114, 115, 116, 117, 118, 119, 120, 121, 122]
def dgx (u : Nat) : UInt8 := digL.getD u 0
def hexq : Nat → Nat → Bs → Bs
  | 0, u, acc => dgx u :: acc
  | f + 1, u, acc => if u < 16 then dgx u :: acc else hexq f (u / 16) (dgx (u % 16) :: acc)
def hexS (n : Nat) : Bs := hexq 4 n []
theorem hex_tab : (List.range 1001).all (fun n => Nat.ble (hexS n).length 7 && (Nat.ble 1 (hexS n).length && ((hexS n).all hexB && Nat.beq (hexF (hexS n)) n))) = true := by decide +kernel
theorem hex_ok {n : Nat} (h : n ≤ 1000) : XOk (hexS n) n := by
  have := List.all_eq_true.1 hex_tab n (List.mem_range.2 (by omega))
  simp only [Bool.and_eq_true, Nat.ble_eq, Nat.beq_eq] at this
  exact ⟨this.2.1, this.1, this.2.2.1, this.2.2.2⟩
theorem set_drop {α : Type} : ∀ (l : List α) (i : Nat) (x : α), i < l.length → (l.set i x).drop i = x :: l.drop (i + 1)
  | [], i, x, h => by simp at h
  | a :: l, 0, x, _ => by simp
  | a :: l, i + 1, x, h => by
    simp only [List.set_cons_succ, List.drop_succ_cons]
    exact set_drop l i x (by simpa using h)
set_option maxRecDepth 100000 in
theorem z65 : [AVal.int .u8 0, .int .u8 0, .int .u8 0, .int .u8 0, .int .u8 0, .int .u8 0, .int .u8 0, .int .u8 0, .int .u8 0, .int .u8 0, .int .u8 0, .int .u8 0, .int .u8 0, .int .u8 0, .int .u8 0, .int .u8 0, .int .u8 0, .int .u8 0, .int .u8 0, .int .u8 0, .int .u8 0, .int .u8 0, .int .u8 0, .int .u8 0, .int .u8 0, .int .u8 0, .int .u8 0, .int .u8 0, .int .u8 0, .int .u8 0, .int .u8 0, .int .u8 0, .int .u8 0, .int .u8 0, .int .u8 0, .int .u8 0, .int .u8 0, .int .u8 0, .int .u8 0, .int .u8 0, .int .u8 0, .int .u8 0, .int .u8 0, .int .u8 0, .int .u8 0, .int .u8 0, .int .u8 0, .int .u8 0, .int .u8 0, .int .u8 0, .int .u8 0, .int .u8 0, .int .u8 0, .int .u8 0, .int .u8 0, .int .u8 0, .int .u8 0, .int .u8 0, .int .u8 0, .int .u8 0, .int .u8 0, .int .u8 0, .int .u8 0, .int .u8 0, .int .u8 0] = List.replicate 65 (AVal.int .u8 0) := _root_.id rfl
theorem tz_spec {H : AHeap} (hB : Glo H 6 b64) : ACalls Tryz.prog natX 100 [.int .u64 16] H fun v H' => v = .int .i64 4 ∧ H = H' := by
  refine acalls_ofN rfl za100 rfl ?_
  have q1 : aUn .neg (.int .u64 16) = some (.int .u64 18446744073709551600) := rfl
  have q2 : aBin .and (.int .u64 16) (.int .u64 18446744073709551600) = some (.int .u64 16) := rfl
  have q3 : aBin .mul (.int .u64 16) (.int .u64 285870213051353865) = some (.int .u64 4573923408821661840) := rfl
  have q4 : aBin .shr (.int .u64 4573923408821661840) (.int .u64 58) = some (.int .u64 15) := rfl
  have g1 : aHf (.gIdx 6 64 1) H [.int .u64 15] = some (cellR 6 64 15, H) := gl_idx hB rfl (i := 15) (by decide) .u64
  have g2 : oLoad false 1 H (cellR 6 64 15) = some (.int .u8 4) := gl_load hB rfl (i := 15) rfl
  have w1 : IntKind.i64.wrap 4 = 4 := rfl
  have w2 : IntKind.u64.wrap (16 * 285870213051353865) = 4573923408821661840 := rfl
  have w3 : IntKind.u64.wrap (-16) = 18446744073709551600 := rfl
  simp only [c100, sA, Int.reduceNegSucc, reduceCtorEq, Nat.reduceEqDiff, ↓reduceIte, Nat.reduceAdd, Int.reduceEq, Int.reduceLT, Int.reduceLE, Nat.reduceLT, q1, w3, q2, w2, q3, q4, g1, g2, conv_in, w1]
  exact ⟨(by first | with_reducible rfl | trivial | rfl | assumption), (by first | with_reducible rfl | trivial | rfl | assumption)⟩
theorem tzi_spec {H : AHeap} (hB : Glo H 6 b64) : ACalls Tryz.prog natX 87 [.int .u64 16] H fun v H' => v = .int .i64 4 ∧ H = H' := by
  refine acalls_ofN rfl za87 rfl ?_
  simp only [c87, sA, Int.reduceNegSucc, reduceCtorEq, Nat.reduceEqDiff, ↓reduceIte, Nat.reduceAdd, Int.reduceEq, Int.reduceLT, Int.reduceLE, Nat.reduceLT]
  refine (tz_spec hB).mono ?_
  rintro _ _ ⟨rfl, rfl⟩
  simp only [sA, Int.reduceNegSucc, reduceCtorEq, Nat.reduceEqDiff, ↓reduceIte, Nat.reduceAdd, Int.reduceEq, Int.reduceLT, Int.reduceLE, Nat.reduceLT]
  exact ⟨(by first | with_reducible rfl | trivial | rfl | assumption), (by first | with_reducible rfl | trivial | rfl | assumption)⟩
theorem pow_spec {H : AHeap} : ACalls Tryz.prog natX 86 [.int .i64 16] H fun v H' => v = .bool true ∧ H = H' := by
  refine acalls_ofN rfl za86 rfl ?_
  have q1 : IntKind.i64.wrap (16 - 1) = 15 := rfl
  have q2 : aBin .and (.int .i64 16) (.int .i64 15) = some (.int .i64 0) := rfl
  have q3 : IntKind.i64.wrap 15 = 15 := rfl
  simp only [c86, sA, Int.reduceNegSucc, reduceCtorEq, Nat.reduceEqDiff, ↓reduceIte, Nat.reduceAdd, Int.reduceEq, Int.reduceLT, Int.reduceLE, Nat.reduceLT, q1, q3, q2]
  exact ⟨(by first | with_reducible rfl | trivial | rfl | assumption), (by first | with_reducible rfl | trivial | rfl | assumption)⟩
theorem bits_spec {H : AHeap} (hB : Glo H 6 b64) (h6 : 6 < H.next) (n : Nat) (hn : n ≤ 1000) : ACalls Tryz.prog natX 64 [nilS, .int .u64 (n : Int), .int .i64 16, .bool false, .bool false] H fun v H' => v = .tuple [nilS, .str (hexS n)] ∧ Ext H.next H H' := by
  refine acalls_ofN rfl za64 rfl ?_
  obtain ⟨a, ha⟩ : ∃ a, a = H.next := ⟨_, rfl⟩
  obtain ⟨H1, m1, r1, n1, o1⟩ := row_newL H (List.replicate 65 (AVal.int .u8 0)) (n := 65) (by simp)
  rw [← ha] at m1 r1 o1
  rw [← z65] at m1
  have E1 : Ext H.next H H1 := ⟨by omega, fun c hc => o1 c (by omega)⟩
  have w1 : IntKind.u64.wrap 16 = 16 := rfl
  have w2 : IntKind.u64.wrap (16 - 1) = 15 := rfl
  have w3 : IntKind.u64.wrap 4 = 4 := rfl
  have w4 : IntKind.u64.wrap 15 = 15 := rfl
  have B1 : Glo H1 6 b64 := hB.ext h6 E1
  simp only [c64, sA, Int.reduceNegSucc, reduceCtorEq, Nat.reduceEqDiff, ↓reduceIte, Nat.reduceAdd, Int.reduceEq, Int.reduceLT, Int.reduceLE, Nat.reduceLT, m1]
  refine pow_spec.mono ?_
  rintro _ _ ⟨rfl, rfl⟩
  simp only [sA, Int.reduceNegSucc, reduceCtorEq, Nat.reduceEqDiff, ↓reduceIte, Nat.reduceAdd, Int.reduceEq, Int.reduceLT, Int.reduceLE, Nat.reduceLT, conv_in, w1]
  refine (tzi_spec B1).mono ?_
  rintro _ _ ⟨rfl, rfl⟩
  simp only [sA, Int.reduceNegSucc, reduceCtorEq, Nat.reduceEqDiff, ↓reduceIte, Nat.reduceAdd, Int.reduceEq, Int.reduceLT, Int.reduceLE, Nat.reduceLT, conv_in, w1, w2, w3, w4]
  have dgi : ∀ u : Nat, u < 36 → aIdxS (.str [48, 49, 50, 51, 52, 53, 54, 55, 56, 57, 97, 98, 99, 100, 101, 102, 103, 104, 105, 106, 107, 108, 109, 110, 111, 112, 113, 114, 115, 116, 117, 118, 119, 120, 121, 122]) (.int .u64 (u : Int)) = some (.int .u8 ((dgx u).toNat : Int)) := fun u hu =>
    str_idx (s := digL) (i := u) (b := dgx u) (by unfold dgx; rw [List.getD_eq_getElem?_getD, List.getElem?_eq_getElem (show u < digL.length from hu)]; rfl) .u64
  refine aw_loop (fun m (T : Env) H' => ∃ (f u i : Nat) (acc : Bs) (l : List AVal), m = f ∧ T 1 = .int .u64 (u : Int) ∧ T 3 = .bool false ∧ T 4 = .bool false ∧ T 12 = cellR a 65 0 ∧ T 13 = .int .i64 (i : Int) ∧ T 14 = .int .u64 4 ∧ T 15 = .int .u64 16 ∧ T 16 = .int .u64 15 ∧ T 10 = .slice none 0 (.known 0) ∧ l.length = 65 ∧ i + acc.length = 65 ∧ l.drop i = byts acc ∧ Row H' a l ∧ H'.next = H1.next ∧ (∀ c, c ≠ a → H'.get c = H1.get c) ∧ hexq f u acc = hexS n ∧ u < 16 ^ (f + 1) ∧ u ≤ 1000 ∧ 61 + f ≤ i + 0) 4
    ⟨4, n, 65, [], List.replicate 65 (AVal.int .u8 0), rfl, by simp only [sA, Int.reduceNegSucc, reduceCtorEq, Nat.reduceEqDiff, ↓reduceIte, Nat.reduceAdd, Int.reduceEq, Int.reduceLT, Int.reduceLE, Nat.reduceLT], by simp only [sA, Int.reduceNegSucc, reduceCtorEq, Nat.reduceEqDiff, ↓reduceIte, Nat.reduceAdd, Int.reduceEq, Int.reduceLT, Int.reduceLE, Nat.reduceLT], by simp only [sA, Int.reduceNegSucc, reduceCtorEq, Nat.reduceEqDiff, ↓reduceIte, Nat.reduceAdd, Int.reduceEq, Int.reduceLT, Int.reduceLE, Nat.reduceLT], by simp only [sA, Int.reduceNegSucc, reduceCtorEq, Nat.reduceEqDiff, ↓reduceIte, Nat.reduceAdd, Int.reduceEq, Int.reduceLT, Int.reduceLE, Nat.reduceLT], by simp only [sA, Int.reduceNegSucc, reduceCtorEq, Nat.reduceEqDiff, ↓reduceIte, Nat.reduceAdd, Int.reduceEq, Int.reduceLT, Int.reduceLE, Nat.reduceLT]; try rfl, by simp only [sA, Int.reduceNegSucc, reduceCtorEq, Nat.reduceEqDiff, ↓reduceIte, Nat.reduceAdd, Int.reduceEq, Int.reduceLT, Int.reduceLE, Nat.reduceLT], by simp only [sA, Int.reduceNegSucc, reduceCtorEq, Nat.reduceEqDiff, ↓reduceIte, Nat.reduceAdd, Int.reduceEq, Int.reduceLT, Int.reduceLE, Nat.reduceLT], by simp only [sA, Int.reduceNegSucc, reduceCtorEq, Nat.reduceEqDiff, ↓reduceIte, Nat.reduceAdd, Int.reduceEq, Int.reduceLT, Int.reduceLE, Nat.reduceLT], by simp only [sA, Int.reduceNegSucc, reduceCtorEq, Nat.reduceEqDiff, ↓reduceIte, Nat.reduceAdd, Int.reduceEq, Int.reduceLT, Int.reduceLE, Nat.reduceLT], by simp, rfl, by simp [byts], r1, rfl, fun _ _ => rfl, rfl, by omega, hn, by omega⟩ ?_
  rintro m T H2 ⟨f, u, i, acc, l, rfl, g1, g3, g4, g12, g13, g14, g15, g16, g10, hl, hi, hd, R2, n2, o2, hq, hu, hu2, hf⟩
  by_cases hlt : u < 16
  · have hge : ¬ (16 : Int) ≤ (u : Int) := by omega
    have hfin : dgx u :: acc = hexS n := by
      rw [← hq]
      cases m with
      | zero => rfl
      | succ m => simp only [hexq, if_pos hlt]
    have wi : IntKind.i64.wrap ((i : Int) - 1) = ((i - 1 : Nat) : Int) := by rw [IntKind.wrap_i64]; omega
    have di := dgi u (by omega)
    have ia := arr_idx (b := a) (n := 65) (i := i - 1) (by omega) .i64
    obtain ⟨H3, m3, r3, n3, o3⟩ := row_st R2 hl (i := i - 1) (by omega) (x := .int .u8 ((dgx u).toNat : Int)) rfl rfl
    have hd3 : (l.set (i - 1) (.int .u8 ((dgx u).toNat : Int))).drop (i - 1) = byts (dgx u :: acc) := by
      rw [set_drop _ _ _ (by omega), show i - 1 + 1 = i by omega, hd]; rfl
    have hl3 : (l.set (i - 1) (AVal.int .u8 ((dgx u).toNat : Int))).length = 65 := by rw [List.length_set]; exact hl
    have hal : (dgx u :: acc).length = 65 - (i - 1) := by simp only [List.length_cons]; omega
    have C3 : Cel H3.next H3 (.slice (some ⟨a, 65, i - 1⟩) (65 - (i - 1)) (.known (65 - (i - 1)))) (byts (dgx u :: acc)) := by
      have hr := rd_row r3 hl3 (i := i - 1) (k := 65 - (i - 1)) (by omega)
      rw [hd3, List.take_of_length_le (by rw [byts_len]; omega)] at hr
      exact .inr ⟨⟨a, 65, i - 1⟩, _, by rw [byts_len, hal], by show a < H3.next; omega, by rw [byts_len, hal]; exact hr⟩
    have sl : aSlArr 65 1 (cellR a 65 0) (some (.int .i64 ((i - 1 : Nat) : Int))) none none = some (.slice (some ⟨a, 65, i - 1⟩) (65 - (i - 1)) (.known (65 - (i - 1)))) := by
      have e : Nat.beq 65 (i - 1) = false := by rw [beq_dec]; exact decide_eq_false (by omega)
      simp only [aSlArr, cellR, bnd_l (show i - 1 ≤ 65 by omega), Option.getD_none, e, cond_false, Nat.mul_one, Nat.zero_add]
    simp only [sA, Int.reduceNegSucc, reduceCtorEq, Nat.reduceEqDiff, ↓reduceIte, Nat.reduceAdd, Int.reduceEq, Int.reduceLT, Int.reduceLE, Nat.reduceLT, g1, g3, g4, g10, g12, g13, g14, g15, g16, hge, wi, di, ia, m3, sl, bs_cel C3]
    exact ⟨by rw [hfin]; rfl, ⟨by omega, fun c hc => by rw [o3 c (by omega), o2 c (by omega), o1 c (by omega)]⟩⟩
  · have hge : (16 : Int) ≤ (u : Int) := by omega
    cases m with
    | zero => simp only [Nat.zero_add, Nat.pow_one] at hu; omega
    | succ m =>
      have hq' : hexq m (u / 16) (dgx (u % 16) :: acc) = hexS n := by rw [← hq]; simp only [hexq, if_neg hlt]
      have wi : IntKind.i64.wrap ((i : Int) - 1) = ((i - 1 : Nat) : Int) := by rw [IntKind.wrap_i64]; omega
      have an : aBin .and (.int .u64 (u : Int)) (.int .u64 15) = some (.int .u64 ((u % 16 : Nat) : Int)) := by
        have := bin_andU .u64 (by simp) (a := u) (b := 15) (by simp only [IntKind.bits]; omega) (by simp only [IntKind.bits]; omega)
        rw [show (15 : Nat) = 2 ^ 4 - 1 from rfl, Nat.and_two_pow_sub_one_eq_mod u 4] at this
        exact this
      have sr : aBin .shr (.int .u64 (u : Int)) (.int .u64 4) = some (.int .u64 ((u / 16 : Nat) : Int)) := shrN .u64 .u64 u (b := 4) (by simp only [IntKind.bits]; omega)
      have di := dgi (u % 16) (by omega)
      have ia := arr_idx (b := a) (n := 65) (i := i - 1) (by omega) .i64
      obtain ⟨H3, m3, r3, n3, o3⟩ := row_st R2 hl (i := i - 1) (by omega) (x := .int .u8 ((dgx (u % 16)).toNat : Int)) rfl rfl
      have hd3 : (l.set (i - 1) (.int .u8 ((dgx (u % 16)).toNat : Int))).drop (i - 1) = byts (dgx (u % 16) :: acc) := by
        rw [set_drop _ _ _ (by omega), show i - 1 + 1 = i by omega, hd]; rfl
      have hp : 16 ^ (m + 1 + 1) = 16 * 16 ^ (m + 1) := by rw [Nat.pow_succ]; omega
      simp only [sA, Int.reduceNegSucc, reduceCtorEq, Nat.reduceEqDiff, ↓reduceIte, Nat.reduceAdd, Int.reduceEq, Int.reduceLT, Int.reduceLE, Nat.reduceLT, g1, g3, g4, g10, g12, g13, g14, g15, g16, hge, wi, an, di, ia, m3, sr]
      exact ⟨m, by omega, m, u / 16, i - 1, dgx (u % 16) :: acc, l.set (i - 1) (.int .u8 ((dgx (u % 16)).toNat : Int)), rfl, (by first | with_reducible rfl | trivial | rfl | assumption), (by first | exact g3 | trivial), (by first | exact g4 | trivial), (by first | with_reducible rfl | trivial | rfl | assumption), (by first | with_reducible rfl | trivial | rfl | assumption), (by first | with_reducible rfl | trivial | rfl | assumption), (by first | with_reducible rfl | trivial | rfl | assumption), (by first | with_reducible rfl | trivial | rfl | assumption), (by first | exact g10 | trivial), by rw [List.length_set]; exact hl, by simp only [List.length_cons]; omega, hd3, r3, by omega, fun c hc => by rw [o3 c hc, o2 c hc], hq', by omega, by omega, by omega⟩
theorem fint_spec {H : AHeap} (hB : Glo H 6 b64) (h6 : 6 < H.next) (n : Nat) (hn : n ≤ 1000) : ACalls Tryz.prog natX 32 [.int .i64 (n : Int), .int .i64 16] H fun v H' => v = .str (hexS n) ∧ Ext H.next H H' := by
  refine acalls_ofN rfl za32 rfl ?_
  simp only [c32, sA, Int.reduceNegSucc, reduceCtorEq, Nat.reduceEqDiff, ↓reduceIte, Nat.reduceAdd, Int.reduceEq, Int.reduceLT, Int.reduceLE, Nat.reduceLT]
  refine acalls_ofN rfl za50 rfl ?_
  have w : IntKind.u64.wrap (n : Int) = (n : Int) := wrap_u .u64 (by simp) (by simp only [IntKind.bits]; omega)
  have hneg : ¬ (n : Int) < 0 := by omega
  simp only [c50, sA, Int.reduceNegSucc, reduceCtorEq, Nat.reduceEqDiff, ↓reduceIte, Nat.reduceAdd, Int.reduceEq, Int.reduceLT, Int.reduceLE, Nat.reduceLT, conv_in, w, hneg]
  refine (bits_spec hB h6 n hn).mono ?_
  rintro _ H1 ⟨rfl, E1⟩
  simp only [sA, Int.reduceNegSucc, reduceCtorEq, Nat.reduceEqDiff, ↓reduceIte, Nat.reduceAdd, Int.reduceEq, Int.reduceLT, Int.reduceLE, Nat.reduceLT, ext_0, ext_1]
  exact ⟨(by first | with_reducible rfl | trivial | rfl | assumption), E1⟩
end Go.Proofs.Ht
namespace Go.Proofs.Ht
open Go.Abs Go.Abs.S
set_option linter.unusedSimpArgs false
open Go.Lib (itoa)
abbrev dec (n : Nat) : Bs := itoa (n : Int)
theorem dec_tab : (List.range 1001).all (fun n => Nat.ble (dec n).length 8 && (match numberF (dec n) with | some k => Nat.beq k n | _ => false) && (dec n).all digB) = true := by decide +kernel
theorem dec_len {n : Nat} (h : n ≤ 1000) : (dec n).length ≤ 8 := by
  have := List.all_eq_true.1 dec_tab n (List.mem_range.2 (by omega))
  simp only [Bool.and_eq_true, Nat.ble_eq] at this
  exact this.1.1
theorem dec_num {n : Nat} (h : n ≤ 1000) : numberF (dec n) = some n := by
  have := List.all_eq_true.1 dec_tab n (List.mem_range.2 (by omega))
  simp only [Bool.and_eq_true] at this
  have h2 := this.1.2
  split at h2
  · rename_i k hk
    rw [hk, Nat.eq_of_beq_eq_true h2]
  · cases h2
theorem dec_dig {n : Nat} (h : n ≤ 1000) : (dec n).all digB = true := by
  have := List.all_eq_true.1 dec_tab n (List.mem_range.2 (by omega))
  simp only [Bool.and_eq_true] at this
  exact this.2
def httpH : Bs := [72, 84, 84, 80, 47, 49, 46, 49, 32]
def clH : Bs := [67, 111, 110, 116, 101, 110, 116, 45, 76, 101, 110, 103, 116, 104, 58, 32]
def teH : Bs := [84, 114, 97, 110, 115, 102, 101, 114, 45, 69, 110, 99, 111, 100, 105, 110, 103, 58, 32, 99, 104, 117, 110, 107, 101, 100]
def rheadF (st : Int) (l : List (Bs × Bs)) : Bs × Nat := if st < 200 ∨ 599 < st then ([], 2) else if checkF l = 0 then (httpH ++ dec st.toNat ++ [32] ++ reasonF st ++ crlf ++ hdrs l, 0) else ([], checkF l)
def rwholeF (st : Int) (l : List (Bs × Bs)) (body : Bs) : Bs × Nat := if (rheadF st l).2 = 0 then ((rheadF st l).1 ++ clH ++ dec body.length ++ crlf ++ crlf ++ body, 0) else ([], (rheadF st l).2)
def rbeginF (st : Int) (l : List (Bs × Bs)) : Bs × Nat := if (rheadF st l).2 = 0 then ((rheadF st l).1 ++ teH ++ crlf ++ crlf, 0) else ([], (rheadF st l).2)
def rendF (l : List (Bs × Bs)) : Bs × Nat := if checkF l = 0 then ([48] ++ crlf ++ hdrs l ++ crlf, 0) else ([], checkF l)
def rchunkF (b : Bs) : Bs := if b = [] then [] else hexS b.length ++ crlf ++ b ++ crlf
def Tld (H : AHeap) (x : Bs × Nat) (v : AVal) (H' : AHeap) : Prop := ∃ s, v = .tuple [s, .int .i64 (x.2 : Int)] ∧ App H.next H' s (byts x.1) ∧ Ext H.next H H'
def firstF (st : Int) : Bs := httpH ++ dec st.toNat ++ [32] ++ reasonF st
theorem first_len (st : Int) (hst : ¬ (st < 200 ∨ 599 < st)) : (firstF st).length ≤ 60 := by
  have h1 := dec_len (n := st.toNat) (by omega)
  have h2 := reason_len st
  simp only [firstF, httpH, List.length_append, List.length_cons, List.length_nil]; omega
theorem rhead_spec {m : Nat} {H : AHeap} (hG : GX m H) (st : Int) {s : AVal} {l : List (Bs × Bs)} (hl : Prs H.next H s l) (hS : Sm l) : ACalls Tryz.prog natX 22 [.int .i64 st, s] H (Tld H (rheadF st l)) := by
  refine acalls_ofN rfl za22 rfl ?_
  by_cases hr : st < 200 ∨ 599 < st
  · have e : rheadF st l = ([], 2) := by rw [rheadF, if_pos hr]
    rw [e]
    by_cases h1 : st < 200
    · simp only [c22, sW, aw_block, sXs, sXO, sXP, Int.reduceNegSucc, reduceCtorEq, Nat.reduceEqDiff, ↓reduceIte, Nat.reduceAdd, Int.reduceEq, Int.reduceLT, Int.reduceLE, Nat.reduceLT, h1]
      exact ⟨nilS, rfl, App.nil _ _, Ext.refl _ _⟩
    · have h2 : 599 < st := hr.resolve_left h1
      simp only [c22, sW, aw_block, sXs, sXO, sXP, Int.reduceNegSucc, reduceCtorEq, Nat.reduceEqDiff, ↓reduceIte, Nat.reduceAdd, Int.reduceEq, Int.reduceLT, Int.reduceLE, Nat.reduceLT, h1, h2]
      exact ⟨nilS, rfl, App.nil _ _, Ext.refl _ _⟩
  · have h1 : ¬ st < 200 := fun h => hr (.inl h)
    have h2 : ¬ 599 < st := fun h => hr (.inr h)
    simp only [c22, sW, aw_block, sXs, sXO, sXP, Int.reduceNegSucc, reduceCtorEq, Nat.reduceEqDiff, ↓reduceIte, Nat.reduceAdd, Int.reduceEq, Int.reduceLT, Int.reduceLE, Nat.reduceLT, h1, h2]
    refine (check_spec hG hl hG.1 (Nat.le_refl _) hS).mono ?_
    rintro v H1 ⟨rfl, E1⟩
    have G1 := hG.fwd E1 hG.1
    by_cases hc : checkF l = 0
    · obtain ⟨n, rfl⟩ : ∃ n : Nat, st = (n : Int) := ⟨st.toNat, by omega⟩
      have e : rheadF (n : Int) l = (firstF n ++ crlf ++ hdrs l, 0) := by rw [rheadF, if_neg hr, if_pos hc]; rfl
      rw [e]
      simp only [sW, aw_block, sXs, sXO, sXP, Int.reduceNegSucc, reduceCtorEq, Nat.reduceEqDiff, ↓reduceIte, Nat.reduceAdd, Int.reduceEq, Int.reduceLT, Int.reduceLE, Nat.reduceLT, hc, Int.natCast_zero]
      refine itoa_call G1 _ (by omega) (by omega) ?_
      have ed := dec_len (n := n) (by omega)
      have er := reason_len (n : Int)
      have a1 := add_str (x := [72, 84, 84, 80, 47, 49, 46, 49, 32]) (y := dec n) (by simp <;> omega)
      have a2 := add_str (x := [72, 84, 84, 80, 47, 49, 46, 49, 32] ++ dec n) (y := [32]) (by simp <;> omega)
      have a3 := add_str (x := [72, 84, 84, 80, 47, 49, 46, 49, 32] ++ dec n ++ [32]) (y := reasonF n) (by simp <;> omega)
      simp only [sW, aw_block, sXs, sXO, sXP, Int.reduceNegSucc, reduceCtorEq, Nat.reduceEqDiff, ↓reduceIte, Nat.reduceAdd, Int.reduceEq, Int.reduceLT, Int.reduceLE, Nat.reduceLT, a1, a2]
      refine (reason_spec (n : Int)).mono ?_
      rintro v _ ⟨rfl, rfl⟩
      obtain ⟨H2, m2, r2, k2, E2⟩ := build_s1 H1 (firstF n)
      have m2' : aBuildSl 1 [.str []] H1 [(0, 1, .str ([72, 84, 84, 80, 47, 49, 46, 49, 32] ++ dec n ++ [32] ++ reasonF n))] = some (slR H1.next 1 (.known 1), H2) := m2
      simp only [sW, aw_block, sXs, sXO, sXP, Int.reduceNegSucc, reduceCtorEq, Nat.reduceEqDiff, ↓reduceIte, Nat.reduceAdd, Int.reduceEq, Int.reduceLT, Int.reduceLE, Nat.reduceLT, a3, m2']
      refine (lines_spec (n := H.next) (t := []) (App.nil _ _) (by have := E1.next; omega) r2 (by omega) (apart_nil _) (by simp) (by simp) (fun s hs => by
        have : s = firstF n := by simpa using hs
        rw [this]; have := first_len (n : Int) hr; omega) rfl).mono ?_
      rintro v H3 ⟨a4, E3⟩
      have a4' : App H.next H3 v (byts (firstF n ++ crlf)) := by simpa [lnsF] using a4
      have E13 : Ext H.next H H3 := (E1.trans (E2.less (by have := E1.next; omega))).trans E3
      simp only [sW, aw_block, sXs, sXO, sXP, Int.reduceNegSucc, reduceCtorEq, Nat.reduceEqDiff, ↓reduceIte, Nat.reduceAdd, Int.reduceEq, Int.reduceLT, Int.reduceLE, Nat.reduceLT]
      refine (headers_spec a4' E13.next (hl.ext E13) (by have := first_len (n : Int) hr; simp [crlf]; omega) hS).mono ?_
      rintro v H4 ⟨a5, E4⟩
      simp only [sW, aw_block, sXs, sXO, sXP, Int.reduceNegSucc, reduceCtorEq, Nat.reduceEqDiff, ↓reduceIte, Nat.reduceAdd, Int.reduceEq, Int.reduceLT, Int.reduceLE, Nat.reduceLT]
      exact ⟨v, rfl, a5, E13.trans E4⟩
    · have hc' : ¬ ((checkF l : Int) = 0) := by omega
      have e : rheadF st l = ([], checkF l) := by rw [rheadF, if_neg hr, if_neg hc]
      rw [e]
      simp only [sW, aw_block, sXs, sXO, sXP, Int.reduceNegSucc, reduceCtorEq, Nat.reduceEqDiff, ↓reduceIte, Nat.reduceAdd, Int.reduceEq, Int.reduceLT, Int.reduceLE, Nat.reduceLT, hc']
      exact ⟨nilS, rfl, App.nil _ _, E1⟩
theorem head_len (st : Int) {l : List (Bs × Bs)} (hS : Sm l) : (rheadF st l).1.length ≤ 20000 := by
  unfold rheadF
  split
  · simp
  · split
    · have h1 := first_len st
      have h2 := hS.take l.length
      rw [List.take_length] at h2
      simp only [firstF, List.length_append, crlf, List.length_cons, List.length_nil] at h1 ⊢
      omega
    · simp
theorem rwhole_spec {m : Nat} {H : AHeap} (hG : GX m H) (st : Int) {s b : AVal} {l : List (Bs × Bs)} {body : Bs} (hl : Prs H.next H s l) (hS : Sm l) (hb : Cel H.next H b (byts body)) (hbl : body.length < 1001) : ACalls Tryz.prog natX 6 [.int .i64 st, s, b] H (Tld H (rwholeF st l body)) := by
  refine acalls_ofN rfl za6 rfl ?_
  simp only [c6, sW, aw_block, sXs, sXO, sXP, Int.reduceNegSucc, reduceCtorEq, Nat.reduceEqDiff, ↓reduceIte, Nat.reduceAdd, Int.reduceEq, Int.reduceLT, Int.reduceLE, Nat.reduceLT]
  refine (rhead_spec hG st hl hS).mono ?_
  rintro v H1 ⟨s1, rfl, A1, E1⟩
  have G1 := hG.fwd E1 hG.1
  have hlen := head_len st hS
  by_cases hc : (rheadF st l).2 = 0
  · have e : rwholeF st l body = ((rheadF st l).1 ++ clH ++ dec body.length ++ crlf ++ crlf ++ body, 0) := by rw [rwholeF, if_pos hc]
    rw [e]
    have hb1 := hb.ext E1
    simp only [sW, aw_block, sXs, sXO, sXP, Int.reduceNegSucc, reduceCtorEq, Nat.reduceEqDiff, ↓reduceIte, Nat.reduceAdd, Int.reduceEq, Int.reduceLT, Int.reduceLE, Nat.reduceLT, ext_0, ext_1, hc, Int.natCast_zero, byts_len' hb1]
    refine itoa_call G1 _ (by omega) (by omega) ?_
    have ed := dec_len (n := body.length) (by omega)
    have a1 := add_str (x := [67, 111, 110, 116, 101, 110, 116, 45, 76, 101, 110, 103, 116, 104, 58, 32]) (y := dec body.length) (by simp <;> omega)
    obtain ⟨H2, m2, r2, k2, E2⟩ := build_s2 H1 ([67, 111, 110, 116, 101, 110, 116, 45, 76, 101, 110, 103, 116, 104, 58, 32] ++ dec body.length) []
    simp only [sW, aw_block, sXs, sXO, sXP, Int.reduceNegSucc, reduceCtorEq, Nat.reduceEqDiff, ↓reduceIte, Nat.reduceAdd, Int.reduceEq, Int.reduceLT, Int.reduceLE, Nat.reduceLT, a1, m2]
    refine (lines_spec (A1.ext E2) (by have := E1.next; omega) r2 (by omega) (A1.apart (Nat.le_refl _)) (by omega) (by simp) (fun s hs => by
      have : s = [67, 111, 110, 116, 101, 110, 116, 45, 76, 101, 110, 103, 116, 104, 58, 32] ++ dec body.length ∨ s = [] := by simpa using hs
      rcases this with rfl | rfl
      · simp; omega
      · simp) rfl).mono ?_
    rintro v H3 ⟨A3, E3⟩
    have E13 : Ext H.next H H3 := (E1.trans (E2.less (by have := E1.next; omega))).trans E3
    have hb3 := hb.ext E13
    obtain ⟨s4, H4, m4, A4, E4, _⟩ := ap_app A3 E13.next (byts_src hb3) (by
      simp only [List.length_append, lnsF, List.flatMap_cons, List.flatMap_nil, crlf, List.length_cons, List.length_nil]; omega)
    simp only [sW, aw_block, sXs, sXO, sXP, Int.reduceNegSucc, reduceCtorEq, Nat.reduceEqDiff, ↓reduceIte, Nat.reduceAdd, Int.reduceEq, Int.reduceLT, Int.reduceLE, Nat.reduceLT, m4]
    refine ⟨s4, rfl, ?_, E13.trans E4⟩
    have e2 : (rheadF st l).1 ++ lnsF [[67, 111, 110, 116, 101, 110, 116, 45, 76, 101, 110, 103, 116, 104, 58, 32] ++ dec body.length, []] ++ body = (rheadF st l).1 ++ clH ++ dec body.length ++ crlf ++ crlf ++ body := by
      simp [lnsF, clH]
    rw [e2] at A4
    exact A4
  · have hc' : ¬ (((rheadF st l).2 : Int) = 0) := by omega
    have e : rwholeF st l body = ([], (rheadF st l).2) := by rw [rwholeF, if_neg hc]
    rw [e]
    simp only [sW, aw_block, sXs, sXO, sXP, Int.reduceNegSucc, reduceCtorEq, Nat.reduceEqDiff, ↓reduceIte, Nat.reduceAdd, Int.reduceEq, Int.reduceLT, Int.reduceLE, Nat.reduceLT, ext_0, ext_1, hc']
    exact ⟨nilS, rfl, App.nil _ _, E1⟩
theorem rbegin_spec {m : Nat} {H : AHeap} (hG : GX m H) (st : Int) {s : AVal} {l : List (Bs × Bs)} (hl : Prs H.next H s l) (hS : Sm l) : ACalls Tryz.prog natX 7 [.int .i64 st, s] H (Tld H (rbeginF st l)) := by
  refine acalls_ofN rfl za7 rfl ?_
  simp only [c7, sW, aw_block, sXs, sXO, sXP, Int.reduceNegSucc, reduceCtorEq, Nat.reduceEqDiff, ↓reduceIte, Nat.reduceAdd, Int.reduceEq, Int.reduceLT, Int.reduceLE, Nat.reduceLT]
  refine (rhead_spec hG st hl hS).mono ?_
  rintro v H1 ⟨s1, rfl, A1, E1⟩
  have hlen := head_len st hS
  by_cases hc : (rheadF st l).2 = 0
  · have e : rbeginF st l = ((rheadF st l).1 ++ teH ++ crlf ++ crlf, 0) := by rw [rbeginF, if_pos hc]
    rw [e]
    obtain ⟨H2, m2, r2, k2, E2⟩ := build_s2 H1 [84, 114, 97, 110, 115, 102, 101, 114, 45, 69, 110, 99, 111, 100, 105, 110, 103, 58, 32, 99, 104, 117, 110, 107, 101, 100] []
    simp only [sW, aw_block, sXs, sXO, sXP, Int.reduceNegSucc, reduceCtorEq, Nat.reduceEqDiff, ↓reduceIte, Nat.reduceAdd, Int.reduceEq, Int.reduceLT, Int.reduceLE, Nat.reduceLT, ext_0, ext_1, hc, Int.natCast_zero, m2]
    refine (lines_spec (A1.ext E2) (by have := E1.next; omega) r2 (by omega) (A1.apart (Nat.le_refl _)) (by omega) (by simp) (fun s hs => by
      have : s = [84, 114, 97, 110, 115, 102, 101, 114, 45, 69, 110, 99, 111, 100, 105, 110, 103, 58, 32, 99, 104, 117, 110, 107, 101, 100] ∨ s = [] := by simpa using hs
      rcases this with rfl | rfl <;> simp) rfl).mono ?_
    rintro v H3 ⟨A3, E3⟩
    have E13 : Ext H.next H H3 := (E1.trans (E2.less (by have := E1.next; omega))).trans E3
    simp only [sW, aw_block, sXs, sXO, sXP, Int.reduceNegSucc, reduceCtorEq, Nat.reduceEqDiff, ↓reduceIte, Nat.reduceAdd, Int.reduceEq, Int.reduceLT, Int.reduceLE, Nat.reduceLT]
    refine ⟨v, rfl, ?_, E13⟩
    have e2 : (rheadF st l).1 ++ lnsF [[84, 114, 97, 110, 115, 102, 101, 114, 45, 69, 110, 99, 111, 100, 105, 110, 103, 58, 32, 99, 104, 117, 110, 107, 101, 100], []] = (rheadF st l).1 ++ teH ++ crlf ++ crlf := by
      simp [lnsF, teH]
    rw [e2] at A3
    exact A3
  · have hc' : ¬ (((rheadF st l).2 : Int) = 0) := by omega
    have e : rbeginF st l = ([], (rheadF st l).2) := by rw [rbeginF, if_neg hc]
    rw [e]
    simp only [sW, aw_block, sXs, sXO, sXP, Int.reduceNegSucc, reduceCtorEq, Nat.reduceEqDiff, ↓reduceIte, Nat.reduceAdd, Int.reduceEq, Int.reduceLT, Int.reduceLE, Nat.reduceLT, ext_0, ext_1, hc']
    exact ⟨nilS, rfl, App.nil _ _, E1⟩
theorem rend_spec {m : Nat} {H : AHeap} (hG : GX m H) {s : AVal} {l : List (Bs × Bs)} (hl : Prs H.next H s l) (hS : Sm l) : ACalls Tryz.prog natX 12 [s] H (Tld H (rendF l)) := by
  refine acalls_ofN rfl za12 rfl ?_
  simp only [c12, sW, aw_block, sXs, sXO, sXP, Int.reduceNegSucc, reduceCtorEq, Nat.reduceEqDiff, ↓reduceIte, Nat.reduceAdd, Int.reduceEq, Int.reduceLT, Int.reduceLE, Nat.reduceLT]
  refine (check_spec hG hl hG.1 (Nat.le_refl _) hS).mono ?_
  rintro v H1 ⟨rfl, E1⟩
  by_cases hc : checkF l = 0
  · have e : rendF l = ([48] ++ crlf ++ hdrs l ++ crlf, 0) := by rw [rendF, if_pos hc]
    rw [e]
    obtain ⟨H2, m2, r2, k2, E2⟩ := build_s1 H1 [48]
    simp only [sW, aw_block, sXs, sXO, sXP, Int.reduceNegSucc, reduceCtorEq, Nat.reduceEqDiff, ↓reduceIte, Nat.reduceAdd, Int.reduceEq, Int.reduceLT, Int.reduceLE, Nat.reduceLT, hc, Int.natCast_zero, m2]
    refine (lines_spec (n := H.next) (t := []) (App.nil _ _) (by have := E1.next; omega) r2 (by omega) (apart_nil _) (by simp) (by simp) (fun s hs => by
      have : s = [48] := by simpa using hs
      rw [this]; simp) rfl).mono ?_
    rintro v H3 ⟨A3, E3⟩
    have E13 : Ext H.next H H3 := (E1.trans (E2.less (by have := E1.next; omega))).trans E3
    have A3' : App H.next H3 v (byts ([48] ++ crlf)) := by simpa [lnsF] using A3
    simp only [sW, aw_block, sXs, sXO, sXP, Int.reduceNegSucc, reduceCtorEq, Nat.reduceEqDiff, ↓reduceIte, Nat.reduceAdd, Int.reduceEq, Int.reduceLT, Int.reduceLE, Nat.reduceLT]
    refine (headers_spec A3' E13.next (hl.ext E13) (by simp [crlf]) hS).mono ?_
    rintro v H4 ⟨A4, E4⟩
    obtain ⟨H5, m5, r5, k5, E5⟩ := build_s1 H4 []
    have E14 := E13.trans E4
    simp only [sW, aw_block, sXs, sXO, sXP, Int.reduceNegSucc, reduceCtorEq, Nat.reduceEqDiff, ↓reduceIte, Nat.reduceAdd, Int.reduceEq, Int.reduceLT, Int.reduceLE, Nat.reduceLT, m5]
    have h2 := hS.take l.length
    rw [List.take_length] at h2
    refine (lines_spec (A4.ext E5) (by have := E14.next; omega) r5 (by omega) (A4.apart (Nat.le_refl _)) (by simp [crlf]; omega) (by simp) (fun s hs => by
      have : s = [] := by simpa using hs
      rw [this]; simp) rfl).mono ?_
    rintro v H6 ⟨A6, E6⟩
    simp only [sW, aw_block, sXs, sXO, sXP, Int.reduceNegSucc, reduceCtorEq, Nat.reduceEqDiff, ↓reduceIte, Nat.reduceAdd, Int.reduceEq, Int.reduceLT, Int.reduceLE, Nat.reduceLT]
    refine ⟨v, rfl, by simpa [lnsF] using A6, (E14.trans (E5.less (by have := E14.next; omega))).trans E6⟩
  · have hc' : ¬ ((checkF l : Int) = 0) := by omega
    have e : rendF l = ([], checkF l) := by rw [rendF, if_neg hc]
    rw [e]
    simp only [sW, aw_block, sXs, sXO, sXP, Int.reduceNegSucc, reduceCtorEq, Nat.reduceEqDiff, ↓reduceIte, Nat.reduceAdd, Int.reduceEq, Int.reduceLT, Int.reduceLE, Nat.reduceLT, hc']
    exact ⟨nilS, rfl, App.nil _ _, E1⟩
theorem rchunk_spec {H : AHeap} (hB : Glo H 6 b64) (h6 : 6 < H.next) {b : AVal} {body : Bs} (hb : Cel H.next H b (byts body)) (hbl : body.length < 1001) : ACalls Tryz.prog natX 11 [b] H fun v H' => App H.next H' v (byts (rchunkF body)) ∧ Ext H.next H H' := by
  refine acalls_ofN rfl za11 rfl ?_
  by_cases h0 : body = []
  · subst h0
    have e : aLenK false b = some (.int .i64 0) := by simpa using byts_len' hb
    simp only [c11, sW, aw_block, sXs, sXO, sXP, Int.reduceNegSucc, reduceCtorEq, Nat.reduceEqDiff, ↓reduceIte, Nat.reduceAdd, Int.reduceEq, Int.reduceLT, Int.reduceLE, Nat.reduceLT, e]
    exact ⟨App.nil _ _, Ext.refl _ _⟩
  · have hpos := List.length_pos_iff.2 h0
    have hne : ¬ ((body.length : Int) = 0) := by omega
    have eh := (hex_ok (n := body.length) (by omega)).l7
    simp only [c11, sW, aw_block, sXs, sXO, sXP, Int.reduceNegSucc, reduceCtorEq, Nat.reduceEqDiff, ↓reduceIte, Nat.reduceAdd, Int.reduceEq, Int.reduceLT, Int.reduceLE, Nat.reduceLT, byts_len' hb, hne]
    refine (fint_spec hB h6 body.length (by omega)).mono ?_
    rintro _ H1 ⟨rfl, E1⟩
    obtain ⟨H2, m2, r2, k2, E2'⟩ := build_s1 H1 (hexS body.length)
    have e1n := E1.next
    have E2 : Ext H.next H H2 := E1.trans (E2'.less E1.next)
    simp only [sW, aw_block, sXs, sXO, sXP, Int.reduceNegSucc, reduceCtorEq, Nat.reduceEqDiff, ↓reduceIte, Nat.reduceAdd, Int.reduceEq, Int.reduceLT, Int.reduceLE, Nat.reduceLT, m2]
    refine (lines_spec (n := H.next) (t := []) (App.nil _ _) (by omega) r2 (by omega) (apart_nil _) (by simp) (by simp) (fun s hs => by
      have : s = hexS body.length := by simpa using hs
      rw [this]; omega) rfl).mono ?_
    rintro v H3 ⟨A3, E3⟩
    have E13 := E2.trans E3
    have A3' : App H.next H3 v (byts (hexS body.length ++ crlf)) := by simpa [lnsF] using A3
    obtain ⟨s4, H4, m4, A4, E4, _⟩ := ap_app A3' E13.next (byts_src (hb.ext E13)) (by simp [crlf]; omega)
    have E14 := E13.trans E4
    obtain ⟨H5, m5, r5, k5, E5⟩ := build_s1 H4 []
    simp only [sW, aw_block, sXs, sXO, sXP, Int.reduceNegSucc, reduceCtorEq, Nat.reduceEqDiff, ↓reduceIte, Nat.reduceAdd, Int.reduceEq, Int.reduceLT, Int.reduceLE, Nat.reduceLT, m4, m5]
    refine (lines_spec (A4.ext E5) (by have := E14.next; omega) r5 (by omega) (A4.apart (Nat.le_refl _)) (by simp [crlf]; omega) (by simp) (fun s hs => by
      have : s = [] := by simpa using hs
      rw [this]; simp) rfl).mono ?_
    rintro v H6 ⟨A6, E6⟩
    simp only [sW, aw_block, sXs, sXO, sXP, Int.reduceNegSucc, reduceCtorEq, Nat.reduceEqDiff, ↓reduceIte, Nat.reduceAdd, Int.reduceEq, Int.reduceLT, Int.reduceLE, Nat.reduceLT]
    refine ⟨?_, (E14.trans (E5.less (by have := E14.next; omega))).trans E6⟩
    have e : rchunkF body = hexS body.length ++ crlf ++ body ++ lnsF [[]] := by simp [rchunkF, h0, lnsF]
    rw [e]; exact A6
end Go.Proofs.Ht
namespace Go.Proofs.Ht
open Go.Abs Go.Abs.S
set_option linter.unusedSimpArgs false
theorem samebytes_spec {n m : Nat} {H : AHeap} {v w : AVal} {s t : Bs} (hv : Cel n H v (byts s)) (hw : Cel m H w (byts t)) : ACalls Tryz.prog natX 31 [v, w] H fun x H' => x = .bool (decide (s = t)) ∧ H = H' := by
  refine acalls_ofN rfl za31 rfl ?_
  simp only [c31, sA, Int.reduceNegSucc, reduceCtorEq, Nat.reduceEqDiff, ↓reduceIte, Nat.reduceAdd, Int.reduceEq, Int.reduceLT, Int.reduceLE, Nat.reduceLT, bs_cel hv, bs_cel hw]
  exact ⟨(by first | with_reducible rfl | trivial | rfl | assumption), (by first | with_reducible rfl | trivial | rfl | assumption)⟩
theorem pick_spec (x : Int) (m : Nat) (h0 : 0 < m) (hm : m ≤ 1000000) {H : AHeap} : ACalls Tryz.prog natX 10 [.int .i64 x, .int .i64 (m : Int)] H fun v H' => (∃ r : Nat, r < m ∧ v = .int .i64 (r : Int)) ∧ H = H' := by
  refine acalls_ofN rfl za10 rfl ?_
  have h0' : ¬ (m : Int) ≤ 0 := by omega
  have hlt := Int.tmod_lt_of_pos x (show (0 : Int) < (m : Int) by omega)
  have hgt := Int.lt_tmod_of_pos x (show (0 : Int) < (m : Int) by omega)
  have hr := bin_rem .i64 x (m : Int) (by omega)
  by_cases hn : x.tmod (m : Int) < 0
  · have w : IntKind.i64.wrap (x.tmod (m : Int) + (m : Int)) = x.tmod (m : Int) + (m : Int) := wrap64 (by omega) (by omega)
    simp only [c10, sA, Int.reduceNegSucc, reduceCtorEq, Nat.reduceEqDiff, ↓reduceIte, Nat.reduceAdd, Int.reduceEq, Int.reduceLT, Int.reduceLE, Nat.reduceLT, h0', hr, hn, w]
    exact ⟨⟨(x.tmod (m : Int) + (m : Int)).toNat, by omega, by congr 1; omega⟩, (by first | with_reducible rfl | trivial | rfl | assumption)⟩
  · simp only [c10, sA, Int.reduceNegSucc, reduceCtorEq, Nat.reduceEqDiff, ↓reduceIte, Nat.reduceAdd, Int.reduceEq, Int.reduceLT, Int.reduceLE, Nat.reduceLT, h0', hr, hn]
    exact ⟨⟨(x.tmod (m : Int)).toNat, by omega, by congr 1; omega⟩, (by first | with_reducible rfl | trivial | rfl | assumption)⟩
end Go.Proofs.Ht
namespace Go.Proofs.Ht
open Go.Abs Go.Abs.S
set_option linter.unusedSimpArgs false
variable {n : Nat} {τ : Nat → Nat} {H : AHeap} {p : Nat} {s : PS}
theorem idx_crlf (rest : Bs) : ∀ x : Bs, (∀ b ∈ x, b ≠ 13) → Go.Lib.index (x ++ 13 :: 10 :: rest) [13, 10] = (x.length : Int)
  | [], _ => by
    simp [Go.Lib.index]
  | b :: x, h => by
    have hb : ((13 : UInt8) == b) = false := by simpa using fun e => h b (by simp) e.symm
    have ih := idx_crlf rest x fun c hc => h c (by simp [hc])
    have hne : ((x.length : Int) == -1) = false := by simp <;> omega
    simp only [List.cons_append, Go.Lib.index, List.isPrefixOf, hb, Bool.false_and, Bool.false_eq_true, if_false, ih, hne, List.length_cons]
    try omega
theorem cut_crlf (rest : Bs) {x : Bs} (h : ∀ b ∈ x, b ≠ 13) : Go.Lib.cut (x ++ 13 :: 10 :: rest) [13, 10] = (x, rest, true) := by
  unfold Go.Lib.cut
  rw [idx_crlf rest x h, if_pos (by omega)]
  have e1 : ((x.length : Int)).toNat = x.length := by omega
  rw [e1, List.take_left]
  have e2 : (x ++ 13 :: 10 :: rest).drop (x.length + [(13 : UInt8), 10].length) = rest := by
    rw [show x ++ 13 :: 10 :: rest = (x ++ [13, 10]) ++ rest by simp, show x.length + [(13 : UInt8), 10].length = (x ++ [13, 10]).length by simp, List.drop_left]
  rw [e2]
theorem hasp_spec (pre r : Bs) (hp : pre.length ≤ 1000) (hr : r.length ≤ 100000000) {H : AHeap} : ACalls Tryz.prog natX 26 [.str (pre ++ r), .str pre] H fun v H' => v = .bool true ∧ H = H' := by
  refine acalls_ofN rfl za26 rfl ?_
  simp only [c26, sA, Int.reduceNegSucc, reduceCtorEq, Nat.reduceEqDiff, ↓reduceIte, Nat.reduceAdd, Int.reduceEq, Int.reduceLT, Int.reduceLE, Nat.reduceLT]
  refine acalls_ofN rfl za45 rfl ?_
  have hge : (pre.length : Int) ≤ ((pre ++ r).length : Int) := by rw [List.length_append]; omega
  have sl := str_slH (s := pre ++ r) (h := pre.length) (by rw [List.length_append]; omega)
  rw [List.take_left] at sl
  simp only [c45, sA, Int.reduceNegSucc, reduceCtorEq, Nat.reduceEqDiff, ↓reduceIte, Nat.reduceAdd, Int.reduceEq, Int.reduceLT, Int.reduceLE, Nat.reduceLT, hge, sl]
  exact ⟨(by first | with_reducible rfl | trivial | rfl | assumption), (by first | with_reducible rfl | trivial | rfl | assumption)⟩
theorem held_spec (P : PR n τ H p PS.zero []) : ACalls Tryz.prog natX 30 [cellR p 15 0] H fun v H' => v = .int .i64 0 ∧ H = H' := by
  have P0 := P
  obtain ⟨vl, vh, vb, vr, P⟩ := P
  refine acalls_ofN rfl za30 rfl ?_
  have l14 : oLoad false 1 H (cellR p 15 14) = some (.int .i64 0) := by
    have := row_load P.row (n := 15) rfl (i := 14) rfl
    rw [szF_nil] at this; exact this
  have l12 : oLoad false 1 H (cellR p 15 12) = some (.int .i64 0) := row_load P.row (n := 15) rfl (i := 12) rfl
  have w0 : IntKind.i64.wrap (0 + 0) = 0 := rfl
  have w00 : IntKind.i64.wrap 0 = 0 := rfl
  simp only [c30, sA, Int.reduceNegSucc, reduceCtorEq, Nat.reduceEqDiff, ↓reduceIte, Nat.reduceAdd, Int.reduceEq, Int.reduceLT, Int.reduceLE, Nat.reduceLT]
  refine (made_spec P0).mono ?_
  rintro _ _ ⟨rfl, rfl⟩
  simp only [sA, Int.reduceNegSucc, reduceCtorEq, Nat.reduceEqDiff, ↓reduceIte, Nat.reduceAdd, Int.reduceEq, Int.reduceLT, Int.reduceLE, Nat.reduceLT, nil_cell, fldA, l14, l12, w0, Int.add_zero, w00]
  exact ⟨(by first | with_reducible rfl | trivial | rfl | assumption), (by first | with_reducible rfl | trivial | rfl | assumption)⟩
theorem aeq_sl {v : AVal} (h : isE v = true ∨ ∃ a m r, v = .slice (some a) m r) : aeq v v = true := by
  rcases h with h | ⟨a, m, r, rfl⟩
  · rcases isE_cases h with rfl | ⟨a, rfl⟩
    · exact aeq_nilS
    · simp [aeq]
  · cases r <;> simp [aeq]
theorem aeq_rq {r : Rq} {vh vb : AVal} (h : RqAt n τ H (rqC r vh vb) r) : aeq (.agg (rqC r vh vb)) (.agg (rqC r vh vb)) = true := by
  obtain ⟨wh, wb, e, _, _, h4, h5, _, _⟩ := h
  obtain ⟨rfl, rfl⟩ : vh = wh ∧ vb = wb := by
    simp only [rqC, List.cons.injEq, and_true, true_and] at e
    exact ⟨e.1, e.2⟩
  have q1 : aeq vh vh = true := aeq_sl (by
    rcases h4 with ⟨h, _⟩ | ⟨a, r', h, _⟩
    · exact .inl (by rw [h]; rfl)
    · exact .inr ⟨_, _, _, h⟩)
  have q2 : aeq vb vb = true := aeq_sl (by
    rcases h5 with ⟨h, _⟩ | ⟨a, r', h, _⟩
    · exact .inl h
    · exact .inr ⟨_, _, _, h⟩)
  simp [aeq, aeqs, rqC, q1, q2]
def askH : Bs := [80, 79, 83, 84, 32, 47, 32, 72, 84, 84, 80, 47, 49, 46, 49, 13, 10, 104, 111, 115, 116, 58, 32, 97, 13, 10]
theorem asked_spec {g : Nat} {v : AVal} {y rest : Bs} {rq : Rq} (hG : GX g H) (hv : Cel H.next H v (byts ((httpH ++ y) ++ 13 :: 10 :: rest))) (hy : ∀ b ∈ y, b ≠ 13) (hl : ((httpH ++ y) ++ 13 :: 10 :: rest).length ≤ 200000) (hf : feedF PS.zero (askH ++ rest) = (PS.zero, [rq]))
    (b1 : rq.m.length ≤ 100000) (b2 : rq.t.length ≤ 100000) (b3 : rq.body.length ≤ 100000) (b4 : rq.hs.length ≤ 100000) (b5 : ∀ h ∈ rq.hs, h.1.length ≤ 100000 ∧ h.2.length ≤ 100000) :
    ACalls Tryz.prog natX 8 [v] H fun w H' => ∃ m σ vh vb, w = .tuple [.agg (rqC rq vh vb), .bool true] ∧ RqAt m σ H' (rqC rq vh vb) rq ∧ m ≤ H'.next ∧ Ext H.next H H' := by
  refine acalls_ofN rfl za8 rfl ?_
  obtain ⟨H1, m1, r1, n1, o1⟩ := row_newL H noRq (n := 5) rfl
  have m1' : oNew H [.str [], .str [], .slice none 0 (.known 0), .slice none 0 (.known 0), .bool false] = (cellR H.next 5 0, H1) := m1
  have E1 : Ext H.next H H1 := ⟨by omega, fun c hc => o1 c (by omega)⟩
  have bs := bs_cel (hv.ext E1)
  have hx : ∀ b ∈ httpH ++ y, b ≠ 13 := fun b hb => by
    rcases List.mem_append.1 hb with h | h
    · have hd : ∀ c ∈ httpH, c ≠ 13 := by decide
      exact hd b h
    · exact hy b h
  simp only [List.length_append, List.length_cons] at hl
  have hh9 : httpH.length = 9 := rfl
  have hG1 := hG.fwd E1 hG.1
  simp only [c8, sA, Int.reduceNegSucc, reduceCtorEq, Nat.reduceEqDiff, ↓reduceIte, Nat.reduceAdd, Int.reduceEq, Int.reduceLT, Int.reduceLE, Nat.reduceLT, m1', bs]
  refine scut_call hG1 _ _ (by simp only [List.length_append, List.length_cons]; omega) ?_
  rw [cut_crlf rest hx]
  simp only [sA, Int.reduceNegSucc, reduceCtorEq, Nat.reduceEqDiff, ↓reduceIte, Nat.reduceAdd, Int.reduceEq, Int.reduceLT, Int.reduceLE, Nat.reduceLT, ext_0, ext_1, ext_2]
  refine (hasp_spec httpH y (by decide) (by omega)).mono ?_
  rintro _ _ ⟨rfl, rfl⟩
  simp only [sA, Int.reduceNegSucc, reduceCtorEq, Nat.reduceEqDiff, ↓reduceIte, Nat.reduceAdd, Int.reduceEq, Int.reduceLT, Int.reduceLE, Nat.reduceLT]
  refine (new_spec H1).mono ?_
  rintro _ H2 ⟨rfl, P2, n2, o2⟩
  have ad : aBin .add (.str askH) (.str rest) = some (.str (askH ++ rest)) := add_str (by
    have : askH.length = 26 := rfl
    omega)
  have ad' : aBin .add (.str [80, 79, 83, 84, 32, 47, 32, 72, 84, 84, 80, 47, 49, 46, 49, 13, 10, 104, 111, 115, 116, 58, 32, 97, 13, 10]) (.str rest) = some (.str (askH ++ rest)) := ad
  have sb : aSB H2 (.str (askH ++ rest)) = some (.slice (some ⟨H2.next, (askH ++ rest).length, 0⟩) (askH ++ rest).length (.open_ 1), H2.push (.cells (byts (askH ++ rest)) 0 false)) := rfl
  have hal : (askH ++ rest).length ≤ 200100 := by
    have : askH.length = 26 := rfl
    rw [List.length_append]; omega
  have C3 : Cel (H2.next + 1) (H2.push (.cells (byts (askH ++ rest)) 0 false)) (.slice (some ⟨H2.next, (askH ++ rest).length, 0⟩) (askH ++ rest).length (.open_ 1)) (byts (askH ++ rest)) := (row_push H2 (byts (askH ++ rest))).cel (r := .open_ 1) (by rw [byts_len]) (Nat.lt_succ_self _)
  obtain ⟨_, _, _, _, V2⟩ := P2
  have P3 := V2.ext (H' := H2.push (.cells (byts (askH ++ rest)) 0 false)) (by rw [push_next]; omega) fun c hc => get_push_lt (by omega)
  simp only [sA, Int.reduceNegSucc, reduceCtorEq, Nat.reduceEqDiff, ↓reduceIte, Nat.reduceAdd, Int.reduceEq, Int.reduceLT, Int.reduceLE, Nat.reduceLT, ad', sb]
  refine (feed_spec ⟨_, _, _, _, P3⟩ Bd.zero C3 (blk_some ⟨by show H2.next < _; rw [push_next]; omega, by show newT H1.next H2.next = 0; unfold newT; rw [if_neg (by omega)]⟩) (by omega) (by simp only [List.length_nil]; omega)).mono ?_
  rintro _ H4 ⟨rfl, τ4, P4, F4⟩
  rw [hf] at P4 ⊢
  have f4n := F4.1
  rw [push_next] at f4n
  have z0 : ((PS.zero.fault : Nat) : Int) = 0 := rfl
  have keep4 : ∀ c, c < H.next + 1 → H4.get c = H1.get c := fun c hc => by
    rw [(F4.2 c (by rw [push_next]; omega) (.inl (by unfold newT; rw [if_neg (by omega)]))).2, get_push_lt (by omega), o2 c (by omega)]
  have t4 : ∀ c, c < H.next + 1 → τ4 c = 0 := fun c hc => by
    have := (F4.2 c (by rw [push_next]; omega) (.inl (by unfold newT; rw [if_neg (by omega)]))).1
    rw [this]; unfold newT; rw [if_neg (by omega)]
  simp only [List.nil_append] at P4
  simp only [sA, Int.reduceNegSucc, reduceCtorEq, Nat.reduceEqDiff, ↓reduceIte, Nat.reduceAdd, Int.reduceEq, Int.reduceLT, Int.reduceLE, Nat.reduceLT, z0]
  refine (next_some' P4 (k := 100000) (by omega) b1 b2 b3 b4 b5).mono ?_
  rintro _ H5 ⟨vh, vb, rfl, Q5, P5, n5, o5⟩
  have keep5 : ∀ c, c < H.next + 1 → H5.get c = H1.get c := fun c hc => by
    rw [o5 c (by omega) (by omega) (by rw [t4 c hc]; omega)]; exact keep4 c hc
  have hone : (rqC rq vh vb).all AVal.one = true := by
    obtain ⟨wh, wb, e, e2, e3, _⟩ := Q5
    rw [e]
    simp only [rqC, List.all_cons, List.all_nil, e2, e3, Bool.and_true]; rfl
  obtain ⟨H6, m6, r6, n6, o6⟩ := row_newL H5 noRq (n := 5) rfl
  have m6' : oNew H5 [.str [], .str [], .slice none 0 (.known 0), .slice none 0 (.known 0), .bool false] = (cellR H5.next 5 0, H6) := m6
  obtain ⟨H7, m7, r7, n7, o7⟩ := row_storeN r6 (n := 5) rfl (xs := rqC rq vh vb) rfl hone
  obtain ⟨ul, uh, ub, ur, V5⟩ := P5
  have nn5 := V5.nn
  have V7 := V5.ext (H' := H7) (by omega) fun c hc => by rw [o7 c (by omega), o6 c (by omega)]
  have Q7 := Q5.fr (H' := H7) (n' := H4.next) (Nat.le_refl _) (fun _ _ h => h) fun c hc _ => by rw [o7 c (by omega), o6 c (by omega)]
  simp only [sA, Int.reduceNegSucc, reduceCtorEq, Nat.reduceEqDiff, ↓reduceIte, Nat.reduceAdd, Int.reduceEq, Int.reduceLT, Int.reduceLE, Nat.reduceLT, ext_0, ext_1, m6', m7]
  refine (next_none ⟨_, _, _, _, V7⟩).mono ?_
  rintro _ H8 ⟨rfl, E8⟩
  have e8n := E8.next
  obtain ⟨H9, m9, r9, n9, o9⟩ := row_newL H8 noRq (n := 5) rfl
  have m9' : oNew H8 [.str [], .str [], .slice none 0 (.known 0), .slice none 0 (.known 0), .bool false] = (cellR H8.next 5 0, H9) := m9
  obtain ⟨Ha, ma, ra, na, oa⟩ := row_storeN r9 (n := 5) rfl (xs := noRq) rfl rfl
  have Ea : Ext H7.next H7 Ha := ⟨by omega, fun c hc => by rw [oa c (by omega), o9 c (by omega)]; exact E8.old c hc⟩
  have Va := V7.ext (H' := Ha) Ea.next fun c hc => Ea.old c (by omega)
  have Qa := Q7.fr (H' := Ha) (n' := H4.next) (Nat.le_refl _) (fun _ _ h => h) fun c hc _ => Ea.old c (by omega)
  have l8 : oLoad true 5 Ha (cellR H5.next 5 0) = some (.agg (rqC rq vh vb)) := row_loadN (r7.same (Ea.old _ (by omega))) (n := 5) rfl
  have R2 : Row Ha H.next noRq := r1.same (by rw [Ea.old _ (by omega), o7 _ (by omega), o6 _ (by omega), keep5 _ (by omega)])
  obtain ⟨Hb, mb, rb, nb', ob⟩ := row_storeN R2 (n := 5) rfl (xs := rqC rq vh vb) rfl hone
  simp only [sA, Int.reduceNegSucc, reduceCtorEq, Nat.reduceEqDiff, ↓reduceIte, Nat.reduceAdd, Int.reduceEq, Int.reduceLT, Int.reduceLE, Nat.reduceLT, ext_0, ext_1, m9', ma]
  refine aw_drawC rfl ?_
  simp only [sA, Int.reduceNegSucc, reduceCtorEq, Nat.reduceEqDiff, ↓reduceIte, Nat.reduceAdd, Int.reduceEq, Int.reduceLT, Int.reduceLE, Nat.reduceLT, sR, l8]
  refine (held_spec ⟨_, _, _, _, Va⟩).mono ?_
  rintro _ _ ⟨rfl, rfl⟩
  simp only [sA, Int.reduceNegSucc, reduceCtorEq, Nat.reduceEqDiff, ↓reduceIte, Nat.reduceAdd, Int.reduceEq, Int.reduceLT, Int.reduceLE, Nat.reduceLT, sR, mb]
  simp only [ck_nil', ck_cons, ckP_load, ckP_nil, ck_end, and_true, true_and, List.map_cons, List.map_nil, sA, Int.reduceNegSucc, reduceCtorEq, Nat.reduceEqDiff, ↓reduceIte, Nat.reduceAdd, Int.reduceEq, Int.reduceLT, Int.reduceLE, Nat.reduceLT]
  refine ⟨⟨_, rfl, fun _ => ⟨_, l8, aeq_rq Qa⟩⟩, ?_⟩
  have Qb := Qa.fr (H' := Hb) (n' := H4.next) (Nat.le_refl _) (fun _ _ h => h) fun c hc h6 => ob c fun e => by
    have := t4 c (by omega)
    omega
  refine fin_ct5 _ _ _ (by simp only [sA, Int.reduceNegSucc, reduceCtorEq, Nat.reduceEqDiff, ↓reduceIte, Nat.reduceAdd, Int.reduceEq, Int.reduceLT, Int.reduceLE, Nat.reduceLT]; exact row_loadN rb (n := 5) rfl) ⟨H4.next, τ4, vh, vb, by simp only [sA, Int.reduceNegSucc, reduceCtorEq, Nat.reduceEqDiff, ↓reduceIte, Nat.reduceAdd, Int.reduceEq, Int.reduceLT, Int.reduceLE, Nat.reduceLT], Qb, by omega, by omega, fun c hc => ?_⟩
  rw [ob c (by omega), Ea.old c (by omega), o7 c (by omega), o6 c (by omega), keep5 c (by omega), o1 c (by omega)]
end Go.Proofs.Ht
namespace Go.Proofs.Ht
open Go.Abs Go.Abs.S
set_option linter.unusedSimpArgs false
theorem says_spec {g m : Nat} {τ : Nat → Nat} {H : AHeap} {rq : Rq} {vh vb s b : AVal} {l : List (Bs × Bs)} {x : Bs × Bs} {body : Bs} (hG : GX g H) (hQ : RqAt m τ H (rqC rq vh vb) rq) (hm : m ≤ H.next) (hl : Prs H.next H s l) (hb : Cel H.next H b (byts body)) (hh : rq.hs = hostP :: l.map lowP ++ [x]) (hbd : rq.body = body) (ht : ∀ p ∈ l, p.1.all tch = true ∧ p.1.length ≤ 1000) (h60 : l.length ≤ 60) :
    ACalls Tryz.prog natX 9 [.agg (rqC rq vh vb), s, b] H fun w H' => w = .bool true ∧ Ext H.next H H' := by
  refine acalls_ofN rfl za9 rfl ?_
  have hq := aeq_rq hQ
  obtain ⟨wh, wb, e, h2, h3, h4, h5, _, _⟩ := hQ
  obtain ⟨rfl, rfl⟩ : vh = wh ∧ vb = wb := by
    simp only [rqC, List.cons.injEq, and_true, true_and] at e
    exact ⟨e.1, e.2⟩
  have hvh : aeq vh vh = true := aeq_sl (by
    rcases h4 with ⟨h, _⟩ | ⟨a, r', h, _⟩
    · exact .inl (by rw [h]; rfl)
    · exact .inr ⟨_, _, _, h⟩)
  obtain ⟨H1, m1, r1, n1, o1⟩ := row_newL H (rqC rq vh vb) (n := 5) rfl
  have E1 : Ext H.next H H1 := ⟨by omega, fun c hc => o1 c (by omega)⟩
  have l2 : oLoad false 1 H1 (cellR H.next 5 2) = some vh := row_load r1 (n := 5) rfl (i := 2) rfl
  have l3 : oLoad false 1 H1 (cellR H.next 5 3) = some vb := row_load r1 (n := 5) rfl (i := 3) rfl
  have P1 := h4.ext (E1.less hm)
  have Q1 := hl.ext E1
  have hlh : aLenK false vh = some (.int .i64 ((l.length + 2 : Nat) : Int)) := by
    rw [P1.len, hh]
    congr 3
    simp
  have hll := Q1.len
  have w2 : IntKind.i64.wrap ((l.length : Int) + 2) = ((l.length + 2 : Nat) : Int) := wrapN _ 2 (by omega)
  have hsb : Cel m H1 vb (byts body) := by rw [← hbd]; exact h5.ext (E1.less hm)
  have G1 := hG.fwd E1 hG.1
  simp only [c9, sA, Int.reduceNegSucc, reduceCtorEq, Nat.reduceEqDiff, ↓reduceIte, Nat.reduceAdd, Int.reduceEq, Int.reduceLT, Int.reduceLE, Nat.reduceLT, cells_agg, m1, fldA, l2, hlh, hll, w2, l3]
  refine (samebytes_spec hsb (hb.ext E1)).mono ?_
  rintro _ _ ⟨rfl, rfl⟩
  simp only [decide_true, sA, Int.reduceNegSucc, reduceCtorEq, Nat.reduceEqDiff, ↓reduceIte, Nat.reduceAdd, Int.reduceEq, Int.reduceLT, Int.reduceLE, Nat.reduceLT]
  refine aw_loop (fun q (T : Env) H' => ∃ j : Nat, j ≤ l.length ∧ q = l.length - j ∧ T 1 = s ∧ T 3 = cellR H.next 5 0 ∧ T 7 = .int .i64 (j : Int) ∧ H1 = H') l.length
    ⟨0, Nat.zero_le _, rfl, by simp only [sA, Int.reduceNegSucc, reduceCtorEq, Nat.reduceEqDiff, ↓reduceIte, Nat.reduceAdd, Int.reduceEq, Int.reduceLT, Int.reduceLE, Nat.reduceLT], by simp only [sA, Int.reduceNegSucc, reduceCtorEq, Nat.reduceEqDiff, ↓reduceIte, Nat.reduceAdd, Int.reduceEq, Int.reduceLT, Int.reduceLE, Nat.reduceLT], by simp only [sA, Int.reduceNegSucc, reduceCtorEq, Nat.reduceEqDiff, ↓reduceIte, Nat.reduceAdd, Int.reduceEq, Int.reduceLT, Int.reduceLE, Nat.reduceLT]; try rfl, rfl⟩ ?_
  rintro q T _ ⟨j, hj, rfl, g1, g3, g7, rfl⟩
  by_cases hlt : j < l.length
  · have hlt' : (j : Int) < (l.length : Int) := by omega
    obtain ⟨p, hp⟩ := isSome_of_lt hlt
    obtain ⟨ht1, ht2⟩ := ht p (List.mem_of_getElem? hp)
    have hp2 : rq.hs[j + 1]? = some (low p.1, p.2) := by
      rw [hh, List.cons_append, List.getElem?_cons_succ, List.getElem?_append_left (by rw [List.length_map]; exact hlt), List.getElem?_map, hp]; rfl
    obtain ⟨a, i1, _, a3, a4, a5, a6⟩ := Q1.at hp
    obtain ⟨c, k1, _, c3, c4, c5, c6⟩ := P1.at hp2
    simp only [sA, Int.reduceNegSucc, reduceCtorEq, Nat.reduceEqDiff, ↓reduceIte, Nat.reduceAdd, Int.reduceEq, Int.reduceLT, Int.reduceLE, Nat.reduceLT, g1, g3, g7, hll, hlt']
    refine aw_drawC rfl ?_
    simp only [sA, Int.reduceNegSucc, reduceCtorEq, Nat.reduceEqDiff, ↓reduceIte, Nat.reduceAdd, Int.reduceEq, Int.reduceLT, Int.reduceLE, Nat.reduceLT, sR, g1, g3, g7, fldA, l2, wrap1 j (by omega), k1, c5, c3, i1, a5, a3]
    refine tolower_call G1 p.1 (by omega) ?_
    rw [low_tch ht1]
    simp only [sA, Int.reduceNegSucc, reduceCtorEq, Nat.reduceEqDiff, ↓reduceIte, Nat.reduceAdd, Int.reduceEq, Int.reduceLT, Int.reduceLE, Nat.reduceLT, sR, g1, g3, g7, fldA, l2, wrap1 j (by omega), k1, c6, c4, i1, a6, a4]
    simp only [ck_nil', ck_cons, ckP_load, ckP_nil, ck_end, and_true, true_and, List.map_cons, List.map_nil, sA, Int.reduceNegSucc, reduceCtorEq, Nat.reduceEqDiff, ↓reduceIte, Nat.reduceAdd, Int.reduceEq, Int.reduceLT, Int.reduceLE, Nat.reduceLT, g1, g3, g7, fldA, wrap1 j (by omega), k1, c5]
    refine ⟨⟨⟨_, rfl, fun _ => ⟨_, l2, hvh⟩⟩, ⟨_, rfl, fun _ => ⟨_, c3, aeq_str _⟩⟩⟩, ?_⟩
    exact ⟨_, by omega, j + 1, by omega, rfl, rfl⟩
  · have hlt' : ¬ (j : Int) < (l.length : Int) := by omega
    simp only [sA, Int.reduceNegSucc, reduceCtorEq, Nat.reduceEqDiff, ↓reduceIte, Nat.reduceAdd, Int.reduceEq, Int.reduceLT, Int.reduceLE, Nat.reduceLT, g1, g3, g7, hll, hlt']
    exact ⟨(by first | with_reducible rfl | trivial | rfl | assumption), E1⟩
theorem one_spec (x y : Bs) {H : AHeap} : ACalls Tryz.prog natX 13 [.str x, .str y] H fun v H' => Prs H'.next H' v [(x, y)] ∧ Ext H.next H H' := by
  refine acalls_ofN rfl za13 rfl ?_
  have bd : aBuild [.str [], .str []] [(0, 1, .str x), (1, 1, .str y)] = some (.agg [.str x, .str y]) := rfl
  have bs : aBuildSl 1 [.str [], .str []] H [(0, 2, .agg [.str x, .str y])] = some (slR H.next 2 (.known 1), H.push (.cells [.str x, .str y] 0 false)) ∨ True := .inr trivial
  have bm := buildM (m := 2) (z := [.str [], .str []]) (xs := [.str x, .str y]) H rfl rfl
  simp only [c13, sA, Int.reduceNegSucc, reduceCtorEq, Nat.reduceEqDiff, ↓reduceIte, Nat.reduceAdd, Int.reduceEq, Int.reduceLT, Int.reduceLE, Nat.reduceLT, bd, bm]
  refine ⟨.inr ⟨⟨H.next, 2, 0⟩, _, rfl, by rw [push_next]; exact Nat.lt_succ_self _, fun i p hp => ?_⟩, ⟨by rw [push_next]; omega, fun c hc => get_push_lt hc⟩⟩
  have hi : i = 0 := by
    have := (List.getElem?_eq_some_iff.1 hp).1
    simp only [List.length_cons, List.length_nil] at this; omega
  subst hi
  simp only [List.getElem?_cons_zero, Option.some.injEq] at hp
  subst hp
  exact rd_row (row_push H [.str x, .str y]) rfl (i := 0) (k := 2) (Nat.le_refl 2)
theorem is_spec {n : Nat} {H : AHeap} {v : AVal} {d : Bs} (hv : App n H v (byts d)) : ACalls Tryz.prog natX 14 [v, .int .i64 0, .str d] H fun w H' => w = .bool true ∧ H = H' := by
  refine acalls_ofN rfl za14 rfl ?_
  have b := bs_cel hv.cel
  simp only [c14, sA, Int.reduceNegSucc, reduceCtorEq, Nat.reduceEqDiff, ↓reduceIte, Nat.reduceAdd, Int.reduceEq, Int.reduceLT, Int.reduceLE, Nat.reduceLT, b]
  exact ⟨(by first | with_reducible rfl | trivial | rfl | assumption), (by first | with_reducible rfl | trivial | rfl | assumption)⟩
theorem wrong_spec {g : Nat} {H : AHeap} (hG : GX g H) : ACalls Tryz.prog natX 15 [.str [97, 32, 98], .str [99]] H fun w H' => w = .bool true ∧ Ext H.next H H' := by
  refine acalls_ofN rfl za15 rfl ?_
  have hS : Sm [([97, 32, 98], [99])] := ⟨by decide, by decide⟩
  have hw : rwholeF 200 [([97, 32, 98], [99])] [] = ([], 21) := by
    unfold rwholeF rheadF
    rw [show checkF [([97, 32, 98], [99])] = 21 by decide +kernel]; rfl
  have he : rendF [([97, 32, 98], [99])] = ([], 21) := by
    unfold rendF
    rw [show checkF [([97, 32, 98], [99])] = 21 by decide +kernel]; rfl
  simp only [c15, sA, Int.reduceNegSucc, reduceCtorEq, Nat.reduceEqDiff, ↓reduceIte, Nat.reduceAdd, Int.reduceEq, Int.reduceLT, Int.reduceLE, Nat.reduceLT]
  refine (one_spec [97, 32, 98] [99]).mono ?_
  rintro v1 H1 ⟨P1, E1⟩
  have G1 := hG.fwd E1 hG.1
  simp only [sA, Int.reduceNegSucc, reduceCtorEq, Nat.reduceEqDiff, ↓reduceIte, Nat.reduceAdd, Int.reduceEq, Int.reduceLT, Int.reduceLE, Nat.reduceLT]
  refine (rwhole_spec G1 200 (body := []) P1 hS (.inl ⟨rfl, rfl⟩) (by simp)).mono ?_
  rintro _ H2 ⟨s2, rfl, A2, E2⟩
  rw [hw] at A2 ⊢
  have G2 := G1.fwd E2 G1.1
  simp only [sA, Int.reduceNegSucc, reduceCtorEq, Nat.reduceEqDiff, ↓reduceIte, Nat.reduceAdd, Int.reduceEq, Int.reduceLT, Int.reduceLE, Nat.reduceLT, ext_0, ext_1]
  refine (one_spec [97, 32, 98] [99]).mono ?_
  rintro v3 H3 ⟨P3, E3⟩
  have G3 := G2.fwd E3 G2.1
  simp only [sA, Int.reduceNegSucc, reduceCtorEq, Nat.reduceEqDiff, ↓reduceIte, Nat.reduceAdd, Int.reduceEq, Int.reduceLT, Int.reduceLE, Nat.reduceLT]
  refine (rend_spec G3 P3 hS).mono ?_
  rintro _ H4 ⟨s4, rfl, A4, E4⟩
  rw [he] at A4 ⊢
  have ln2 : aLenK false s2 = some (.int .i64 0) := byts_len' (A2.cel)
  have ln4 : aLenK false s4 = some (.int .i64 0) := byts_len' (A4.cel)
  have w0 : IntKind.i64.wrap (0 + 0) = 0 := rfl
  have w00 : IntKind.i64.wrap 0 = 0 := rfl
  have z21 : (((21 : Nat) : Int)) = 21 := rfl
  simp only [sA, Int.reduceNegSucc, reduceCtorEq, Nat.reduceEqDiff, ↓reduceIte, Nat.reduceAdd, Int.reduceEq, Int.reduceLT, Int.reduceLE, Nat.reduceLT, ext_0, ext_1, ln2, ln4, w0, Int.add_zero, w00, z21]
  exact ⟨(by first | with_reducible rfl | trivial | rfl | assumption), ((E1.trans (E2.less E1.next)).trans (E3.less (by have := E1.next; have := E2.next; omega))).trans (E4.less (by have := E1.next; have := E2.next; have := E3.next; omega))⟩
theorem prs_more {n m : Nat} {H : AHeap} {s : AVal} {l : List (Bs × Bs)} (h : Prs n H s l) (hm : n ≤ m) : Prs m H s l := by
  rcases h with h | ⟨a, r, h1, h2, h3⟩
  · exact .inl h
  · exact .inr ⟨a, r, h1, by omega, h3⟩
theorem mark_lit (H : AHeap) (d : Bs) {m : Nat} (hm : d.length = m) : ∃ H', aHf .mark (H.push (.cells (byts d) 0 false)) [slR H.next m (.known m)] = some (slR H.next m (.known m), H') ∧ Cel (H.next + 1) H' (slR H.next m (.known m)) (byts d) ∧ H'.next = H.next + 1 ∧ Ext H.next H H' := by
  have hg : (H.push (.cells (byts d) 0 false)).get H.next = some (.cells (byts d) 0 false) := by rw [AHeap.get_push, if_pos rfl]
  refine ⟨(H.push (.cells (byts d) 0 false)).set H.next (.cells (byts d) 0 false), ?_, ?_, by rw [set_next, push_next], ((Ext.refl _ H).push (Nat.le_refl _) _).set (Nat.le_refl _) _⟩
  · show (match (H.push (.cells (byts d) 0 false)).get H.next with
      | some (.cells l low false) => some (slR H.next m (.known m), (H.push (.cells (byts d) 0 false)).set H.next (.cells l low false))
      | _ => none) = _
    rw [hg]
  · have hR : Row ((H.push (.cells (byts d) 0 false)).set H.next (.cells (byts d) 0 false)) H.next (byts d) := ⟨0, by rw [AHeap.get_set]; simp [push_next], Nat.zero_le _⟩
    exact hR.cel (by rw [byts_len]; exact hm) (Nat.lt_succ_self _)
theorem awake_spec {g : Nat} {H : AHeap} (hG : GX g H) (hB : Glo H 6 b64) (h6 : 6 < g) : ACalls Tryz.prog natX 4 [] H fun w _ => w = .bool true := by
  refine acalls_ofN rfl za4 rfl ?_
  have q1 : ∀ H : AHeap, aBuildSl 2 [.int .u8 0] H [(0, 1, .int .u8 104), (1, 1, .int .u8 105)] = some (slR H.next 2 (.known 2), H.push (.cells (byts [104, 105]) 0 false)) := fun _ => rfl
  have q2 : ∀ H : AHeap, aBuildSl 16 [.int .u8 0] H [(0, 1, .int .u8 48), (1, 1, .int .u8 49), (2, 1, .int .u8 50), (3, 1, .int .u8 51), (4, 1, .int .u8 52), (5, 1, .int .u8 53), (6, 1, .int .u8 54), (7, 1, .int .u8 55), (8, 1, .int .u8 56), (9, 1, .int .u8 57), (10, 1, .int .u8 97), (11, 1, .int .u8 98), (12, 1, .int .u8 99), (13, 1, .int .u8 100), (14, 1, .int .u8 101), (15, 1, .int .u8 102)] = some (slR H.next 16 (.known 16), H.push (.cells (byts [48, 49, 50, 51, 52, 53, 54, 55, 56, 57, 97, 98, 99, 100, 101, 102]) 0 false)) := fun _ => rfl
  have hS1 : Sm [([88, 45, 83, 101, 113], [49])] := ⟨by decide, by decide⟩
  have hS2 : Sm [([88], [121])] := ⟨by decide, by decide⟩
  have hS0 : Sm [] := ⟨by decide, by simp⟩
  have f1 : rwholeF 200 [([88, 45, 83, 101, 113], [49])] [104, 105] = ([72, 84, 84, 80, 47, 49, 46, 49, 32, 50, 48, 48, 32, 79, 75, 13, 10, 88, 45, 83, 101, 113, 58, 32, 49, 13, 10, 67, 111, 110, 116, 101, 110, 116, 45, 76, 101, 110, 103, 116, 104, 58, 32, 50, 13, 10, 13, 10, 104, 105], 0) := by decide +kernel
  have f2 : rendF [([88], [121])] = ([48, 13, 10, 88, 58, 32, 121, 13, 10, 13, 10], 0) := by decide +kernel
  have f3 : rwholeF 99 [] [] = ([], 2) := by decide +kernel
  have f4 : rchunkF [48, 49, 50, 51, 52, 53, 54, 55, 56, 57, 97, 98, 99, 100, 101, 102] = [49, 48, 13, 10, 48, 49, 50, 51, 52, 53, 54, 55, 56, 57, 97, 98, 99, 100, 101, 102, 13, 10] := by decide +kernel
  have gn := hG.1
  simp only [c4, sA, Int.reduceNegSucc, reduceCtorEq, Nat.reduceEqDiff, ↓reduceIte, Nat.reduceAdd, Int.reduceEq, Int.reduceLT, Int.reduceLE, Nat.reduceLT]
  refine (one_spec [88, 45, 83, 101, 113] [49]).mono ?_
  rintro v1 H1 ⟨P1, E1⟩
  have e1 := E1.next
  obtain ⟨Hm, mk1, ck1, nk1, E1'⟩ := mark_lit H1 [104, 105] rfl
  have G1 := (hG.fwd E1 hG.1).fwd E1' (by omega)
  have mk1' : aHf .mark (H1.push (.cells (byts [104, 105]) 0 false)) [slR H1.next 2 (.known 2)] = some (slR H1.next 2 (.known 2), Hm) := mk1
  simp only [sA, Int.reduceNegSucc, reduceCtorEq, Nat.reduceEqDiff, ↓reduceIte, Nat.reduceAdd, Int.reduceEq, Int.reduceLT, Int.reduceLE, Nat.reduceLT, q1, mk1']
  refine (rwhole_spec G1 200 (body := [104, 105]) (prs_more (P1.ext E1') (by omega)) hS1 (ck1.more (by omega)) (by decide)).mono ?_
  rintro _ H2 ⟨s2, rfl, A2, E2⟩
  rw [f1] at A2 ⊢
  have e2 := E2.next
  have G2 := G1.fwd E2 G1.1
  simp only [sA, Int.reduceNegSucc, reduceCtorEq, Nat.reduceEqDiff, ↓reduceIte, Nat.reduceAdd, Int.reduceEq, Int.reduceLT, Int.reduceLE, Nat.reduceLT, ext_0, ext_1]
  refine (one_spec [88] [121]).mono ?_
  rintro v3 H3 ⟨P3, E3⟩
  have e3 := E3.next
  have G3 := G2.fwd E3 G2.1
  simp only [sA, Int.reduceNegSucc, reduceCtorEq, Nat.reduceEqDiff, ↓reduceIte, Nat.reduceAdd, Int.reduceEq, Int.reduceLT, Int.reduceLE, Nat.reduceLT]
  refine (rend_spec G3 P3 hS2).mono ?_
  rintro _ H4 ⟨s4, rfl, A4, E4⟩
  rw [f2] at A4 ⊢
  have e4 := E4.next
  have G4 := G3.fwd E4 G3.1
  simp only [sA, Int.reduceNegSucc, reduceCtorEq, Nat.reduceEqDiff, ↓reduceIte, Nat.reduceAdd, Int.reduceEq, Int.reduceLT, Int.reduceLE, Nat.reduceLT, ext_0, ext_1]
  refine (rwhole_spec G4 99 (l := []) (body := []) (.inl ⟨rfl, rfl⟩) hS0 (.inl ⟨rfl, rfl⟩) (by simp)).mono ?_
  rintro _ H5 ⟨s5, rfl, A5, E5⟩
  rw [f3] at A5 ⊢
  have e5 := E5.next
  have G5 := G4.fwd E5 G4.1
  have A2' := A2.ext (E3.trans ((E4.less (by omega)).trans (E5.less (by omega))))
  have A4' := A4.ext (H' := H5) E5
  have z0 : ((0 : Nat) : Int) = 0 := rfl
  have z2 : ((2 : Nat) : Int) = 2 := rfl
  simp only [sA, Int.reduceNegSucc, reduceCtorEq, Nat.reduceEqDiff, ↓reduceIte, Nat.reduceAdd, Int.reduceEq, Int.reduceLT, Int.reduceLE, Nat.reduceLT, ext_0, ext_1, z0, z2]
  refine (is_spec A2').mono ?_
  rintro _ _ ⟨rfl, rfl⟩
  obtain ⟨Hn, mk2, ck2, nk2, E6⟩ := mark_lit H5 [48, 49, 50, 51, 52, 53, 54, 55, 56, 57, 97, 98, 99, 100, 101, 102] rfl
  have E05 : Ext g H H5 := (E1.less hG.1).trans ((E1'.less (by omega)).trans ((E2.less (by omega)).trans ((E3.less (by omega)).trans ((E4.less (by omega)).trans (E5.less (by omega))))))
  have mk2' : aHf .mark (H5.push (.cells (byts [48, 49, 50, 51, 52, 53, 54, 55, 56, 57, 97, 98, 99, 100, 101, 102]) 0 false)) [slR H5.next 16 (.known 16)] = some (slR H5.next 16 (.known 16), Hn) := mk2
  have B6 : Glo Hn 6 b64 := hB.ext h6 (E05.trans (E6.less (by omega)))
  simp only [sA, Int.reduceNegSucc, reduceCtorEq, Nat.reduceEqDiff, ↓reduceIte, Nat.reduceAdd, Int.reduceEq, Int.reduceLT, Int.reduceLE, Nat.reduceLT, q2, mk2']
  refine (rchunk_spec B6 (by omega) (ck2.more (by omega)) (by decide)).mono ?_
  rintro s6 H6 ⟨A6, E6'⟩
  rw [f4] at A6
  have e6 := E6'.next
  have b6 := bs_cel A6.cel
  simp only [sA, Int.reduceNegSucc, reduceCtorEq, Nat.reduceEqDiff, ↓reduceIte, Nat.reduceAdd, Int.reduceEq, Int.reduceLT, Int.reduceLE, Nat.reduceLT, b6]
  refine (is_spec (A4'.ext (E6.trans (E6'.less (by omega))))).mono ?_
  rintro _ _ ⟨rfl, rfl⟩
  simp only [sA, Int.reduceNegSucc, reduceCtorEq, Nat.reduceEqDiff, ↓reduceIte, Nat.reduceAdd, Int.reduceEq, Int.reduceLT, Int.reduceLE, Nat.reduceLT]
  refine (wrong_spec ((G5.fwd E6 G5.1).fwd E6' (by have := G5.1; omega))).mono ?_
  rintro _ _ ⟨rfl, -⟩
  simp only [sA, Int.reduceNegSucc, reduceCtorEq, Nat.reduceEqDiff, ↓reduceIte, Nat.reduceAdd, Int.reduceEq, Int.reduceLT, Int.reduceLE, Nat.reduceLT]
end Go.Proofs.Ht
namespace Go.Proofs.Ht
open Go.Abs Go.Abs.S
set_option linter.unusedSimpArgs false
open Go.Lib (toLowerD)
def clW : Bs := [67, 111, 110, 116, 101, 110, 116, 45, 76, 101, 110, 103, 116, 104]
def teW : Bs := [84, 114, 97, 110, 115, 102, 101, 114, 45, 69, 110, 99, 111, 100, 105, 110, 103]
theorem head_drop {s : Bs} (h : headOK s = true) : s.dropWhile blk = s := by
  cases s with
  | nil => rfl
  | cons b r =>
    have hb : blk b = false := by simpa [headOK] using h
    rw [List.dropWhile_cons, if_neg (by rw [hb]; simp)]
theorem hdr_ok {p : Bs × Bs} (h : hdrB p = true) (hl : p.1.length + p.2.length ≤ 1000) : HOk p ∧ p.1.all tch = true ∧ low p.1 ≠ clN ∧ low p.1 ≠ teN := by
  unfold hdrB nameB valueB lastOK at h
  simp only [Bool.and_eq_true, Bool.not_eq_true', decide_eq_false_iff_not] at h
  obtain ⟨⟨⟨h1, h2⟩, h3, h4⟩, h5, h6, h7⟩ := h
  exact ⟨⟨by unfold token; simp [h1, h2], h5, head_drop h6, head_drop h7, hl⟩, h2, h3, h4⟩
theorem hdrs_ok {l : List (Bs × Bs)} (hS : Sm l) (hc : checkF l = 0) : l.length ≤ 40 ∧ ∀ p ∈ l, HOk p ∧ p.1.all tch = true ∧ low p.1 ≠ clN ∧ low p.1 ≠ teN := by
  unfold checkF at hc
  by_cases h40 : 40 < l.length
  · rw [if_pos h40] at hc; omega
  rw [if_neg h40] at hc
  cases ha : l.all hdrB with
  | false => rw [ha] at hc; simp at hc
  | true => exact ⟨by omega, fun p hp => hdr_ok (List.all_eq_true.1 ha p hp) (by have := hS.e p hp; omega)⟩
theorem dig_blk {s : Bs} (h : s.all digB = true) : s.dropWhile blk = s := by
  cases s with
  | nil => rfl
  | cons b r =>
    have hb := List.all_eq_true.1 h b (by simp)
    simp only [digB, Bool.and_eq_true, decide_eq_true_eq] at hb
    rw [List.dropWhile_cons, if_neg]
    simp only [blk, Bool.or_eq_true, decide_eq_true_eq]; omega
theorem dec_hok {n : Nat} (h : n ≤ 1000) : HOk (clW, dec n) := by
  have hd := dec_dig h
  have hl := dec_len h
  refine ⟨show token clW = true by decide +kernel, List.all_eq_true.2 fun b hb => ?_, dig_blk hd, dig_blk (by rw [List.all_reverse]; exact hd), by show 14 + (dec n).length ≤ 1000; omega⟩
  have := List.all_eq_true.1 hd b hb
  simp only [digB, Bool.and_eq_true, decide_eq_true_eq] at this
  simp only [valB, Bool.or_eq_true, Bool.and_eq_true, Bool.not_eq_true', decide_eq_true_eq, decide_eq_false_iff_not]; omega
theorem dec_13 {n : Nat} (h : n ≤ 1000) : ∀ b ∈ dec n, b ≠ 13 := fun b hb e => by
  have := List.all_eq_true.1 (dec_dig h) b hb
  subst e
  revert this; decide
theorem reason_13 (n : Int) : ∀ b ∈ reasonF n, b ≠ 13 := by
  unfold reasonF
  split
  · rename_i p hp
    have hm := List.mem_of_find?_eq_some hp
    have : ∀ q ∈ reasons, ∀ b ∈ q.2, b ≠ 13 := by decide
    exact this p hm
  · simp
theorem hdrs_app (a b : List (Bs × Bs)) : hdrs (a ++ b) = hdrs a ++ hdrs b := by simp [hdrs]
theorem ask_eq : askH = postL ++ crlf ++ (hline hostP ++ crlf) := by decide +kernel
def chs (ps : List Bs) : Bs := ps.flatMap rchunkF
def csF (ps : List Bs) : List (Bs × Bs) := (ps.filter fun b => !decide (b = [])).map fun b => (hexS b.length, b)
theorem chs_eq (ps : List Bs) : chs ps = (csF ps).flatMap fun x => x.1 ++ crlf ++ x.2 ++ crlf := by
  induction ps with
  | nil => rfl
  | cons b ps ih =>
    unfold chs csF at ih ⊢
    rw [List.flatMap_cons, ih]
    by_cases h : b = []
    · subst h; simp [rchunkF]
    · simp [rchunkF, h]
theorem cs_flat (ps : List Bs) : (csF ps).flatMap (·.2) = ps.flatten := by
  induction ps with
  | nil => rfl
  | cons b ps ih =>
    unfold csF at ih ⊢
    by_cases h : b = []
    · subst h; simpa using ih
    · simp only [List.filter_cons, h, decide_false, Bool.not_false, if_true, List.map_cons, List.flatMap_cons, ih, List.flatten_cons]
theorem back_whole {st : Int} {l : List (Bs × Bs)} {body : Bs} (hS : Sm l) (h38 : l.length ≤ 38) (hbl : body.length ≤ 1000) (hc : (rheadF st l).2 = 0) (ho : ∀ p ∈ l, toLowerD p.1 ≠ hostN ∧ toLowerD p.1 ≠ conN) :
    ∃ y rest rq, (rwholeF st l body).1 = (httpH ++ y) ++ 13 :: 10 :: rest ∧ (∀ b ∈ y, b ≠ 13) ∧ feedF PS.zero (askH ++ rest) = (PS.zero, [rq]) ∧ rq.m.length ≤ 100000 ∧ rq.t.length ≤ 100000 ∧ rq.body = body ∧ rq.hs = hostP :: l.map lowP ++ [(clN, dec body.length)] ∧ checkF l = 0 ∧ (rwholeF st l body).2 = 0 ∧ 200 ≤ st ∧ st ≤ 599 := by
  unfold rheadF at hc
  by_cases hr : st < 200 ∨ 599 < st
  · rw [if_pos hr] at hc; simp at hc
  rw [if_neg hr] at hc
  by_cases hk : checkF l = 0
  · obtain ⟨_, hp⟩ := hdrs_ok hS hk
    have hh : rheadF st l = (httpH ++ dec st.toNat ++ [32] ++ reasonF st ++ crlf ++ hdrs l, 0) := by unfold rheadF; rw [if_neg hr, if_pos hk]
    have hw : rwholeF st l body = (httpH ++ dec st.toNat ++ [32] ++ reasonF st ++ crlf ++ hdrs l ++ clH ++ dec body.length ++ crlf ++ crlf ++ body, 0) := by unfold rwholeF; rw [hh]; rfl
    refine ⟨dec st.toNat ++ [32] ++ reasonF st, hdrs l ++ clH ++ dec body.length ++ crlf ++ crlf ++ body, ⟨postM, [47], hostP :: l.map lowP ++ [(clN, dec body.length)], body, false⟩, ?_, ?_, ?_, show postM.length ≤ 100000 by decide, show ([47] : Bs).length ≤ 100000 by decide, rfl, rfl, hk, by rw [hw], by omega, by omega⟩
    · rw [hw]; simp [crlf]
    · intro b hb
      simp only [List.mem_append, List.mem_singleton] at hb
      rcases hb with (hb | rfl) | hb
      · exact dec_13 (by omega) b hb
      · decide
      · exact reason_13 st b hb
    · have := whole_back (l := l) (N := clW) (d := dec body.length) (body := body) (fun p hp' => (hp p hp').1) (fun p hp' => by
        obtain ⟨_, h2, h3, h4⟩ := hp p hp'
        have h5 := ho p hp'
        rw [low_tch h2] at h5
        exact ⟨h3, h4, h5.1, h5.2⟩) h38 (by decide +kernel) (dec_hok hbl) (dec_num hbl) (by omega)
      rw [← this]
      congr 1
      rw [ask_eq, show hostP :: l ++ [(clW, dec body.length)] = [hostP] ++ l ++ [(clW, dec body.length)] by simp, hdrs_app, hdrs_app]
      have e1 : hdrs [hostP] = hline hostP ++ crlf := by simp [hdrs]
      have e2 : hdrs [(clW, dec body.length)] = clH ++ dec body.length ++ crlf := by
        have : clH = clW ++ [58, 32] := by decide +kernel
        rw [this]; simp [hdrs, hline]
      rw [e1, e2]
      simp only [List.append_assoc]
  · rw [if_neg hk] at hc
    exact absurd hc hk
theorem back_chunks {st : Int} {l tr : List (Bs × Bs)} {ps : List Bs} {body : Bs} (hS : Sm l) (hT : Sm tr) (h38 : l.length ≤ 38) (hbl : body.length ≤ 1000) (hc : (rheadF st l).2 = 0) (ho : ∀ p ∈ l, toLowerD p.1 ≠ hostN ∧ toLowerD p.1 ≠ conN) (hps : ps.flatten = body) (ht : (rendF tr).2 = 0) :
    ∃ y rest rq, (rbeginF st l).1 ++ chs ps ++ (rendF tr).1 = (httpH ++ y) ++ 13 :: 10 :: rest ∧ (∀ b ∈ y, b ≠ 13) ∧ feedF PS.zero (askH ++ rest) = (PS.zero, [rq]) ∧ rq.m.length ≤ 100000 ∧ rq.t.length ≤ 100000 ∧ rq.body = body ∧ rq.hs = hostP :: l.map lowP ++ [(teN, chW)] := by
  unfold rheadF at hc
  by_cases hr : st < 200 ∨ 599 < st
  · rw [if_pos hr] at hc; simp at hc
  rw [if_neg hr] at hc
  by_cases hk : checkF l = 0
  · obtain ⟨_, hp⟩ := hdrs_ok hS hk
    have hkt : checkF tr = 0 := by
      unfold rendF at ht
      by_cases h : checkF tr = 0
      · exact h
      · rw [if_neg h] at ht; exact ht
    obtain ⟨ht40, hpt⟩ := hdrs_ok hT hkt
    have hh : rheadF st l = (httpH ++ dec st.toNat ++ [32] ++ reasonF st ++ crlf ++ hdrs l, 0) := by unfold rheadF; rw [if_neg hr, if_pos hk]
    have hw : rbeginF st l = (httpH ++ dec st.toNat ++ [32] ++ reasonF st ++ crlf ++ hdrs l ++ teH ++ crlf ++ crlf, 0) := by unfold rbeginF; rw [hh]; rfl
    have he : rendF tr = ([48] ++ crlf ++ hdrs tr ++ crlf, 0) := by unfold rendF; rw [if_pos hkt]
    refine ⟨dec st.toNat ++ [32] ++ reasonF st, hdrs l ++ teH ++ crlf ++ crlf ++ chs ps ++ ([48] ++ crlf ++ hdrs tr ++ crlf), ⟨postM, [47], hostP :: l.map lowP ++ [(teN, chW)], body, false⟩, ?_, ?_, ?_, show postM.length ≤ 100000 by decide, show ([47] : Bs).length ≤ 100000 by decide, rfl, rfl⟩
    · rw [hw, he]; simp [crlf]
    · intro b hb
      simp only [List.mem_append, List.mem_singleton] at hb
      rcases hb with (hb | rfl) | hb
      · exact dec_13 (by omega) b hb
      · decide
      · exact reason_13 st b hb
    · have hcs : ∀ x ∈ csF ps, XOk x.1 x.2.length ∧ 0 < x.2.length := by
        intro x hx
        unfold csF at hx
        obtain ⟨b, hb, rfl⟩ := List.mem_map.1 hx
        obtain ⟨hb1, hb2⟩ := List.mem_filter.1 hb
        have hne : b ≠ [] := by simpa using hb2
        have hle : b.length ≤ body.length := by
          rw [← hps]
          exact List.Sublist.length_le (List.sublist_flatten_of_mem hb1)
        exact ⟨hex_ok (by omega), List.length_pos_iff.2 hne⟩
      have := chunk_back (l := l) (tr := tr) (N := teW) (cs := csF ps) (fun p hp' => (hp p hp').1) (fun p hp' => by
        obtain ⟨_, h2, h3, h4⟩ := hp p hp'
        have h5 := ho p hp'
        rw [low_tch h2] at h5
        exact ⟨h3, h4, h5.1, h5.2⟩) h38 (by decide +kernel) ⟨by decide +kernel, by decide +kernel, by decide +kernel, by decide +kernel, by decide⟩ hcs (by rw [cs_flat, hps]; omega) (fun p hp' => (hpt p hp').1) ht40
      rw [cs_flat, hps, ← chs_eq] at this
      rw [← this]
      congr 1
      rw [ask_eq, show hostP :: l ++ [(teW, chW)] = [hostP] ++ l ++ [(teW, chW)] by simp, hdrs_app, hdrs_app]
      have e1 : hdrs [hostP] = hline hostP ++ crlf := by simp [hdrs]
      have e2 : hdrs [(teW, chW)] = teH ++ crlf := by decide +kernel
      rw [e1, e2]
      simp only [List.append_assoc]
  · rw [if_neg hk] at hc
    exact absurd hc hk
end Go.Proofs.Ht
