/- Part of a proof (XC S12 S14 X0); no condition. -/
import Derived.Test.YteaedppacbpifaaGreatProg
import Derived.KernelRfl
import Derived.Test.YteaedppacbpifaaGreatP6
set_option linter.unusedSimpArgs false
set_option linter.unusedVariables false
set_option linter.unnecessarySimpa false
/- The code of the functions that the statements reach, as the abstract machine has it. Printed by program. -/
namespace Go.Proofs.Tx
open Go.Abs Go.Abs.S
noncomputable section
-- lightwell/lightwelllaw10.TextureSamples
def c3 : AFn := ⟨51, (.seq (.reg [⟨(some 3), .box (.t 0), none⟩, ⟨(some 6), .mv (.c (.bool false)), none⟩]) (.seq (.reg [⟨(some 8), .load true 3 (.t 3), none⟩, ⟨(some 9), .mv (.t 1), none⟩, ⟨(some 10), .mv (.t 2), none⟩, ⟨(some 11), .call 4 [(.t 8), (.t 9), (.t 10)], none⟩, ⟨(some 7), .new [(.int .i64 (.ofNat 0)), (.int .i64 (.ofNat 0)), (.int .i64 (.ofNat 0))], none⟩, ⟨none, .store 3 (.t 7) (.t 11), none⟩]) (.seq (.draw [⟨(some 12), .load true 3 (.t 7), none⟩, ⟨(some 13), .load true 3 (.t 3), none⟩, ⟨(some 14), .mv (.t 1), none⟩, ⟨(some 15), .mv (.t 2), none⟩, ⟨(some 16), .call 5 [(.t 13), (.t 14), (.t 15)], none⟩, ⟨(some 17), .pf (.eqS false [(0, .int), (1, .int), (2, .int)]) [(.t 12), (.t 16)], none⟩, ⟨(some 18), .mv (.t 17), none⟩, ⟨(some 19), .fieldA 0 (.t 7), (some (18, true))⟩, ⟨(some 20), .load false 1 (.t 19), (some (18, true))⟩, ⟨(some 21), .bin .geq (.t 20) (.c (.int .i64 (.ofNat 0))), (some (18, true))⟩, ⟨(some 22), .pick (.t 18) (.t 21) (.c (.bool false)), none⟩, ⟨(some 23), .mv (.t 22), none⟩, ⟨(some 24), .fieldA 0 (.t 7), (some (23, true))⟩, ⟨(some 25), .load false 1 (.t 24), (some (23, true))⟩, ⟨(some 26), .bin .leq (.t 25) (.c (.int .i64 (.ofNat 4294967296))), (some (23, true))⟩, ⟨(some 27), .pick (.t 23) (.t 26) (.c (.bool false)), none⟩, ⟨(some 28), .mv (.t 27), none⟩, ⟨(some 29), .fieldA 1 (.t 7), (some (28, true))⟩, ⟨(some 30), .load false 1 (.t 29), (some (28, true))⟩, ⟨(some 31), .bin .geq (.t 30) (.c (.int .i64 (.ofNat 0))), (some (28, true))⟩, ⟨(some 32), .pick (.t 28) (.t 31) (.c (.bool false)), none⟩, ⟨(some 33), .mv (.t 32), none⟩, ⟨(some 34), .fieldA 1 (.t 7), (some (33, true))⟩, ⟨(some 35), .load false 1 (.t 34), (some (33, true))⟩, ⟨(some 36), .bin .leq (.t 35) (.c (.int .i64 (.ofNat 4294967296))), (some (33, true))⟩, ⟨(some 37), .pick (.t 33) (.t 36) (.c (.bool false)), none⟩, ⟨(some 38), .mv (.t 37), none⟩, ⟨(some 39), .fieldA 2 (.t 7), (some (38, true))⟩, ⟨(some 40), .load false 1 (.t 39), (some (38, true))⟩, ⟨(some 41), .bin .geq (.t 40) (.c (.int .i64 (.ofNat 0))), (some (38, true))⟩, ⟨(some 42), .pick (.t 38) (.t 41) (.c (.bool false)), none⟩, ⟨(some 43), .mv (.t 42), none⟩, ⟨(some 44), .fieldA 2 (.t 7), (some (43, true))⟩, ⟨(some 45), .load false 1 (.t 44), (some (43, true))⟩, ⟨(some 46), .bin .leq (.t 45) (.c (.int .i64 (.ofNat 4294967296))), (some (43, true))⟩, ⟨(some 47), .pick (.t 43) (.t 46) (.c (.bool false)), none⟩, ⟨(some 48), .mv (.t 47), none⟩, ⟨(some 49), .call 6 [], (some (48, true))⟩, ⟨(some 50), .pick (.t 48) (.t 49) (.c (.bool false)), none⟩, ⟨(some 6), .mv (.t 50), none⟩] [[37], [], [], [], [], [], [], [], [], [], [], [], [], [], [], [], [], [], [], [], [], [], [], [], [], [], [], [], [], [], [], [], [], [], [], [], [], [], [], []]) .ret))), [.t 6]⟩
theorem za3 : cN Tryz.prog 3 = some c3 := by kernel_rfl
-- lightwell/texture.Sample
def c4 : AFn := ⟨34, (.seq (.reg [⟨(some 3), .box (.t 0), none⟩, ⟨(some 6), .new [(.int .i64 (.ofNat 0)), (.int .i64 (.ofNat 0)), (.int .i64 (.ofNat 0))], none⟩]) (.seq (.seq (.reg [⟨(some 9), .load true 3 (.t 3), none⟩, ⟨(some 10), .call 7 [(.t 9)], none⟩, ⟨(some 11), .un .not (.t 10), none⟩]) (.cond (.t 11) (.seq (.reg [⟨(some 12), .build [(.int .i64 (.ofNat 0)), (.int .i64 (.ofNat 0)), (.int .i64 (.ofNat 0))] [], none⟩, ⟨none, .store 3 (.t 6) (.t 12), none⟩]) .ret) .skip)) (.seq (.draw [⟨(some 13), .mv (.t 2), none⟩, ⟨(some 14), .fieldA 1 (.t 3), none⟩, ⟨(some 15), .load false 1 (.t 14), none⟩, ⟨(some 16), .call 8 [(.t 13), (.t 15)], none⟩, ⟨(some 17), .fieldA 0 (.t 3), none⟩, ⟨(some 18), .load false 1 (.t 17), none⟩, ⟨(some 19), .bin .mul (.t 16) (.t 18), none⟩, ⟨(some 20), .mv (.t 1), none⟩, ⟨(some 21), .fieldA 0 (.t 3), none⟩, ⟨(some 22), .load false 1 (.t 21), none⟩, ⟨(some 23), .call 8 [(.t 20), (.t 22)], none⟩, ⟨(some 24), .bin .add (.t 19) (.t 23), none⟩, ⟨(some 25), .bin .mul (.c (.int .i64 (.ofNat 4))) (.t 24), none⟩, ⟨(some 7), .new [(.int .i64 (.ofNat 0))], none⟩, ⟨none, .store 1 (.t 7) (.t 25), none⟩] [[], [], [], [], [], [3, 14], [], [], [], [3], [], [], [], [3, 10], []]) (.seq (.reg [⟨(some 26), .mkFunc (.func 9) [] [(.t 3), (.t 7)], none⟩, ⟨(some 8), .mv (.t 26), none⟩]) (.seq (.reg [⟨(some 27), .mv (.t 8), none⟩, ⟨(some 28), .callv (.t 27) [(.c (.int .i64 (.ofNat 0)))], none⟩, ⟨(some 29), .mv (.t 8), none⟩, ⟨(some 30), .callv (.t 29) [(.c (.int .i64 (.ofNat 1)))], none⟩, ⟨(some 31), .mv (.t 8), none⟩, ⟨(some 32), .callv (.t 31) [(.c (.int .i64 (.ofNat 2)))], none⟩, ⟨(some 33), .build [(.int .i64 (.ofNat 0)), (.int .i64 (.ofNat 0)), (.int .i64 (.ofNat 0))] [(0, 1, (.t 28)), (1, 1, (.t 30)), (2, 1, (.t 32))], none⟩, ⟨none, .store 3 (.t 6) (.t 33), none⟩]) .ret))))), [.cell true 3 6]⟩
theorem za4 : cN Tryz.prog 4 = some c4 := by kernel_rfl
-- lightwell/texture.right
def c7 : AFn := ⟨33, (.seq (.reg [⟨(some 1), .box (.t 0), none⟩, ⟨(some 2), .mv (.c (.bool false)), none⟩]) (.seq (.reg [⟨(some 3), .fieldA 0 (.t 1), none⟩, ⟨(some 4), .load false 1 (.t 3), none⟩, ⟨(some 5), .bin .geq (.t 4) (.c (.int .i64 (.ofNat 1))), none⟩, ⟨(some 6), .mv (.t 5), none⟩, ⟨(some 7), .fieldA 0 (.t 1), (some (6, true))⟩, ⟨(some 8), .load false 1 (.t 7), (some (6, true))⟩, ⟨(some 9), .bin .leq (.t 8) (.c (.int .i64 (.ofNat 1024))), (some (6, true))⟩, ⟨(some 10), .pick (.t 6) (.t 9) (.c (.bool false)), none⟩, ⟨(some 11), .mv (.t 10), none⟩, ⟨(some 12), .fieldA 1 (.t 1), (some (11, true))⟩, ⟨(some 13), .load false 1 (.t 12), (some (11, true))⟩, ⟨(some 14), .bin .geq (.t 13) (.c (.int .i64 (.ofNat 1))), (some (11, true))⟩, ⟨(some 15), .pick (.t 11) (.t 14) (.c (.bool false)), none⟩, ⟨(some 16), .mv (.t 15), none⟩, ⟨(some 17), .fieldA 1 (.t 1), (some (16, true))⟩, ⟨(some 18), .load false 1 (.t 17), (some (16, true))⟩, ⟨(some 19), .bin .leq (.t 18) (.c (.int .i64 (.ofNat 1024))), (some (16, true))⟩, ⟨(some 20), .pick (.t 16) (.t 19) (.c (.bool false)), none⟩, ⟨(some 21), .mv (.t 20), none⟩, ⟨(some 22), .fieldA 2 (.t 1), (some (21, true))⟩, ⟨(some 23), .load false 1 (.t 22), (some (21, true))⟩, ⟨(some 24), .len false (.t 23), (some (21, true))⟩, ⟨(some 25), .fieldA 0 (.t 1), (some (21, true))⟩, ⟨(some 26), .load false 1 (.t 25), (some (21, true))⟩, ⟨(some 27), .bin .mul (.c (.int .i64 (.ofNat 4))) (.t 26), (some (21, true))⟩, ⟨(some 28), .fieldA 1 (.t 1), (some (21, true))⟩, ⟨(some 29), .load false 1 (.t 28), (some (21, true))⟩, ⟨(some 30), .bin .mul (.t 27) (.t 29), (some (21, true))⟩, ⟨(some 31), .bin .eql (.t 24) (.t 30), (some (21, true))⟩, ⟨(some 32), .pick (.t 21) (.t 31) (.c (.bool false)), none⟩, ⟨(some 2), .mv (.t 32), none⟩]) .ret)), [.t 2]⟩
theorem za7 : cN Tryz.prog 7 = some c7 := by kernel_rfl
-- lightwell/texture.place
def c8 : AFn := ⟨16, (.seq (.reg [⟨(some 4), .mv (.c (.int .i64 (.ofNat 0))), none⟩]) (.seq (.reg [⟨(some 6), .mv (.t 0), none⟩, ⟨(some 7), .mv (.t 0), none⟩, ⟨(some 8), .call 21 [(.t 7)], none⟩, ⟨(some 9), .call 11 [(.t 8)], none⟩, ⟨(some 10), .call 20 [(.t 6), (.t 9)], none⟩, ⟨(some 5), .mv (.t 10), none⟩]) (.seq (.reg [⟨(some 11), .mv (.t 5), none⟩, ⟨(some 12), .mv (.t 1), none⟩, ⟨(some 13), .call 11 [(.t 12)], none⟩, ⟨(some 14), .call 22 [(.t 11), (.t 13)], none⟩, ⟨(some 15), .call 21 [(.t 14)], none⟩, ⟨(some 4), .mv (.t 15), none⟩]) .ret))), [.t 4]⟩
theorem za8 : cN Tryz.prog 8 = some c8 := by kernel_rfl
-- lightwell/fix.Floor
def c21 : AFn := ⟨5, (.seq (.reg [⟨(some 2), .mv (.c (.int .i64 (.ofNat 0))), none⟩]) (.seq (.reg [⟨(some 3), .mv (.t 0), none⟩, ⟨(some 4), .bin .shr (.t 3) (.c (.int .u64 (.ofNat 32))), none⟩, ⟨(some 2), .mv (.t 4), none⟩]) .ret)), [.t 2]⟩
theorem za21 : cN Tryz.prog 21 = some c21 := by kernel_rfl
-- lightwell/fix.Of
def c11 : AFn := ⟨11, (.seq (.reg [⟨(some 2), .mv (.c (.int .i64 (.ofNat 0))), none⟩]) (.seq (.block 0 (.seq (.reg [⟨(some 4), .mv (.t 0), none⟩, ⟨(some 5), .bin .gtr (.t 4) (.c (.int .i64 (.ofNat 2147483647))), none⟩, ⟨(some 3), .mv (.t 5), none⟩]) (.cond (.t 3) (.seq (.reg [⟨(some 2), .mv (.c (.int .i64 (.ofNat 9223372036854775807))), none⟩]) .ret) (.seq (.reg [⟨(some 7), .mv (.t 0), none⟩, ⟨(some 8), .bin .lss (.t 7) (.c (.int .i64 (.negSucc 2147483647))), none⟩, ⟨(some 6), .mv (.t 8), none⟩]) (.cond (.t 6) (.seq (.reg [⟨(some 2), .mv (.c (.int .i64 (.negSucc 9223372036854775807))), none⟩]) .ret) .skip))))) (.seq (.reg [⟨(some 9), .mv (.t 0), none⟩, ⟨(some 10), .bin .shl (.t 9) (.c (.int .u64 (.ofNat 32))), none⟩, ⟨(some 2), .mv (.t 10), none⟩]) .ret))), [.t 2]⟩
theorem za11 : cN Tryz.prog 11 = some c11 := by kernel_rfl
-- lightwell/fix.Sub
def c20 : AFn := ⟨26, (.seq (.reg [⟨(some 4), .mv (.c (.int .i64 (.ofNat 0))), none⟩]) (.seq (.block 0 (.seq (.reg [⟨(some 6), .mv (.t 1), none⟩, ⟨(some 7), .bin .lss (.t 6) (.c (.int .i64 (.ofNat 0))), none⟩, ⟨(some 8), .mv (.t 7), none⟩, ⟨(some 9), .mv (.t 0), (some (8, true))⟩, ⟨(some 10), .mv (.t 1), (some (8, true))⟩, ⟨(some 11), .bin .add (.c (.int .i64 (.ofNat 9223372036854775807))) (.t 10), (some (8, true))⟩, ⟨(some 12), .bin .gtr (.t 9) (.t 11), (some (8, true))⟩, ⟨(some 13), .pick (.t 8) (.t 12) (.c (.bool false)), none⟩, ⟨(some 5), .mv (.t 13), none⟩]) (.cond (.t 5) (.seq (.reg [⟨(some 4), .mv (.c (.int .i64 (.ofNat 9223372036854775807))), none⟩]) .ret) (.seq (.reg [⟨(some 15), .mv (.t 1), none⟩, ⟨(some 16), .bin .gtr (.t 15) (.c (.int .i64 (.ofNat 0))), none⟩, ⟨(some 17), .mv (.t 16), none⟩, ⟨(some 18), .mv (.t 0), (some (17, true))⟩, ⟨(some 19), .mv (.t 1), (some (17, true))⟩, ⟨(some 20), .bin .add (.c (.int .i64 (.negSucc 9223372036854775807))) (.t 19), (some (17, true))⟩, ⟨(some 21), .bin .lss (.t 18) (.t 20), (some (17, true))⟩, ⟨(some 22), .pick (.t 17) (.t 21) (.c (.bool false)), none⟩, ⟨(some 14), .mv (.t 22), none⟩]) (.cond (.t 14) (.seq (.reg [⟨(some 4), .mv (.c (.int .i64 (.negSucc 9223372036854775807))), none⟩]) .ret) .skip))))) (.seq (.reg [⟨(some 23), .mv (.t 0), none⟩, ⟨(some 24), .mv (.t 1), none⟩, ⟨(some 25), .bin .sub (.t 23) (.t 24), none⟩, ⟨(some 4), .mv (.t 25), none⟩]) .ret))), [.t 4]⟩
theorem za20 : cN Tryz.prog 20 = some c20 := by kernel_rfl
-- lightwell/fix.Mul
def c22 : AFn := ⟨31, (.seq (.reg [⟨(some 4), .mv (.c (.int .i64 (.ofNat 0))), none⟩]) (.seq (.reg [⟨(some 8), .mv (.t 0), none⟩, ⟨(some 9), .mv (.t 1), none⟩, ⟨(some 10), .call 23 [(.t 8), (.t 9)], none⟩, ⟨(some 5), .mv (.t 10), none⟩]) (.seq (.reg [⟨(some 12), .mv (.t 0), none⟩, ⟨(some 13), .call 24 [(.t 12)], none⟩, ⟨(some 14), .mv (.t 1), none⟩, ⟨(some 15), .call 24 [(.t 14)], none⟩, ⟨(some 16), .call 40 [(.t 13), (.t 15)], none⟩, ⟨(some 11), .mv (.t 16), none⟩, ⟨(some 17), .extract 0 (.t 11), none⟩, ⟨(some 18), .extract 1 (.t 11), none⟩, ⟨(some 6), .mv (.t 17), none⟩, ⟨(some 7), .mv (.t 18), none⟩]) (.seq (.reg [⟨(some 19), .mv (.t 5), none⟩, ⟨(some 20), .mv (.t 6), none⟩, ⟨(some 21), .bin .shr (.t 20) (.c (.int .u64 (.ofNat 32))), none⟩, ⟨(some 22), .mv (.t 6), none⟩, ⟨(some 23), .bin .shl (.t 22) (.c (.int .u64 (.ofNat 32))), none⟩, ⟨(some 24), .mv (.t 7), none⟩, ⟨(some 25), .bin .shr (.t 24) (.c (.int .u64 (.ofNat 32))), none⟩, ⟨(some 26), .bin .or (.t 23) (.t 25), none⟩, ⟨(some 27), .mv (.t 7), none⟩, ⟨(some 28), .bin .shl (.t 27) (.c (.int .u64 (.ofNat 32))), none⟩, ⟨(some 29), .bin .neq (.t 28) (.c (.int .u64 (.ofNat 0))), none⟩, ⟨(some 30), .callv (.t 19) [(.t 21), (.t 26), (.t 29)], none⟩, ⟨(some 4), .mv (.t 30), none⟩]) .ret)))), [.t 4]⟩
theorem za22 : cN Tryz.prog 22 = some c22 := by kernel_rfl
-- lightwell/fix.signs
def c23 : AFn := ⟨10, (.seq (.reg [⟨(some 4), .mv (.c .nilFunc), none⟩]) (.seq (.seq (.reg [⟨(some 5), .mv (.t 0), none⟩, ⟨(some 6), .bin .lss (.t 5) (.c (.int .i64 (.ofNat 0))), none⟩, ⟨(some 7), .mv (.t 1), none⟩, ⟨(some 8), .bin .lss (.t 7) (.c (.int .i64 (.ofNat 0))), none⟩, ⟨(some 9), .pf (.eqv false .bool) [(.t 6), (.t 8)], none⟩]) (.cond (.t 9) (.seq (.reg [⟨(some 4), .mv (.f 41), none⟩]) .ret) .skip)) (.seq (.reg [⟨(some 4), .mv (.f 42), none⟩]) .ret))), [.t 4]⟩
theorem za23 : cN Tryz.prog 23 = some c23 := by kernel_rfl
-- lightwell/fix.signs$1
def c41 : AFn := ⟨15, (.seq (.reg [⟨(some 6), .mv (.c (.int .i64 (.ofNat 0))), none⟩]) (.seq (.seq (.reg [⟨(some 7), .mv (.t 0), none⟩, ⟨(some 8), .bin .neq (.t 7) (.c (.int .u64 (.ofNat 0))), none⟩, ⟨(some 9), .mv (.t 8), none⟩, ⟨(some 10), .mv (.t 1), (some (9, false))⟩, ⟨(some 11), .bin .gtr (.t 10) (.c (.int .u64 (.ofNat 9223372036854775807))), (some (9, false))⟩, ⟨(some 12), .pick (.t 9) (.c (.bool true)) (.t 11), none⟩]) (.cond (.t 12) (.seq (.reg [⟨(some 6), .mv (.c (.int .i64 (.ofNat 9223372036854775807))), none⟩]) .ret) .skip)) (.seq (.reg [⟨(some 13), .mv (.t 1), none⟩, ⟨(some 14), .conv .i64 (.t 13), none⟩, ⟨(some 6), .mv (.t 14), none⟩]) .ret))), [.t 6]⟩
theorem za41 : cN Tryz.prog 41 = some c41 := by kernel_rfl
-- lightwell/fix.size
def c24 : AFn := ⟨10, (.seq (.reg [⟨(some 2), .mv (.c (.int .u64 (.ofNat 0))), none⟩]) (.seq (.seq (.reg [⟨(some 3), .mv (.t 0), none⟩, ⟨(some 4), .bin .lss (.t 3) (.c (.int .i64 (.ofNat 0))), none⟩]) (.cond (.t 4) (.seq (.reg [⟨(some 5), .mv (.t 0), none⟩, ⟨(some 6), .conv .u64 (.t 5), none⟩, ⟨(some 7), .un .neg (.t 6), none⟩, ⟨(some 2), .mv (.t 7), none⟩]) .ret) .skip)) (.seq (.reg [⟨(some 8), .mv (.t 0), none⟩, ⟨(some 9), .conv .u64 (.t 8), none⟩, ⟨(some 2), .mv (.t 9), none⟩]) .ret))), [.t 2]⟩
theorem za24 : cN Tryz.prog 24 = some c24 := by kernel_rfl
-- math/bits.Mul64
def c40 : AFn := ⟨51, (.seq (.reg [⟨(some 4), .mv (.c (.int .u64 (.ofNat 0))), none⟩, ⟨(some 5), .mv (.c (.int .u64 (.ofNat 0))), none⟩]) (.seq (.reg [⟨(some 14), .mv (.t 0), none⟩, ⟨(some 15), .bin .and (.t 14) (.c (.int .u64 (.ofNat 4294967295))), none⟩, ⟨(some 6), .mv (.t 15), none⟩]) (.seq (.reg [⟨(some 16), .mv (.t 0), none⟩, ⟨(some 17), .bin .shr (.t 16) (.c (.int .u64 (.ofNat 32))), none⟩, ⟨(some 7), .mv (.t 17), none⟩]) (.seq (.reg [⟨(some 18), .mv (.t 1), none⟩, ⟨(some 19), .bin .and (.t 18) (.c (.int .u64 (.ofNat 4294967295))), none⟩, ⟨(some 8), .mv (.t 19), none⟩]) (.seq (.reg [⟨(some 20), .mv (.t 1), none⟩, ⟨(some 21), .bin .shr (.t 20) (.c (.int .u64 (.ofNat 32))), none⟩, ⟨(some 9), .mv (.t 21), none⟩]) (.seq (.reg [⟨(some 22), .mv (.t 6), none⟩, ⟨(some 23), .mv (.t 8), none⟩, ⟨(some 24), .bin .mul (.t 22) (.t 23), none⟩, ⟨(some 10), .mv (.t 24), none⟩]) (.seq (.reg [⟨(some 25), .mv (.t 7), none⟩, ⟨(some 26), .mv (.t 8), none⟩, ⟨(some 27), .bin .mul (.t 25) (.t 26), none⟩, ⟨(some 28), .mv (.t 10), none⟩, ⟨(some 29), .bin .shr (.t 28) (.c (.int .u64 (.ofNat 32))), none⟩, ⟨(some 30), .bin .add (.t 27) (.t 29), none⟩, ⟨(some 11), .mv (.t 30), none⟩]) (.seq (.reg [⟨(some 31), .mv (.t 11), none⟩, ⟨(some 32), .bin .and (.t 31) (.c (.int .u64 (.ofNat 4294967295))), none⟩, ⟨(some 12), .mv (.t 32), none⟩]) (.seq (.reg [⟨(some 33), .mv (.t 11), none⟩, ⟨(some 34), .bin .shr (.t 33) (.c (.int .u64 (.ofNat 32))), none⟩, ⟨(some 13), .mv (.t 34), none⟩]) (.seq (.reg [⟨(some 35), .mv (.t 12), none⟩, ⟨(some 36), .mv (.t 6), none⟩, ⟨(some 37), .mv (.t 9), none⟩, ⟨(some 38), .bin .mul (.t 36) (.t 37), none⟩, ⟨(some 39), .bin .add (.t 35) (.t 38), none⟩, ⟨(some 12), .mv (.t 39), none⟩]) (.seq (.reg [⟨(some 40), .mv (.t 7), none⟩, ⟨(some 41), .mv (.t 9), none⟩, ⟨(some 42), .bin .mul (.t 40) (.t 41), none⟩, ⟨(some 43), .mv (.t 13), none⟩, ⟨(some 44), .bin .add (.t 42) (.t 43), none⟩, ⟨(some 45), .mv (.t 12), none⟩, ⟨(some 46), .bin .shr (.t 45) (.c (.int .u64 (.ofNat 32))), none⟩, ⟨(some 47), .bin .add (.t 44) (.t 46), none⟩, ⟨(some 4), .mv (.t 47), none⟩]) (.seq (.reg [⟨(some 48), .mv (.t 0), none⟩, ⟨(some 49), .mv (.t 1), none⟩, ⟨(some 50), .bin .mul (.t 48) (.t 49), none⟩, ⟨(some 5), .mv (.t 50), none⟩]) .ret)))))))))))), [.t 4, .t 5]⟩
theorem za40 : cN Tryz.prog 40 = some c40 := by kernel_rfl
-- lightwell/texture.Sample$1
def c9 : AFn := ⟨16, (.seq (.reg [⟨(some 4), .mv (.c (.int .i64 (.ofNat 0))), none⟩]) (.seq (.reg [⟨(some 5), .fieldA 2 (.t 1), none⟩, ⟨(some 6), .load false 1 (.t 5), none⟩, ⟨(some 7), .load false 1 (.t 2), none⟩, ⟨(some 8), .mv (.t 0), none⟩, ⟨(some 9), .bin .add (.t 7) (.t 8), none⟩, ⟨(some 10), .idxA 1 (.t 6) (.t 9), none⟩, ⟨(some 11), .load false 1 (.t 10), none⟩, ⟨(some 12), .conv .i64 (.t 11), none⟩, ⟨(some 13), .call 11 [(.t 12)], none⟩, ⟨(some 14), .call 11 [(.c (.int .i64 (.ofNat 255)))], none⟩, ⟨(some 15), .call 10 [(.t 13), (.t 14)], none⟩, ⟨(some 4), .mv (.t 15), none⟩]) .ret)), [.t 4]⟩
theorem za9 : cN Tryz.prog 9 = some c9 := by kernel_rfl
-- lightwell/fix.Div
def c10 : AFn := ⟨46, (.seq (.reg [⟨(some 4), .mv (.c (.int .i64 (.ofNat 0))), none⟩]) (.seq (.seq (.reg [⟨(some 11), .mv (.t 1), none⟩, ⟨(some 12), .bin .eql (.t 11) (.c (.int .i64 (.ofNat 0))), none⟩]) (.cond (.t 12) (.seq (.block 0 (.seq (.reg [⟨(some 14), .mv (.t 0), none⟩, ⟨(some 15), .bin .gtr (.t 14) (.c (.int .i64 (.ofNat 0))), none⟩, ⟨(some 13), .mv (.t 15), none⟩]) (.cond (.t 13) (.seq (.reg [⟨(some 4), .mv (.c (.int .i64 (.ofNat 9223372036854775807))), none⟩]) .ret) (.seq (.reg [⟨(some 17), .mv (.t 0), none⟩, ⟨(some 18), .bin .lss (.t 17) (.c (.int .i64 (.ofNat 0))), none⟩, ⟨(some 16), .mv (.t 18), none⟩]) (.cond (.t 16) (.seq (.reg [⟨(some 4), .mv (.c (.int .i64 (.negSucc 9223372036854775807))), none⟩]) .ret) .skip))))) (.seq (.reg [⟨(some 4), .mv (.c (.int .i64 (.ofNat 0))), none⟩]) .ret)) .skip)) (.seq (.reg [⟨(some 19), .mv (.t 0), none⟩, ⟨(some 20), .mv (.t 1), none⟩, ⟨(some 21), .call 23 [(.t 19), (.t 20)], none⟩, ⟨(some 5), .mv (.t 21), none⟩]) (.seq (.reg [⟨(some 22), .mv (.t 0), none⟩, ⟨(some 23), .call 24 [(.t 22)], none⟩, ⟨(some 24), .mv (.t 1), none⟩, ⟨(some 25), .call 24 [(.t 24)], none⟩, ⟨(some 6), .mv (.t 23), none⟩, ⟨(some 7), .mv (.t 25), none⟩]) (.seq (.reg [⟨(some 26), .mv (.t 6), none⟩, ⟨(some 27), .bin .shr (.t 26) (.c (.int .u64 (.ofNat 32))), none⟩, ⟨(some 8), .mv (.t 27), none⟩]) (.seq (.reg [⟨(some 29), .mv (.t 8), none⟩, ⟨(some 30), .mv (.t 7), none⟩, ⟨(some 31), .bin .rem (.t 29) (.t 30), none⟩, ⟨(some 32), .mv (.t 6), none⟩, ⟨(some 33), .bin .shl (.t 32) (.c (.int .u64 (.ofNat 32))), none⟩, ⟨(some 34), .mv (.t 7), none⟩, ⟨(some 35), .call 25 [(.t 31), (.t 33), (.t 34)], none⟩, ⟨(some 28), .mv (.t 35), none⟩, ⟨(some 36), .extract 0 (.t 28), none⟩, ⟨(some 37), .extract 1 (.t 28), none⟩, ⟨(some 9), .mv (.t 36), none⟩, ⟨(some 10), .mv (.t 37), none⟩]) (.seq (.reg [⟨(some 38), .mv (.t 5), none⟩, ⟨(some 39), .mv (.t 8), none⟩, ⟨(some 40), .mv (.t 7), none⟩, ⟨(some 41), .bin .quo (.t 39) (.t 40), none⟩, ⟨(some 42), .mv (.t 9), none⟩, ⟨(some 43), .mv (.t 10), none⟩, ⟨(some 44), .bin .neq (.t 43) (.c (.int .u64 (.ofNat 0))), none⟩, ⟨(some 45), .callv (.t 38) [(.t 41), (.t 42), (.t 44)], none⟩, ⟨(some 4), .mv (.t 45), none⟩]) .ret))))))), [.t 4]⟩
theorem za10 : cN Tryz.prog 10 = some c10 := by kernel_rfl
-- math/bits.Div64
def c25 : AFn := ⟨135, (.seq (.reg [⟨(some 6), .mv (.c (.int .u64 (.ofNat 0))), none⟩, ⟨(some 7), .mv (.c (.int .u64 (.ofNat 0))), none⟩]) (.seq (.seq (.reg [⟨(some 19), .mv (.t 2), none⟩, ⟨(some 20), .bin .eql (.t 19) (.c (.int .u64 (.ofNat 0))), none⟩]) (.cond (.t 20) (.reg [⟨(some 21), .hf (.gLd 0 false 1) [], none⟩, ⟨none, .bad, none⟩]) .skip)) (.seq (.seq (.reg [⟨(some 22), .mv (.t 2), none⟩, ⟨(some 23), .mv (.t 0), none⟩, ⟨(some 24), .bin .leq (.t 22) (.t 23), none⟩]) (.cond (.t 24) (.reg [⟨(some 25), .hf (.gLd 1 false 1) [], none⟩, ⟨none, .bad, none⟩]) .skip)) (.seq (.seq (.reg [⟨(some 26), .mv (.t 0), none⟩, ⟨(some 27), .bin .eql (.t 26) (.c (.int .u64 (.ofNat 0))), none⟩]) (.cond (.t 27) (.seq (.reg [⟨(some 28), .mv (.t 1), none⟩, ⟨(some 29), .mv (.t 2), none⟩, ⟨(some 30), .bin .quo (.t 28) (.t 29), none⟩, ⟨(some 31), .mv (.t 1), none⟩, ⟨(some 32), .mv (.t 2), none⟩, ⟨(some 33), .bin .rem (.t 31) (.t 32), none⟩, ⟨(some 6), .mv (.t 30), none⟩, ⟨(some 7), .mv (.t 33), none⟩]) .ret) .skip)) (.seq (.reg [⟨(some 34), .mv (.t 2), none⟩, ⟨(some 35), .call 43 [(.t 34)], none⟩, ⟨(some 36), .conv .u64 (.t 35), none⟩, ⟨(some 8), .mv (.t 36), none⟩]) (.seq (.reg [⟨(some 37), .mv (.t 2), none⟩, ⟨(some 38), .mv (.t 8), none⟩, ⟨(some 39), .bin .shl (.t 37) (.t 38), none⟩, ⟨(some 2), .mv (.t 39), none⟩]) (.seq (.reg [⟨(some 40), .mv (.t 2), none⟩, ⟨(some 41), .bin .shr (.t 40) (.c (.int .u64 (.ofNat 32))), none⟩, ⟨(some 9), .mv (.t 41), none⟩]) (.seq (.reg [⟨(some 42), .mv (.t 2), none⟩, ⟨(some 43), .bin .and (.t 42) (.c (.int .u64 (.ofNat 4294967295))), none⟩, ⟨(some 10), .mv (.t 43), none⟩]) (.seq (.reg [⟨(some 44), .mv (.t 0), none⟩, ⟨(some 45), .mv (.t 8), none⟩, ⟨(some 46), .bin .shl (.t 44) (.t 45), none⟩, ⟨(some 47), .mv (.t 1), none⟩, ⟨(some 48), .mv (.t 8), none⟩, ⟨(some 49), .bin .sub (.c (.int .u64 (.ofNat 64))) (.t 48), none⟩, ⟨(some 50), .bin .shr (.t 47) (.t 49), none⟩, ⟨(some 51), .bin .or (.t 46) (.t 50), none⟩, ⟨(some 11), .mv (.t 51), none⟩]) (.seq (.reg [⟨(some 52), .mv (.t 1), none⟩, ⟨(some 53), .mv (.t 8), none⟩, ⟨(some 54), .bin .shl (.t 52) (.t 53), none⟩, ⟨(some 12), .mv (.t 54), none⟩]) (.seq (.reg [⟨(some 55), .mv (.t 12), none⟩, ⟨(some 56), .bin .shr (.t 55) (.c (.int .u64 (.ofNat 32))), none⟩, ⟨(some 13), .mv (.t 56), none⟩]) (.seq (.reg [⟨(some 57), .mv (.t 12), none⟩, ⟨(some 58), .bin .and (.t 57) (.c (.int .u64 (.ofNat 4294967295))), none⟩, ⟨(some 14), .mv (.t 58), none⟩]) (.seq (.reg [⟨(some 59), .mv (.t 11), none⟩, ⟨(some 60), .mv (.t 9), none⟩, ⟨(some 61), .bin .quo (.t 59) (.t 60), none⟩, ⟨(some 15), .mv (.t 61), none⟩]) (.seq (.reg [⟨(some 62), .mv (.t 11), none⟩, ⟨(some 63), .mv (.t 15), none⟩, ⟨(some 64), .mv (.t 9), none⟩, ⟨(some 65), .bin .mul (.t 63) (.t 64), none⟩, ⟨(some 66), .bin .sub (.t 62) (.t 65), none⟩, ⟨(some 16), .mv (.t 66), none⟩]) (.seq (.block 0 (.loop (.seq (.seq (.reg [⟨(some 67), .mv (.t 15), none⟩, ⟨(some 68), .bin .geq (.t 67) (.c (.int .u64 (.ofNat 4294967296))), none⟩, ⟨(some 69), .mv (.t 68), none⟩, ⟨(some 70), .mv (.t 15), (some (69, false))⟩, ⟨(some 71), .mv (.t 10), (some (69, false))⟩, ⟨(some 72), .bin .mul (.t 70) (.t 71), (some (69, false))⟩, ⟨(some 73), .mv (.t 16), (some (69, false))⟩, ⟨(some 74), .bin .mul (.c (.int .u64 (.ofNat 4294967296))) (.t 73), (some (69, false))⟩, ⟨(some 75), .mv (.t 13), (some (69, false))⟩, ⟨(some 76), .bin .add (.t 74) (.t 75), (some (69, false))⟩, ⟨(some 77), .bin .gtr (.t 72) (.t 76), (some (69, false))⟩, ⟨(some 78), .pick (.t 69) (.c (.bool true)) (.t 77), none⟩]) (.cond (.t 78) .skip (.exit 0))) (.block 1 (.seq (.reg [⟨(some 79), .mv (.t 15), none⟩, ⟨(some 80), .bin .sub (.t 79) (.c (.int .u64 (.ofNat 1))), none⟩, ⟨(some 15), .mv (.t 80), none⟩]) (.seq (.reg [⟨(some 81), .mv (.t 16), none⟩, ⟨(some 82), .mv (.t 9), none⟩, ⟨(some 83), .bin .add (.t 81) (.t 82), none⟩, ⟨(some 16), .mv (.t 83), none⟩]) (.seq (.reg [⟨(some 84), .mv (.t 16), none⟩, ⟨(some 85), .bin .geq (.t 84) (.c (.int .u64 (.ofNat 4294967296))), none⟩]) (.cond (.t 85) (.exit 0) .skip)))))))) (.seq (.reg [⟨(some 86), .mv (.t 11), none⟩, ⟨(some 87), .bin .mul (.t 86) (.c (.int .u64 (.ofNat 4294967296))), none⟩, ⟨(some 88), .mv (.t 13), none⟩, ⟨(some 89), .bin .add (.t 87) (.t 88), none⟩, ⟨(some 90), .mv (.t 15), none⟩, ⟨(some 91), .mv (.t 2), none⟩, ⟨(some 92), .bin .mul (.t 90) (.t 91), none⟩, ⟨(some 93), .bin .sub (.t 89) (.t 92), none⟩, ⟨(some 17), .mv (.t 93), none⟩]) (.seq (.reg [⟨(some 94), .mv (.t 17), none⟩, ⟨(some 95), .mv (.t 9), none⟩, ⟨(some 96), .bin .quo (.t 94) (.t 95), none⟩, ⟨(some 18), .mv (.t 96), none⟩]) (.seq (.reg [⟨(some 97), .mv (.t 17), none⟩, ⟨(some 98), .mv (.t 18), none⟩, ⟨(some 99), .mv (.t 9), none⟩, ⟨(some 100), .bin .mul (.t 98) (.t 99), none⟩, ⟨(some 101), .bin .sub (.t 97) (.t 100), none⟩, ⟨(some 16), .mv (.t 101), none⟩]) (.seq (.block 2 (.loop (.seq (.seq (.reg [⟨(some 102), .mv (.t 18), none⟩, ⟨(some 103), .bin .geq (.t 102) (.c (.int .u64 (.ofNat 4294967296))), none⟩, ⟨(some 104), .mv (.t 103), none⟩, ⟨(some 105), .mv (.t 18), (some (104, false))⟩, ⟨(some 106), .mv (.t 10), (some (104, false))⟩, ⟨(some 107), .bin .mul (.t 105) (.t 106), (some (104, false))⟩, ⟨(some 108), .mv (.t 16), (some (104, false))⟩, ⟨(some 109), .bin .mul (.c (.int .u64 (.ofNat 4294967296))) (.t 108), (some (104, false))⟩, ⟨(some 110), .mv (.t 14), (some (104, false))⟩, ⟨(some 111), .bin .add (.t 109) (.t 110), (some (104, false))⟩, ⟨(some 112), .bin .gtr (.t 107) (.t 111), (some (104, false))⟩, ⟨(some 113), .pick (.t 104) (.c (.bool true)) (.t 112), none⟩]) (.cond (.t 113) .skip (.exit 2))) (.block 3 (.seq (.reg [⟨(some 114), .mv (.t 18), none⟩, ⟨(some 115), .bin .sub (.t 114) (.c (.int .u64 (.ofNat 1))), none⟩, ⟨(some 18), .mv (.t 115), none⟩]) (.seq (.reg [⟨(some 116), .mv (.t 16), none⟩, ⟨(some 117), .mv (.t 9), none⟩, ⟨(some 118), .bin .add (.t 116) (.t 117), none⟩, ⟨(some 16), .mv (.t 118), none⟩]) (.seq (.reg [⟨(some 119), .mv (.t 16), none⟩, ⟨(some 120), .bin .geq (.t 119) (.c (.int .u64 (.ofNat 4294967296))), none⟩]) (.cond (.t 120) (.exit 2) .skip)))))))) (.seq (.reg [⟨(some 121), .mv (.t 15), none⟩, ⟨(some 122), .bin .mul (.t 121) (.c (.int .u64 (.ofNat 4294967296))), none⟩, ⟨(some 123), .mv (.t 18), none⟩, ⟨(some 124), .bin .add (.t 122) (.t 123), none⟩, ⟨(some 125), .mv (.t 17), none⟩, ⟨(some 126), .bin .mul (.t 125) (.c (.int .u64 (.ofNat 4294967296))), none⟩, ⟨(some 127), .mv (.t 14), none⟩, ⟨(some 128), .bin .add (.t 126) (.t 127), none⟩, ⟨(some 129), .mv (.t 18), none⟩, ⟨(some 130), .mv (.t 2), none⟩, ⟨(some 131), .bin .mul (.t 129) (.t 130), none⟩, ⟨(some 132), .bin .sub (.t 128) (.t 131), none⟩, ⟨(some 133), .mv (.t 8), none⟩, ⟨(some 134), .bin .shr (.t 132) (.t 133), none⟩, ⟨(some 6), .mv (.t 124), none⟩, ⟨(some 7), .mv (.t 134), none⟩]) .ret)))))))))))))))))))), [.t 6, .t 7]⟩
theorem za25 : cN Tryz.prog 25 = some c25 := by kernel_rfl
-- math/bits.LeadingZeros64
def c43 : AFn := ⟨6, (.seq (.reg [⟨(some 2), .mv (.c (.int .i64 (.ofNat 0))), none⟩]) (.seq (.reg [⟨(some 3), .mv (.t 0), none⟩, ⟨(some 4), .call 60 [(.t 3)], none⟩, ⟨(some 5), .bin .sub (.c (.int .i64 (.ofNat 64))) (.t 4), none⟩, ⟨(some 2), .mv (.t 5), none⟩]) .ret)), [.t 2]⟩
theorem za43 : cN Tryz.prog 43 = some c43 := by kernel_rfl
-- math/bits.Len64
def c60 : AFn := ⟨25, (.seq (.reg [⟨(some 2), .mv (.c (.int .i64 (.ofNat 0))), none⟩]) (.seq (.seq (.reg [⟨(some 3), .mv (.t 0), none⟩, ⟨(some 4), .bin .geq (.t 3) (.c (.int .u64 (.ofNat 4294967296))), none⟩]) (.cond (.t 4) (.seq (.reg [⟨(some 5), .mv (.t 0), none⟩, ⟨(some 6), .bin .shr (.t 5) (.c (.int .u64 (.ofNat 32))), none⟩, ⟨(some 0), .mv (.t 6), none⟩]) (.reg [⟨(some 2), .mv (.c (.int .i64 (.ofNat 32))), none⟩])) .skip)) (.seq (.seq (.reg [⟨(some 7), .mv (.t 0), none⟩, ⟨(some 8), .bin .geq (.t 7) (.c (.int .u64 (.ofNat 65536))), none⟩]) (.cond (.t 8) (.seq (.reg [⟨(some 9), .mv (.t 0), none⟩, ⟨(some 10), .bin .shr (.t 9) (.c (.int .u64 (.ofNat 16))), none⟩, ⟨(some 0), .mv (.t 10), none⟩]) (.reg [⟨(some 11), .mv (.t 2), none⟩, ⟨(some 12), .bin .add (.t 11) (.c (.int .i64 (.ofNat 16))), none⟩, ⟨(some 2), .mv (.t 12), none⟩])) .skip)) (.seq (.seq (.reg [⟨(some 13), .mv (.t 0), none⟩, ⟨(some 14), .bin .geq (.t 13) (.c (.int .u64 (.ofNat 256))), none⟩]) (.cond (.t 14) (.seq (.reg [⟨(some 15), .mv (.t 0), none⟩, ⟨(some 16), .bin .shr (.t 15) (.c (.int .u64 (.ofNat 8))), none⟩, ⟨(some 0), .mv (.t 16), none⟩]) (.reg [⟨(some 17), .mv (.t 2), none⟩, ⟨(some 18), .bin .add (.t 17) (.c (.int .i64 (.ofNat 8))), none⟩, ⟨(some 2), .mv (.t 18), none⟩])) .skip)) (.seq (.reg [⟨(some 19), .mv (.t 2), none⟩, ⟨(some 20), .mv (.t 0), none⟩, ⟨(some 21), .conv .u8 (.t 20), none⟩, ⟨(some 22), .idxS (.c (.str [0, 1, 2, 2, 3, 3, 3, 3, 4, 4, 4, 4, 4, 4, 4, 4, 5, 5, 5, 5, 5, 5, 5, 5, 5, 5, 5, 5, 5, 5, 5, 5, 6, 6, 6, 6, 6, 6, 6, 6, 6, 6, 6, 6, 6, 6, 6, 6, 6, 6, 6, 6, 6, 6, 6, 6, 6, 6, 6, 6, 6, 6, 6, 6, 7, 7, 7, 7, 7, 7, 7, 7, 7, 7, 7, 7, 7, 7, 7, 7, 7, 7, 7, 7, 7, 7, 7, 7, 7, 7, 7, 7, 7, 7, 7, 7, 7, 7, 7, 7, 7, 7, 7, 7, 7, 7, 7, 7, 7, 7, 7, 7, 7, 7, 7, 7, 7, 7, 7, 7, 7, 7, 7, 7, 7, 7, 7, 7, 8, 8, 8, 8, 8, 8, 8, 8, 8, 8, 8, 8, 8, 8, 8, 8, 8, 8, 8, 8, 8, 8, 8, 8, 8, 8, 8, 8, 8, 8, 8, 8, 8, 8, 8, 8, 8, 8, 8, 8, 8, 8, 8, 8, 8, 8, 8, 8, 8, 8, 8, 8, 8, 8, 8, 8, 8, 8, 8, 8, 8, 8, 8, 8, 8, 8, 8, 8, 8, 8, 8, 8, 8, 8, 8, 8, 8, 8, 8, 8, 8, 8, 8, 8, 8, 8, 8, 8, 8, 8, 8, 8, 8, 8, 8, 8, 8, 8, 8, 8, 8, 8, 8, 8, 8, 8, 8, 8, 8, 8, 8, 8, 8, 8, 8, 8, 8, 8, 8, 8, 8, 8, 8, 8, 8, 8, 8, 8])) (.t 21), none⟩, ⟨(some 23), .conv .i64 (.t 22), none⟩, ⟨(some 24), .bin .add (.t 19) (.t 23), none⟩, ⟨(some 2), .mv (.t 24), none⟩]) .ret))))), [.t 2]⟩
theorem za60 : cN Tryz.prog 60 = some c60 := by kernel_rfl
-- lightwell/lightwellref10.Sample
def c5 : AFn := ⟨51, (.seq (.reg [⟨(some 3), .box (.t 0), none⟩, ⟨(some 6), .new [(.int .i64 (.ofNat 0)), (.int .i64 (.ofNat 0)), (.int .i64 (.ofNat 0))], none⟩]) (.seq (.seq (.reg [⟨(some 10), .load true 3 (.t 3), none⟩, ⟨(some 11), .call 12 [(.t 10)], none⟩, ⟨(some 12), .un .not (.t 11), none⟩]) (.cond (.t 12) (.seq (.reg [⟨(some 13), .build [(.int .i64 (.ofNat 0)), (.int .i64 (.ofNat 0)), (.int .i64 (.ofNat 0))] [], none⟩, ⟨none, .store 3 (.t 6) (.t 13), none⟩]) .ret) .skip)) (.seq (.draw [⟨(some 14), .mv (.t 2), none⟩, ⟨(some 15), .fieldA 1 (.t 3), none⟩, ⟨(some 16), .load false 1 (.t 15), none⟩, ⟨(some 17), .call 13 [(.t 14), (.t 16)], none⟩, ⟨(some 18), .fieldA 0 (.t 3), none⟩, ⟨(some 19), .load false 1 (.t 18), none⟩, ⟨(some 20), .bin .mul (.t 17) (.t 19), none⟩, ⟨(some 21), .mv (.t 1), none⟩, ⟨(some 22), .fieldA 0 (.t 3), none⟩, ⟨(some 23), .load false 1 (.t 22), none⟩, ⟨(some 24), .call 13 [(.t 21), (.t 23)], none⟩, ⟨(some 25), .bin .add (.t 20) (.t 24), none⟩, ⟨(some 26), .bin .mul (.c (.int .i64 (.ofNat 4))) (.t 25), none⟩, ⟨(some 7), .mv (.t 26), none⟩] [[], [], [], [], [], [3, 14], [], [], [], [3], [], [], [], []]) (.seq (.reg [⟨(some 8), .new [(.int .i64 (.ofNat 0)), (.int .i64 (.ofNat 0)), (.int .i64 (.ofNat 0))], none⟩]) (.seq (.seq (.reg [⟨(some 9), .mv (.c (.int .i64 (.ofNat 0))), none⟩]) (.block 0 (.loop (.seq (.seq (.reg [⟨(some 27), .mv (.t 9), none⟩, ⟨(some 28), .bin .lss (.t 27) (.c (.int .i64 (.ofNat 3))), none⟩]) (.cond (.t 28) .skip (.exit 0))) (.seq (.block 1 (.reg [⟨(some 31), .mv (.t 9), none⟩, ⟨(some 32), .fieldA 2 (.t 3), none⟩, ⟨(some 33), .load false 1 (.t 32), none⟩, ⟨(some 34), .mv (.t 7), none⟩, ⟨(some 35), .mv (.t 9), none⟩, ⟨(some 36), .bin .add (.t 34) (.t 35), none⟩, ⟨(some 37), .idxA 1 (.t 33) (.t 36), none⟩, ⟨(some 38), .load false 1 (.t 37), none⟩, ⟨(some 39), .conv .i64 (.t 38), none⟩, ⟨(some 40), .call 15 [(.t 39)], none⟩, ⟨(some 41), .call 15 [(.c (.int .i64 (.ofNat 255)))], none⟩, ⟨(some 42), .call 14 [(.t 40), (.t 41)], none⟩, ⟨(some 43), .idxArr 3 1 (.t 8) (.t 31), none⟩, ⟨none, .store 1 (.t 43) (.t 42), none⟩])) (.reg [⟨(some 29), .mv (.t 9), none⟩, ⟨(some 30), .bin .add (.t 29) (.c (.int .i64 (.ofNat 1))), none⟩, ⟨(some 9), .mv (.t 30), none⟩])))))) (.seq (.reg [⟨(some 44), .idxArr 3 1 (.t 8) (.c (.int .i64 (.ofNat 0))), none⟩, ⟨(some 45), .load false 1 (.t 44), none⟩, ⟨(some 46), .idxArr 3 1 (.t 8) (.c (.int .i64 (.ofNat 1))), none⟩, ⟨(some 47), .load false 1 (.t 46), none⟩, ⟨(some 48), .idxArr 3 1 (.t 8) (.c (.int .i64 (.ofNat 2))), none⟩, ⟨(some 49), .load false 1 (.t 48), none⟩, ⟨(some 50), .build [(.int .i64 (.ofNat 0)), (.int .i64 (.ofNat 0)), (.int .i64 (.ofNat 0))] [(0, 1, (.t 45)), (1, 1, (.t 47)), (2, 1, (.t 49))], none⟩, ⟨none, .store 3 (.t 6) (.t 50), none⟩]) .ret)))))), [.cell true 3 6]⟩
theorem za5 : cN Tryz.prog 5 = some c5 := by kernel_rfl
-- lightwell/lightwellref10.Right
def c12 : AFn := ⟨33, (.seq (.reg [⟨(some 1), .box (.t 0), none⟩, ⟨(some 2), .mv (.c (.bool false)), none⟩]) (.seq (.reg [⟨(some 3), .fieldA 0 (.t 1), none⟩, ⟨(some 4), .load false 1 (.t 3), none⟩, ⟨(some 5), .bin .geq (.t 4) (.c (.int .i64 (.ofNat 1))), none⟩, ⟨(some 6), .mv (.t 5), none⟩, ⟨(some 7), .fieldA 0 (.t 1), (some (6, true))⟩, ⟨(some 8), .load false 1 (.t 7), (some (6, true))⟩, ⟨(some 9), .bin .leq (.t 8) (.c (.int .i64 (.ofNat 1024))), (some (6, true))⟩, ⟨(some 10), .pick (.t 6) (.t 9) (.c (.bool false)), none⟩, ⟨(some 11), .mv (.t 10), none⟩, ⟨(some 12), .fieldA 1 (.t 1), (some (11, true))⟩, ⟨(some 13), .load false 1 (.t 12), (some (11, true))⟩, ⟨(some 14), .bin .geq (.t 13) (.c (.int .i64 (.ofNat 1))), (some (11, true))⟩, ⟨(some 15), .pick (.t 11) (.t 14) (.c (.bool false)), none⟩, ⟨(some 16), .mv (.t 15), none⟩, ⟨(some 17), .fieldA 1 (.t 1), (some (16, true))⟩, ⟨(some 18), .load false 1 (.t 17), (some (16, true))⟩, ⟨(some 19), .bin .leq (.t 18) (.c (.int .i64 (.ofNat 1024))), (some (16, true))⟩, ⟨(some 20), .pick (.t 16) (.t 19) (.c (.bool false)), none⟩, ⟨(some 21), .mv (.t 20), none⟩, ⟨(some 22), .fieldA 2 (.t 1), (some (21, true))⟩, ⟨(some 23), .load false 1 (.t 22), (some (21, true))⟩, ⟨(some 24), .len false (.t 23), (some (21, true))⟩, ⟨(some 25), .fieldA 0 (.t 1), (some (21, true))⟩, ⟨(some 26), .load false 1 (.t 25), (some (21, true))⟩, ⟨(some 27), .bin .mul (.c (.int .i64 (.ofNat 4))) (.t 26), (some (21, true))⟩, ⟨(some 28), .fieldA 1 (.t 1), (some (21, true))⟩, ⟨(some 29), .load false 1 (.t 28), (some (21, true))⟩, ⟨(some 30), .bin .mul (.t 27) (.t 29), (some (21, true))⟩, ⟨(some 31), .bin .eql (.t 24) (.t 30), (some (21, true))⟩, ⟨(some 32), .pick (.t 21) (.t 31) (.c (.bool false)), none⟩, ⟨(some 2), .mv (.t 32), none⟩]) .ret)), [.t 2]⟩
theorem za12 : cN Tryz.prog 12 = some c12 := by kernel_rfl
-- lightwell/lightwellref10.place
def c13 : AFn := ⟨16, (.seq (.reg [⟨(some 4), .mv (.c (.int .i64 (.ofNat 0))), none⟩]) (.seq (.reg [⟨(some 6), .mv (.t 0), none⟩, ⟨(some 7), .mv (.t 0), none⟩, ⟨(some 8), .call 27 [(.t 7)], none⟩, ⟨(some 9), .call 15 [(.t 8)], none⟩, ⟨(some 10), .call 26 [(.t 6), (.t 9)], none⟩, ⟨(some 5), .mv (.t 10), none⟩]) (.seq (.reg [⟨(some 11), .mv (.t 5), none⟩, ⟨(some 12), .mv (.t 1), none⟩, ⟨(some 13), .call 15 [(.t 12)], none⟩, ⟨(some 14), .call 28 [(.t 11), (.t 13)], none⟩, ⟨(some 15), .call 27 [(.t 14)], none⟩, ⟨(some 4), .mv (.t 15), none⟩]) .ret))), [.t 4]⟩
theorem za13 : cN Tryz.prog 13 = some c13 := by kernel_rfl
-- lightwell/lightwellref01.Floor
def c27 : AFn := ⟨12, (.seq (.reg [⟨(some 2), .mv (.c (.int .i64 (.ofNat 0))), none⟩]) (.seq (.reg [⟨(some 4), .mv (.t 0), none⟩, ⟨(some 5), .bin .quo (.t 4) (.c (.int .i64 (.ofNat 4294967296))), none⟩, ⟨(some 3), .mv (.t 5), none⟩]) (.seq (.seq (.reg [⟨(some 6), .mv (.t 0), none⟩, ⟨(some 7), .bin .rem (.t 6) (.c (.int .i64 (.ofNat 4294967296))), none⟩, ⟨(some 8), .bin .lss (.t 7) (.c (.int .i64 (.ofNat 0))), none⟩]) (.cond (.t 8) (.reg [⟨(some 9), .mv (.t 3), none⟩, ⟨(some 10), .bin .sub (.t 9) (.c (.int .i64 (.ofNat 1))), none⟩, ⟨(some 3), .mv (.t 10), none⟩]) .skip)) (.seq (.reg [⟨(some 11), .mv (.t 3), none⟩, ⟨(some 2), .mv (.t 11), none⟩]) .ret)))), [.t 2]⟩
theorem za27 : cN Tryz.prog 27 = some c27 := by kernel_rfl
-- lightwell/lightwellref01.Of
def c15 : AFn := ⟨16, (.seq (.reg [⟨(some 2), .mv (.c (.int .i64 (.ofNat 0))), none⟩]) (.seq (.reg [⟨(some 6), .mv (.t 0), none⟩, ⟨(some 7), .call 29 [(.t 6)], none⟩, ⟨(some 8), .call 31 [(.t 7), (.c (.int .u64 (.ofNat 4294967296)))], none⟩, ⟨(some 5), .mv (.t 8), none⟩, ⟨(some 9), .extract 0 (.t 5), none⟩, ⟨(some 10), .extract 1 (.t 5), none⟩, ⟨(some 3), .mv (.t 9), none⟩, ⟨(some 4), .mv (.t 10), none⟩]) (.seq (.reg [⟨(some 11), .mv (.t 3), none⟩, ⟨(some 12), .mv (.t 4), none⟩, ⟨(some 13), .mv (.t 0), none⟩, ⟨(some 14), .bin .lss (.t 13) (.c (.int .i64 (.ofNat 0))), none⟩, ⟨(some 15), .call 30 [(.t 11), (.t 12), (.t 14), (.c (.bool false))], none⟩, ⟨(some 2), .mv (.t 15), none⟩]) .ret))), [.t 2]⟩
theorem za15 : cN Tryz.prog 15 = some c15 := by kernel_rfl
-- lightwell/lightwellref01.size
def c29 : AFn := ⟨10, (.seq (.reg [⟨(some 2), .mv (.c (.int .u64 (.ofNat 0))), none⟩]) (.seq (.seq (.reg [⟨(some 3), .mv (.t 0), none⟩, ⟨(some 4), .bin .lss (.t 3) (.c (.int .i64 (.ofNat 0))), none⟩]) (.cond (.t 4) (.seq (.reg [⟨(some 5), .mv (.t 0), none⟩, ⟨(some 6), .conv .u64 (.t 5), none⟩, ⟨(some 7), .bin .sub (.c (.int .u64 (.ofNat 0))) (.t 6), none⟩, ⟨(some 2), .mv (.t 7), none⟩]) .ret) .skip)) (.seq (.reg [⟨(some 8), .mv (.t 0), none⟩, ⟨(some 9), .conv .u64 (.t 8), none⟩, ⟨(some 2), .mv (.t 9), none⟩]) .ret))), [.t 2]⟩
theorem za29 : cN Tryz.prog 29 = some c29 := by kernel_rfl
-- lightwell/lightwellref01.Product
def c31 : AFn := ⟨50, (.seq (.reg [⟨(some 4), .mv (.c (.int .u64 (.ofNat 0))), none⟩, ⟨(some 5), .mv (.c (.int .u64 (.ofNat 0))), none⟩]) (.seq (.reg [⟨(some 13), .mv (.t 0), none⟩, ⟨(some 14), .bin .shr (.t 13) (.c (.int .u64 (.ofNat 32))), none⟩, ⟨(some 15), .mv (.t 0), none⟩, ⟨(some 16), .bin .and (.t 15) (.c (.int .u64 (.ofNat 4294967295))), none⟩, ⟨(some 6), .mv (.t 14), none⟩, ⟨(some 7), .mv (.t 16), none⟩]) (.seq (.reg [⟨(some 17), .mv (.t 1), none⟩, ⟨(some 18), .bin .shr (.t 17) (.c (.int .u64 (.ofNat 32))), none⟩, ⟨(some 19), .mv (.t 1), none⟩, ⟨(some 20), .bin .and (.t 19) (.c (.int .u64 (.ofNat 4294967295))), none⟩, ⟨(some 8), .mv (.t 18), none⟩, ⟨(some 9), .mv (.t 20), none⟩]) (.seq (.reg [⟨(some 21), .mv (.t 7), none⟩, ⟨(some 22), .mv (.t 9), none⟩, ⟨(some 23), .bin .mul (.t 21) (.t 22), none⟩, ⟨(some 10), .mv (.t 23), none⟩]) (.seq (.reg [⟨(some 24), .mv (.t 6), none⟩, ⟨(some 25), .mv (.t 9), none⟩, ⟨(some 26), .bin .mul (.t 24) (.t 25), none⟩, ⟨(some 27), .mv (.t 10), none⟩, ⟨(some 28), .bin .shr (.t 27) (.c (.int .u64 (.ofNat 32))), none⟩, ⟨(some 29), .bin .add (.t 26) (.t 28), none⟩, ⟨(some 11), .mv (.t 29), none⟩]) (.seq (.reg [⟨(some 30), .mv (.t 7), none⟩, ⟨(some 31), .mv (.t 8), none⟩, ⟨(some 32), .bin .mul (.t 30) (.t 31), none⟩, ⟨(some 33), .mv (.t 11), none⟩, ⟨(some 34), .bin .and (.t 33) (.c (.int .u64 (.ofNat 4294967295))), none⟩, ⟨(some 35), .bin .add (.t 32) (.t 34), none⟩, ⟨(some 12), .mv (.t 35), none⟩]) (.seq (.reg [⟨(some 36), .mv (.t 6), none⟩, ⟨(some 37), .mv (.t 8), none⟩, ⟨(some 38), .bin .mul (.t 36) (.t 37), none⟩, ⟨(some 39), .mv (.t 11), none⟩, ⟨(some 40), .bin .shr (.t 39) (.c (.int .u64 (.ofNat 32))), none⟩, ⟨(some 41), .bin .add (.t 38) (.t 40), none⟩, ⟨(some 42), .mv (.t 12), none⟩, ⟨(some 43), .bin .shr (.t 42) (.c (.int .u64 (.ofNat 32))), none⟩, ⟨(some 44), .bin .add (.t 41) (.t 43), none⟩, ⟨(some 45), .mv (.t 12), none⟩, ⟨(some 46), .bin .shl (.t 45) (.c (.int .u64 (.ofNat 32))), none⟩, ⟨(some 47), .mv (.t 10), none⟩, ⟨(some 48), .bin .and (.t 47) (.c (.int .u64 (.ofNat 4294967295))), none⟩, ⟨(some 49), .bin .add (.t 46) (.t 48), none⟩, ⟨(some 4), .mv (.t 44), none⟩, ⟨(some 5), .mv (.t 49), none⟩]) .ret))))))), [.t 4, .t 5]⟩
theorem za31 : cN Tryz.prog 31 = some c31 := by kernel_rfl
-- lightwell/lightwellref01.in
def c30 : AFn := ⟨37, (.seq (.reg [⟨(some 8), .mv (.c (.int .i64 (.ofNat 0))), none⟩]) (.seq (.seq (.reg [⟨(some 9), .mv (.t 2), none⟩, ⟨(some 10), .mv (.t 9), none⟩, ⟨(some 11), .mv (.t 3), (some (10, true))⟩, ⟨(some 12), .pick (.t 10) (.t 11) (.c (.bool false)), none⟩]) (.cond (.t 12) (.seq (.reg [⟨(some 13), .mv (.t 1), none⟩, ⟨(some 14), .bin .add (.t 13) (.c (.int .u64 (.ofNat 1))), none⟩, ⟨(some 1), .mv (.t 14), none⟩]) (.seq (.reg [⟨(some 15), .mv (.t 1), none⟩, ⟨(some 16), .bin .eql (.t 15) (.c (.int .u64 (.ofNat 0))), none⟩]) (.cond (.t 16) (.reg [⟨(some 17), .mv (.t 0), none⟩, ⟨(some 18), .bin .add (.t 17) (.c (.int .u64 (.ofNat 1))), none⟩, ⟨(some 0), .mv (.t 18), none⟩]) .skip))) .skip)) (.seq (.seq (.reg [⟨(some 19), .mv (.t 2), none⟩]) (.cond (.t 19) (.seq (.seq (.reg [⟨(some 20), .mv (.t 0), none⟩, ⟨(some 21), .bin .gtr (.t 20) (.c (.int .u64 (.ofNat 0))), none⟩, ⟨(some 22), .mv (.t 21), none⟩, ⟨(some 23), .mv (.t 1), (some (22, false))⟩, ⟨(some 24), .bin .gtr (.t 23) (.c (.int .u64 (.ofNat 9223372036854775808))), (some (22, false))⟩, ⟨(some 25), .pick (.t 22) (.c (.bool true)) (.t 24), none⟩]) (.cond (.t 25) (.seq (.reg [⟨(some 8), .mv (.c (.int .i64 (.negSucc 9223372036854775807))), none⟩]) .ret) .skip)) (.seq (.reg [⟨(some 26), .mv (.t 1), none⟩, ⟨(some 27), .bin .sub (.c (.int .u64 (.ofNat 0))) (.t 26), none⟩, ⟨(some 28), .conv .i64 (.t 27), none⟩, ⟨(some 8), .mv (.t 28), none⟩]) .ret)) .skip)) (.seq (.seq (.reg [⟨(some 29), .mv (.t 0), none⟩, ⟨(some 30), .bin .gtr (.t 29) (.c (.int .u64 (.ofNat 0))), none⟩, ⟨(some 31), .mv (.t 30), none⟩, ⟨(some 32), .mv (.t 1), (some (31, false))⟩, ⟨(some 33), .bin .gtr (.t 32) (.c (.int .u64 (.ofNat 9223372036854775807))), (some (31, false))⟩, ⟨(some 34), .pick (.t 31) (.c (.bool true)) (.t 33), none⟩]) (.cond (.t 34) (.seq (.reg [⟨(some 8), .mv (.c (.int .i64 (.ofNat 9223372036854775807))), none⟩]) .ret) .skip)) (.seq (.reg [⟨(some 35), .mv (.t 1), none⟩, ⟨(some 36), .conv .i64 (.t 35), none⟩, ⟨(some 8), .mv (.t 36), none⟩]) .ret))))), [.t 8]⟩
theorem za30 : cN Tryz.prog 30 = some c30 := by kernel_rfl
-- lightwell/lightwellref01.Sub
def c26 : AFn := ⟨24, (.seq (.reg [⟨(some 4), .mv (.c (.int .i64 (.ofNat 0))), none⟩]) (.seq (.seq (.reg [⟨(some 5), .mv (.t 1), none⟩, ⟨(some 6), .bin .geq (.t 5) (.c (.int .i64 (.ofNat 0))), none⟩, ⟨(some 7), .mv (.t 6), none⟩, ⟨(some 8), .mv (.t 0), (some (7, true))⟩, ⟨(some 9), .mv (.t 1), (some (7, true))⟩, ⟨(some 10), .bin .add (.c (.int .i64 (.negSucc 9223372036854775807))) (.t 9), (some (7, true))⟩, ⟨(some 11), .bin .lss (.t 8) (.t 10), (some (7, true))⟩, ⟨(some 12), .pick (.t 7) (.t 11) (.c (.bool false)), none⟩]) (.cond (.t 12) (.seq (.reg [⟨(some 4), .mv (.c (.int .i64 (.negSucc 9223372036854775807))), none⟩]) .ret) .skip)) (.seq (.seq (.reg [⟨(some 13), .mv (.t 1), none⟩, ⟨(some 14), .bin .lss (.t 13) (.c (.int .i64 (.ofNat 0))), none⟩, ⟨(some 15), .mv (.t 14), none⟩, ⟨(some 16), .mv (.t 0), (some (15, true))⟩, ⟨(some 17), .mv (.t 1), (some (15, true))⟩, ⟨(some 18), .bin .add (.c (.int .i64 (.ofNat 9223372036854775807))) (.t 17), (some (15, true))⟩, ⟨(some 19), .bin .gtr (.t 16) (.t 18), (some (15, true))⟩, ⟨(some 20), .pick (.t 15) (.t 19) (.c (.bool false)), none⟩]) (.cond (.t 20) (.seq (.reg [⟨(some 4), .mv (.c (.int .i64 (.ofNat 9223372036854775807))), none⟩]) .ret) .skip)) (.seq (.reg [⟨(some 21), .mv (.t 0), none⟩, ⟨(some 22), .mv (.t 1), none⟩, ⟨(some 23), .bin .sub (.t 21) (.t 22), none⟩, ⟨(some 4), .mv (.t 23), none⟩]) .ret)))), [.t 4]⟩
theorem za26 : cN Tryz.prog 26 = some c26 := by kernel_rfl
-- lightwell/lightwellref01.Mul
def c28 : AFn := ⟨31, (.seq (.reg [⟨(some 4), .mv (.c (.int .i64 (.ofNat 0))), none⟩]) (.seq (.reg [⟨(some 8), .mv (.t 0), none⟩, ⟨(some 9), .call 29 [(.t 8)], none⟩, ⟨(some 10), .mv (.t 1), none⟩, ⟨(some 11), .call 29 [(.t 10)], none⟩, ⟨(some 12), .call 31 [(.t 9), (.t 11)], none⟩, ⟨(some 7), .mv (.t 12), none⟩, ⟨(some 13), .extract 0 (.t 7), none⟩, ⟨(some 14), .extract 1 (.t 7), none⟩, ⟨(some 5), .mv (.t 13), none⟩, ⟨(some 6), .mv (.t 14), none⟩]) (.seq (.reg [⟨(some 15), .mv (.t 5), none⟩, ⟨(some 16), .bin .shr (.t 15) (.c (.int .u64 (.ofNat 32))), none⟩, ⟨(some 17), .mv (.t 5), none⟩, ⟨(some 18), .bin .shl (.t 17) (.c (.int .u64 (.ofNat 32))), none⟩, ⟨(some 19), .mv (.t 6), none⟩, ⟨(some 20), .bin .shr (.t 19) (.c (.int .u64 (.ofNat 32))), none⟩, ⟨(some 21), .bin .add (.t 18) (.t 20), none⟩, ⟨(some 22), .mv (.t 0), none⟩, ⟨(some 23), .bin .lss (.t 22) (.c (.int .i64 (.ofNat 0))), none⟩, ⟨(some 24), .mv (.t 1), none⟩, ⟨(some 25), .bin .lss (.t 24) (.c (.int .i64 (.ofNat 0))), none⟩, ⟨(some 26), .pf (.eqv true .bool) [(.t 23), (.t 25)], none⟩, ⟨(some 27), .mv (.t 6), none⟩, ⟨(some 28), .bin .and (.t 27) (.c (.int .u64 (.ofNat 4294967295))), none⟩, ⟨(some 29), .bin .neq (.t 28) (.c (.int .u64 (.ofNat 0))), none⟩, ⟨(some 30), .call 30 [(.t 16), (.t 21), (.t 26), (.t 29)], none⟩, ⟨(some 4), .mv (.t 30), none⟩]) .ret))), [.t 4]⟩
theorem za28 : cN Tryz.prog 28 = some c28 := by kernel_rfl
-- lightwell/lightwellref01.Div
def c14 : AFn := ⟨62, (.seq (.reg [⟨(some 4), .mv (.c (.int .i64 (.ofNat 0))), none⟩]) (.seq (.seq (.reg [⟨(some 11), .mv (.t 1), none⟩, ⟨(some 12), .bin .eql (.t 11) (.c (.int .i64 (.ofNat 0))), none⟩]) (.cond (.t 12) (.seq (.seq (.reg [⟨(some 13), .mv (.t 0), none⟩, ⟨(some 14), .bin .eql (.t 13) (.c (.int .i64 (.ofNat 0))), none⟩]) (.cond (.t 14) (.seq (.reg [⟨(some 4), .mv (.c (.int .i64 (.ofNat 0))), none⟩]) .ret) .skip)) (.seq (.seq (.reg [⟨(some 15), .mv (.t 0), none⟩, ⟨(some 16), .bin .gtr (.t 15) (.c (.int .i64 (.ofNat 0))), none⟩]) (.cond (.t 16) (.seq (.reg [⟨(some 4), .mv (.c (.int .i64 (.ofNat 9223372036854775807))), none⟩]) .ret) .skip)) (.seq (.reg [⟨(some 4), .mv (.c (.int .i64 (.negSucc 9223372036854775807))), none⟩]) .ret))) .skip)) (.seq (.reg [⟨(some 17), .mv (.t 0), none⟩, ⟨(some 18), .call 29 [(.t 17)], none⟩, ⟨(some 19), .mv (.t 1), none⟩, ⟨(some 20), .call 29 [(.t 19)], none⟩, ⟨(some 5), .mv (.t 18), none⟩, ⟨(some 6), .mv (.t 20), none⟩]) (.seq (.reg [⟨(some 7), .mv (.c (.int .u64 (.ofNat 0))), none⟩, ⟨(some 8), .mv (.c (.int .u64 (.ofNat 0))), none⟩, ⟨(some 9), .mv (.c (.int .u64 (.ofNat 0))), none⟩]) (.seq (.seq (.reg [⟨(some 10), .mv (.c (.int .i64 (.ofNat 95))), none⟩]) (.block 0 (.loop (.seq (.seq (.reg [⟨(some 21), .mv (.t 10), none⟩, ⟨(some 22), .bin .geq (.t 21) (.c (.int .i64 (.ofNat 0))), none⟩]) (.cond (.t 22) .skip (.exit 0))) (.seq (.block 1 (.seq (.reg [⟨(some 25), .mv (.t 9), none⟩, ⟨(some 26), .bin .mul (.c (.int .u64 (.ofNat 2))) (.t 25), none⟩, ⟨(some 9), .mv (.t 26), none⟩]) (.seq (.seq (.reg [⟨(some 27), .mv (.t 10), none⟩, ⟨(some 28), .bin .geq (.t 27) (.c (.int .i64 (.ofNat 32))), none⟩]) (.cond (.t 28) (.reg [⟨(some 29), .mv (.t 9), none⟩, ⟨(some 30), .mv (.t 5), none⟩, ⟨(some 31), .mv (.t 10), none⟩, ⟨(some 32), .bin .sub (.t 31) (.c (.int .i64 (.ofNat 32))), none⟩, ⟨(some 33), .conv .u64 (.t 32), none⟩, ⟨(some 34), .bin .shr (.t 30) (.t 33), none⟩, ⟨(some 35), .bin .and (.t 34) (.c (.int .u64 (.ofNat 1))), none⟩, ⟨(some 36), .bin .add (.t 29) (.t 35), none⟩, ⟨(some 9), .mv (.t 36), none⟩]) .skip)) (.seq (.reg [⟨(some 37), .mv (.t 7), none⟩, ⟨(some 38), .bin .mul (.c (.int .u64 (.ofNat 2))) (.t 37), none⟩, ⟨(some 39), .mv (.t 8), none⟩, ⟨(some 40), .bin .shr (.t 39) (.c (.int .u64 (.ofNat 63))), none⟩, ⟨(some 41), .bin .add (.t 38) (.t 40), none⟩, ⟨(some 7), .mv (.t 41), none⟩]) (.seq (.reg [⟨(some 42), .mv (.t 8), none⟩, ⟨(some 43), .bin .mul (.c (.int .u64 (.ofNat 2))) (.t 42), none⟩, ⟨(some 8), .mv (.t 43), none⟩]) (.seq (.reg [⟨(some 44), .mv (.t 9), none⟩, ⟨(some 45), .mv (.t 6), none⟩, ⟨(some 46), .bin .geq (.t 44) (.t 45), none⟩]) (.cond (.t 46) (.seq (.reg [⟨(some 47), .mv (.t 9), none⟩, ⟨(some 48), .mv (.t 6), none⟩, ⟨(some 49), .bin .sub (.t 47) (.t 48), none⟩, ⟨(some 9), .mv (.t 49), none⟩]) (.reg [⟨(some 50), .mv (.t 8), none⟩, ⟨(some 51), .bin .add (.t 50) (.c (.int .u64 (.ofNat 1))), none⟩, ⟨(some 8), .mv (.t 51), none⟩])) .skip))))))) (.reg [⟨(some 23), .mv (.t 10), none⟩, ⟨(some 24), .bin .sub (.t 23) (.c (.int .i64 (.ofNat 1))), none⟩, ⟨(some 10), .mv (.t 24), none⟩])))))) (.seq (.reg [⟨(some 52), .mv (.t 7), none⟩, ⟨(some 53), .mv (.t 8), none⟩, ⟨(some 54), .mv (.t 0), none⟩, ⟨(some 55), .bin .lss (.t 54) (.c (.int .i64 (.ofNat 0))), none⟩, ⟨(some 56), .mv (.t 1), none⟩, ⟨(some 57), .bin .lss (.t 56) (.c (.int .i64 (.ofNat 0))), none⟩, ⟨(some 58), .pf (.eqv true .bool) [(.t 55), (.t 57)], none⟩, ⟨(some 59), .mv (.t 9), none⟩, ⟨(some 60), .bin .gtr (.t 59) (.c (.int .u64 (.ofNat 0))), none⟩, ⟨(some 61), .call 30 [(.t 52), (.t 53), (.t 58), (.t 60)], none⟩, ⟨(some 4), .mv (.t 61), none⟩]) .ret)))))), [.t 4]⟩
theorem za14 : cN Tryz.prog 14 = some c14 := by kernel_rfl
end
end Go.Proofs.Tx
/- Symbolic runs of the abstract machine, part 12: rows of bytes with room; small whole numbers. Plain Lean. -/
namespace Go.Abs.S
open Go.Abs
theorem wrapU32 {a : Int} (h1 : 0 ≤ a) (h2 : a < 4294967296) : IntKind.u32.wrap a = a := by
  rw [IntKind.wrap_u32]; omega
theorem wrapU64' {a : Int} (h1 : 0 ≤ a) (h2 : a < 18446744073709551616) : IntKind.u64.wrap a = a := by
  rw [IntKind.wrap_u64]; omega
theorem quoU32 {a : Nat} (b : Nat) (h : 0 < b) (ha : a < 4294967296) : aBin .quo (.int .u32 (a : Int)) (.int .u32 (b : Int)) = some (.int .u32 ((a / b : Nat) : Int)) := by
  rw [bin_quo _ _ _ (by omega)]
  have : (a : Int).tdiv b = ((a / b : Nat) : Int) := rfl
  have h2 := Nat.div_le_self a b
  rw [this, wrapU32 (Int.natCast_nonneg _) (by generalize a / b = q at *; omega)]
theorem remU32 {a : Nat} (b : Nat) (h : 0 < b) : aBin .rem (.int .u32 (a : Int)) (.int .u32 (b : Int)) = some (.int .u32 ((a % b : Nat) : Int)) := by
  rw [bin_rem _ _ _ (by omega)]; rfl
theorem quoU64 {a : Nat} (b : Nat) (h : 0 < b) (ha : a < 18446744073709551616) : aBin .quo (.int .u64 (a : Int)) (.int .u64 (b : Int)) = some (.int .u64 ((a / b : Nat) : Int)) := by
  rw [bin_quo _ _ _ (by omega)]
  have : (a : Int).tdiv b = ((a / b : Nat) : Int) := rfl
  have h2 := Nat.div_le_self a b
  rw [this, wrapU64' (Int.natCast_nonneg _) (by generalize a / b = q at *; omega)]
theorem remU64 {a : Nat} (b : Nat) (h : 0 < b) : aBin .rem (.int .u64 (a : Int)) (.int .u64 (b : Int)) = some (.int .u64 ((a % b : Nat) : Int)) := by
  rw [bin_rem _ _ _ (by omega)]; rfl
theorem shrN (k k' : IntKind) (a : Nat) {b : Nat} (hb : b ≤ k.bits) : aBin .shr (.int k (a : Int)) (.int k' (b : Int)) = some (.int k ((a / 2 ^ b : Nat) : Int)) := by
  rw [bin_shr, Nat.min_eq_left hb]
  congr 2
  have : ((2 : Int) ^ b) = ((2 ^ b : Nat) : Int) := by simp
  rw [this, Int.fdiv_eq_ediv_of_nonneg _ (Int.natCast_nonneg _)]
  rfl
theorem bin_andU64 {a b : Nat} (ha : a < 2 ^ 64) (hb : b < 2 ^ 64) : aBin .and (.int .u64 (a : Int)) (.int .u64 (b : Int)) = some (.int .u64 ((a &&& b : Nat) : Int)) := by
  have e : (BitVec.ofInt IntKind.u64.bits (a : Int) &&& BitVec.ofInt IntKind.u64.bits (b : Int)).toNat = a &&& b := by
    rw [BitVec.toNat_and, ofInt_nat, ofInt_nat]
    have h1 : a % 2 ^ IntKind.u64.bits = a := Nat.mod_eq_of_lt (by simp only [IntKind.bits]; omega)
    have h2 : b % 2 ^ IntKind.u64.bits = b := Nat.mod_eq_of_lt (by simp only [IntKind.bits]; omega)
    rw [h1, h2]
  simp only [aBin, isShift, cond_false, if_true, aIntF_eq, aInt, e]
  have h3 := Nat.and_lt_two_pow a hb
  rw [wrapU64' (by omega) (by omega)]
/-- bytes as cells -/
def byts (s : List UInt8) : List AVal := s.map fun b => .int .u8 (b.toNat : Int)
theorem byts_len (s : List UInt8) : (byts s).length = s.length := by simp [byts]
theorem byts_append (s t : List UInt8) : byts (s ++ t) = byts s ++ byts t := by simp [byts]
theorem byts_one (s : List UInt8) : (byts s).all AVal.one = true := by simp [byts, AVal.one]
theorem byts_get {s : List UInt8} {i : Nat} {b : UInt8} (h : s[i]? = some b) : (byts s)[i]? = some (.int .u8 (b.toNat : Int)) := by simp [byts, h]
theorem bytesOf_byts : ∀ s : List UInt8, bytesOf (byts s) = some s
  | [] => rfl
  | b :: s => by
    have h := bytesOf_byts s
    show (match bytesOf (byts s) with | some l => some (UInt8.ofNat (Int.toNat (b.toNat : Int)) :: l) | none => none) = _
    rw [h]
    simp
theorem src_str (H : AHeap) (s : List UInt8) : aSrc 1 H (.str s) = some (s.length, byts s) := _root_.id rfl
/-- so many bytes of a row, with room up to its end -/
def bufS (b cap n : Nat) : AVal := .slice (some ⟨b, cap, 0⟩) n (.known cap)
def Buf (H : AHeap) (b cap : Nat) (s : List UInt8) : Prop := ∃ l, Row H b l ∧ l.length = cap ∧ l.take s.length = byts s
theorem bufS_one (b cap n : Nat) : (bufS b cap n).one = true := rfl
theorem buf_len (b cap n : Nat) : aLenK false (bufS b cap n) = some (.int .i64 (n : Int)) := _root_.id rfl
theorem buf_idx {b cap n : Nat} (k : IntKind) {i : Nat} (h : i < n) : aIdxA 1 (bufS b cap n) (.int k (i : Int)) = some (cellR b cap i) := by
  show (bif Nat.blt i n then some (AVal.ptr (some ⟨b, cap, 0 + i * 1⟩)) else none) = _
  have : Nat.blt i n = true := by simpa [Nat.blt_eq] using h
  rw [this, Nat.zero_add, Nat.mul_one]; rfl
theorem rep_one (z : AVal) : ∀ k, rep [z] k = List.replicate k z
  | 0 => rfl
  | k + 1 => by simp only [rep, rep_one z k, List.replicate_succ]; rfl
theorem buf_make {H : AHeap} (z : AVal) (cap : Nat) (hc : cap ≤ 1000000) : ∃ H', aMake 1 [z] H (.int .i64 (0 : Int)) (.int .i64 (cap : Int)) = some (bufS H.next cap 0, H') ∧ Buf H' H.next cap [] ∧ H'.next = H.next + 1 ∧ ∀ c, c ≠ H.next → H'.get c = H.get c := by
  refine ⟨H.push (.cells (List.replicate cap z) 0 false), ?_, ⟨_, row_push _ _, by simp, by simp [byts]⟩, rfl, fun c hc => by rw [AHeap.get_push, if_neg hc]⟩
  have h0 : natOf (.int .i64 (0 : Int)) = some 0 := rfl
  have h1 : natOf (.int .i64 (cap : Int)) = some cap := by
    show natOf (.int .i64 (Int.ofNat cap)) = some cap
    simp only [natOf, Nat.ble_eq_true_of_le (show cap ≤ 9223372036854775807 by omega), cond_true]
  simp only [aMake, h0, h1, rep_one, Nat.ble_eq_true_of_le (Nat.zero_le _), Nat.ble_eq_true_of_le (show 1 * cap ≤ 281474976710656 by omega), Bool.and_self, cond_true, List.length_replicate]
  rfl
theorem ap_buf {H : AHeap} {b cap : Nat} {s x : List UInt8} (hb : Buf H b cap s) {t : AVal} (hs : aSrc 1 H t = some (x.length, byts x)) (hx : x ≠ []) (hf : s.length + x.length ≤ cap) (hc : cap ≤ 1000000) :
    ∃ H', aAppend 1 1 H (bufS b cap s.length) t = some (bufS b cap (s ++ x).length, H') ∧ Buf H' b cap (s ++ x) ∧ H'.next = H.next ∧ ∀ c, c ≠ b → H'.get c = H.get c := by
  obtain ⟨l, ⟨low, h1, h2⟩, h3, h4⟩ := hb
  have hl : 0 < x.length := List.length_pos_iff.2 hx
  have e0 : Nat.beq x.length 0 = false := by rw [beq_dec]; exact decide_eq_false (by omega)
  refine ⟨H.set b (.cells (l.take s.length ++ (byts x ++ l.drop (s.length + x.length))) cap false), ?_, ⟨_, ⟨cap, by rw [AHeap.get_set, if_pos rfl], ?_⟩, ?_, ?_⟩, rfl, fun c hc => by rw [AHeap.get_set, if_neg hc]⟩
  · have hw : wrCells H ⟨b, cap, 0 + s.length * 1⟩ (byts x) = some (H.set b (.cells (l.take s.length ++ (byts x ++ l.drop (s.length + x.length))) cap false)) := by
      unfold wrCells
      simp only [h1, Nat.zero_add, Nat.mul_one, Nat.ble_eq_true_of_le (show low ≤ cap by omega), byts_len, Nat.ble_eq_true_of_le hf, byts_one, h3, Nat.beq_refl, Bool.and_self, cond_true]
    simp only [aAppend, hs, e0, cond_false, bufS, Nat.add_zero, Nat.mul_one, Nat.ble_eq_true_of_le (show 2 * (s.length + x.length) ≤ 281474976710656 by omega), Nat.ble_eq_true_of_le (show s.length + x.length ≤ 9223372036854775807 by omega), byts_len, Nat.beq_refl, byts_one, Bool.and_self, show Nat.blt 0 1 = true from rfl, cond_true, Nat.ble_eq_true_of_le hf, List.length_append]
    rw [Nat.mul_one] at hw
    rw [hw]
  · simp [byts]; omega
  · simp [byts]; omega
  · rw [byts_append, ← h4, ← List.append_assoc]
    have e : (List.take s.length l ++ byts x).length = (s ++ x).length := by simp [byts]; omega
    rw [← e, List.take_left]
theorem bs_buf {H : AHeap} {b cap : Nat} {s : List UInt8} (hb : Buf H b cap s) (hf : s.length ≤ cap) : aBS H (bufS b cap s.length) = some (.str s) := by
  obtain ⟨l, ⟨low, h1, h2⟩, h3, h4⟩ := hb
  have hr : rdCells H ⟨b, cap, 0⟩ s.length = some (byts s) := by
    unfold rdCells
    simp only [h1, Nat.ble_eq_true_of_le (show low ≤ cap by omega), Nat.ble_eq_true_of_le (show cap ≤ l.length by omega), Nat.zero_add, Nat.ble_eq_true_of_le hf, Bool.and_self, cond_true, List.drop_zero, h4]
  simp only [aBS, bufS, hr, bytesOf_byts]
theorem buf_src {H : AHeap} {b cap : Nat} {s : List UInt8} (hb : Buf H b cap s) (hf : s.length ≤ cap) : aSrc 1 H (bufS b cap s.length) = some (s.length, byts s) := by
  obtain ⟨l, ⟨low, h1, h2⟩, h3, h4⟩ := hb
  have hr : rdCells H ⟨b, cap, 0⟩ s.length = some (byts s) := by
    unfold rdCells
    simp only [h1, Nat.ble_eq_true_of_le (show low ≤ cap by omega), Nat.ble_eq_true_of_le (show cap ≤ l.length by omega), Nat.zero_add, Nat.ble_eq_true_of_le hf, Bool.and_self, cond_true, List.drop_zero, h4]
  simp only [aSrc, bufS, Nat.mul_one, hr]
theorem Buf.same {H H' : AHeap} {b cap : Nat} {s : List UInt8} (h : Buf H b cap s) (e : H'.get b = H.get b) : Buf H' b cap s := by
  obtain ⟨l, h1, h2⟩ := h
  exact ⟨l, h1.same e, h2⟩
theorem slA_buf {b cap k : Nat} (h : k ≤ cap) (hc : 0 < cap) : aSlArr cap 1 (cellR b cap 0) none (some (.int .i64 (k : Int))) none = some (bufS b cap k) := by
  have e : Nat.beq cap 0 = false := by rw [beq_dec]; exact decide_eq_false (by omega)
  simp only [aSlArr, cellR, aBnd, bdO, bd_nat h, Option.getD_none, e, cond_false, Nat.zero_mul, Nat.add_zero, Nat.sub_zero, bufS]
/-- a row that is only read: global g -/
def Glo (H : AHeap) (g : Nat) (l : List AVal) : Prop := H.get g = some (.cells l 0 true)
theorem gl_idx {H : AHeap} {g n : Nat} {l : List AVal} (h : Glo H g l) (hn : l.length = n) {i : Nat} (hi : i < n) (k : IntKind) : aHf (.gIdx g n 1) H [.int k (i : Int)] = some (cellR g n i, H) := by
  have : gPtr H g = some (cellR g n 0) := by
    unfold gPtr
    rw [h, ← hn]; rfl
  simp only [aHf, aGIdx, this, arr_idx hi]
theorem gl_load {H : AHeap} {g n : Nat} {l : List AVal} (h : Glo H g l) (hn : l.length = n) {i : Nat} {x : AVal} (hi : l[i]? = some x) : oLoad false 1 H (cellR g n i) = some x := by
  subst hn
  have hlt := (List.getElem?_eq_some_iff.1 hi).1
  obtain ⟨y, h4, h5⟩ := rd_at (rd_whole h (Nat.zero_le _)) hlt
  rw [hi] at h4
  simp only [Option.some.injEq] at h4
  subst h4
  simp only [Nat.zero_add] at h5
  simp only [oLoad, cellR, h5, cond_false]
theorem Glo.ext {n g : Nat} {H H' : AHeap} {l : List AVal} (h : Glo H g l) (hg : g < n) (e : Ext n H H') : Glo H' g l := (e.old g hg).trans h
theorem row_storeN {H : AHeap} {b n : Nat} {l : List AVal} (h : Row H b l) (hn : l.length = n) {xs : List AVal} (hx : xs.length = n) (ho : xs.all AVal.one = true) :
    ∃ H', oStore n H (cellR b n 0) (.agg xs) = some H' ∧ Row H' b xs ∧ H'.next = H.next ∧ ∀ c, c ≠ b → H'.get c = H.get c := by
  subst hn
  obtain ⟨low, h1, h2⟩ := h
  refine ⟨H.set b (.cells xs l.length false), ?_, ⟨l.length, by rw [AHeap.get_set, if_pos rfl], by omega⟩, rfl, fun c hc => by rw [AHeap.get_set, if_neg hc]⟩
  simp only [oStore, cellR, cells_agg, hx, Nat.beq_refl, cond_true]
  unfold wrCells
  simp only [h1, hx, Nat.ble_eq_true_of_le h2, Nat.beq_refl, Nat.zero_add, Nat.ble_eq_true_of_le (Nat.le_refl _), ho, Bool.and_self, cond_true, List.take_zero, List.nil_append, List.drop_length, List.append_nil]
theorem row_loadN {H : AHeap} {b n : Nat} {l : List AVal} (h : Row H b l) (hn : l.length = n) : oLoad true n H (cellR b n 0) = some (.agg l) := by
  subst hn
  obtain ⟨low, h1, h2⟩ := h
  simp only [oLoad, cellR, rd_whole h1 h2, cond_true]
theorem fld0 (b n o : Nat) : aField o (cellR b n 0) = some (cellR b n o) := by
  simp only [aField, cellR, Nat.zero_add]
theorem fin_c1 {T : Env} {H : AHeap} (g : Bool) (n i : Nat) (K : AVal → AHeap → Prop) {v : AVal} (h : oLoad g n H (T i) = some v) (hk : K v H) : fin [.cell g n i] K .ret T H := by
  simp only [fin, wRes, h, OptP_some]; exact hk
theorem fin_c2 {T : Env} {H : AHeap} (g g' : Bool) (n n' i i' : Nat) (K : AVal → AHeap → Prop) {v v' : AVal} (h : oLoad g n H (T i) = some v) (h' : oLoad g' n' H (T i') = some v') (hk : K (.tuple [v, v']) H) : fin [.cell g n i, .cell g' n' i'] K .ret T H := by
  simp only [fin, wRes, h, h', OptP_some]; exact hk
theorem fin_n0 {T : Env} {H : AHeap} (K : AVal → AHeap → Prop) : fin [] K .normal T H = K (.tuple []) H := by
  simp only [fin, wRes, OptP_some]; rfl
theorem Row.ne_glo {H : AHeap} {b g : Nat} {l m : List AVal} (h : Row H b l) (k : Glo H g m) : g ≠ b := by
  rintro rfl
  obtain ⟨low, h1, _⟩ := h
  have k' : H.get g = some (.cells m 0 true) := k
  rw [h1] at k'
  simp at k'
end Go.Abs.S
/- Symbolic runs of the abstract machine, part 14: rows of structs that grow. Plain Lean. -/
namespace Go.Abs.S
open Go.Abs
/-- k elements of m cells each: nil, or a row of its own that may grow -/
def AppN (m n : Nat) (H : AHeap) (s : AVal) (L : List AVal) (k : Nat) : Prop :=
  (s = nilS ∧ L = [] ∧ k = 0) ∨ ∃ b low, s = .slice (some ⟨b, L.length, 0⟩) k (.open_ m) ∧ L.length = m * k ∧ n ≤ b ∧ b < H.next ∧ H.get b = some (.cells L low false) ∧ low ≤ L.length ∧ 0 < k
theorem AppN.nil (m n : Nat) (H : AHeap) : AppN m n H nilS [] 0 := .inl ⟨rfl, rfl, rfl⟩
theorem AppN.ext {m n k : Nat} {H H' : AHeap} {s : AVal} {L : List AVal} (h : AppN m n H s L k) (e : Ext H.next H H') : AppN m n H' s L k := by
  rcases h with h | ⟨b, low, h1, h2, h3, h4, h5, h6⟩
  · exact .inl h
  · exact .inr ⟨b, low, h1, h2, h3, Nat.lt_of_lt_of_le h4 e.next, (e.old b h4).trans h5, h6⟩
theorem AppN.len {m n k : Nat} {H : AHeap} {s : AVal} {L : List AVal} (h : AppN m n H s L k) : aLenK false s = some (.int .i64 (k : Int)) := by
  rcases h with ⟨rfl, _, rfl⟩ | ⟨b, low, rfl, _⟩ <;> rfl
theorem AppN.blk {m n k : Nat} {H : AHeap} {s : AVal} {L : List AVal} (h : AppN m n H s L k) : ∀ a j r, s = .slice (some a) j r → a.b < H.next := by
  intro a j r he
  rcases h with ⟨rfl, _⟩ | ⟨b, low, rfl, _, _, h4, _⟩
  · simp [nilS] at he
  · simp only [AVal.slice.injEq, Option.some.injEq] at he
    rw [← he.1]; exact h4
def oneM (H : AHeap) (m : Nat) : AVal := .slice (some ⟨H.next, m, 0⟩) 1 (.known 1)
theorem buildM {m : Nat} {z xs : List AVal} (H : AHeap) (hz : z.length = m) (hx : xs.length = m) : aBuildSl 1 z H [(0, m, .agg xs)] = some (oneM H m, H.push (.cells xs 0 false)) := by
  subst hz
  have hb : Nat.beq xs.length z.length = true := by rw [hx]; exact Nat.beq_refl _
  simp only [aBuildSl, rep, List.append_nil, aFill, cells_agg, hx, Nat.beq_refl, Nat.zero_add, Nat.ble_eq_true_of_le (Nat.le_refl _), Bool.and_self, cond_true, splice, List.take_zero, List.nil_append, List.drop_length, List.append_nil, oneM]
theorem srcM {m : Nat} {xs : List AVal} (H : AHeap) (hx : xs.length = m) : aSrc m (H.push (.cells xs 0 false)) (oneM H m) = some (1, xs) := by
  subst hx
  have := rd_whole (H := H.push (.cells xs 0 false)) (b := H.next) (l := xs) (low := 0) (ro := false) (by rw [AHeap.get_push, if_pos rfl]) (Nat.zero_le _)
  simp only [aSrc, oneM, Nat.one_mul, this]
theorem AppN.push {m n k : Nat} {H : AHeap} {s : AVal} {L : List AVal} (h : AppN m n H s L k) (hn : n ≤ H.next) {xs : List AVal} (hx : xs.length = m) (ho : xs.all AVal.one = true) (hm : 0 < m) {bytes : Nat} (hb : 2 * (k + 1) * bytes ≤ 281474976710656) (hb1 : 0 < bytes) :
    ∃ s' H', aAppend m bytes (H.push (.cells xs 0 false)) s (oneM H m) = some (s', H') ∧ AppN m n H' s' (L ++ xs) (k + 1) ∧ Ext n H H' ∧ ∀ c, c < H.next → (∀ a j r, s = .slice (some a) j r → c ≠ a.b) → H'.get c = H.get c := by
  have hlen : k + 1 ≤ 9223372036854775807 := by
    have : 2 * (k + 1) ≤ 2 * (k + 1) * bytes := Nat.le_mul_of_pos_right _ hb1
    omega
  have hlt : Nat.blt 0 m = true := by simpa [Nat.blt_eq] using hm
  have c1 : ∀ j, j = k → (Nat.blt 0 m && (Nat.ble ((2 * (j + 1) + 0) * bytes) 281474976710656 && (Nat.ble (j + 1) 9223372036854775807 && (Nat.beq xs.length (1 * m) && xs.all AVal.one)))) = true := by
    intro j hj
    subst hj
    simp only [Nat.add_zero, Nat.ble_eq_true_of_le hb, Nat.ble_eq_true_of_le hlen, hx, Nat.one_mul, Nat.beq_refl, ho, hlt, Bool.and_self]
  rcases h with ⟨rfl, rfl, rfl⟩ | ⟨b, low, rfl, h2, h3, h4, h5, h6, h7⟩
  · refine ⟨.slice (some ⟨H.next + 1, m, 0⟩) 1 (.open_ m), (H.push (.cells xs 0 false)).push (.cells xs 0 false), ?_, .inr ⟨H.next + 1, 0, by simp [hx], by simp [hx], by omega, Nat.lt_succ_self _, ?_, Nat.zero_le _, by omega⟩, ((Ext.refl n H).push hn _).push (by rw [push_next]; omega) _, fun c hc _ => by rw [AHeap.get_push, if_neg (by rw [push_next]; omega), get_push_lt hc]⟩
    · simp only [aAppend, srcM H hx, nilS]
      rw [show Nat.beq 1 0 = false from rfl, cond_false, c1 0 rfl, cond_true, hx]
      rfl
    · rw [AHeap.get_push]; exact if_pos rfl
  · have hg : (H.push (.cells xs 0 false)).get b = some (.cells L low false) := by rw [AHeap.get_push, if_neg (by omega)]; exact h5
    have hgrow : growCells (H.push (.cells xs 0 false)) ⟨b, L.length, 0⟩ L.length xs = some ((H.push (.cells xs 0 false)).set b (.cells (L ++ xs) low false)) := by
      unfold growCells
      simp only [hg, Nat.ble_eq_true_of_le h6, Nat.ble_eq_true_of_le (Nat.le_refl _), Nat.ble_eq_true_of_le (Nat.zero_le _), Nat.ble_eq_true_of_le (show L.length + 1 ≤ L.length + xs.length by omega), Nat.beq_refl, ho, Bool.and_self, cond_true, List.take_length]
    refine ⟨.slice (some ⟨b, L.length + m, 0⟩) (k + 1) (.open_ m), (H.push (.cells xs 0 false)).set b (.cells (L ++ xs) low false), ?_, .inr ⟨b, low, by simp [hx], by rw [List.length_append, h2, hx, Nat.mul_add, Nat.mul_one], h3, by rw [set_next, push_next]; omega, by rw [AHeap.get_set, if_pos rfl], by simp; omega, by omega⟩, ((Ext.refl n H).push hn _).set h3 _, fun c hc hd => by rw [AHeap.get_set, if_neg (hd _ _ _ rfl), get_push_lt hc]⟩
    have e0 : 0 + k * m = L.length := by rw [h2, Nat.mul_comm]; omega
    have e1 : Nat.ble (0 + (k + 1) * m) L.length = false := by
      rw [ble_dec]; refine decide_eq_false ?_
      rw [Nat.add_mul, Nat.one_mul]; omega
    simp only [aAppend, srcM H hx]
    rw [show Nat.beq 1 0 = false from rfl, cond_false, c1 k rfl, cond_true]
    simp only [Nat.beq_refl, cond_true, e1, cond_false, e0, hgrow, hx]
theorem idxM {b lim k m : Nat} (K : IntKind) {i : Nat} (h : i < k) : aIdxA m (.slice (some ⟨b, lim, 0⟩) k (.open_ m)) (.int K (i : Int)) = some (cellR b lim (i * m)) := by
  show (bif Nat.blt i k then some (AVal.ptr (some ⟨b, lim, 0 + i * m⟩)) else none) = _
  have : Nat.blt i k = true := by simpa [Nat.blt_eq] using h
  rw [this, Nat.zero_add]; rfl
theorem fldR (b n i o : Nat) : aField o (cellR b n i) = some (cellR b n (i + o)) := by
  simp only [aField, cellR]
end Go.Abs.S
/- Numbers of 64 bits without a sign: products and quotients as the program and the document reckon them. Plain Lean. -/
namespace Go.Proofs.Tx
open Go.Abs Go.Abs.S
theorem and32 {x : Nat} (h : x < 18446744073709551616) : aBin .and (.int .u64 (x : Int)) (.int .u64 4294967295) = some (.int .u64 ((x % 4294967296 : Nat) : Int)) := by
  have := bin_andU64 (a := x) (b := 4294967295) (by omega) (by omega)
  rw [show x &&& 4294967295 = x % 4294967296 from Nat.and_two_pow_sub_one_eq_mod x 32] at this
  exact this
theorem shr32 (x : Nat) : aBin .shr (.int .u64 (x : Int)) (.int .u64 32) = some (.int .u64 ((x / 4294967296 : Nat) : Int)) :=
  shrN .u64 .u64 x (b := 32) (by decide)
theorem shr63 (x : Nat) : aBin .shr (.int .u64 (x : Int)) (.int .u64 63) = some (.int .u64 ((x / 9223372036854775808 : Nat) : Int)) :=
  shrN .u64 .u64 x (b := 63) (by decide)
theorem shl32 {x : Nat} (h : x < 4294967296) : aBin .shl (.int .u64 (x : Int)) (.int .u64 32) = some (.int .u64 ((x * 4294967296 : Nat) : Int)) := by
  rw [show (AVal.int .u64 32) = .int .u64 ((32 : Nat) : Int) from rfl, bin_shl]
  congr 2
  rw [show min 32 IntKind.u64.bits = 32 from rfl, IntKind.wrap_u64]; omega
theorem shl32w (x : Nat) : aBin .shl (.int .u64 (x : Int)) (.int .u64 32) = some (.int .u64 ((x * 4294967296 % 18446744073709551616 : Nat) : Int)) := by
  rw [show (AVal.int .u64 32) = .int .u64 ((32 : Nat) : Int) from rfl, bin_shl]
  refine congrArg (fun z => some (AVal.int .u64 z)) ?_
  rw [show min 32 IntKind.u64.bits = 32 from rfl, IntKind.wrap_u64]; omega
theorem ishl32 {x : Int} (h1 : -2147483648 ≤ x) (h2 : x ≤ 2147483647) : aBin .shl (.int .i64 x) (.int .u64 32) = some (.int .i64 (x * 4294967296)) := by
  rw [show (AVal.int .u64 32) = .int .u64 ((32 : Nat) : Int) from rfl, bin_shl]
  congr 2
  rw [show min 32 IntKind.i64.bits = 32 from rfl, IntKind.wrap_i64]; omega
theorem ishr32 (x : Int) : aBin .shr (.int .i64 x) (.int .u64 32) = some (.int .i64 (x / 4294967296)) := by
  rw [show (AVal.int .u64 32) = .int .u64 ((32 : Nat) : Int) from rfl, bin_shr]
  congr 2
  rw [show min 32 IntKind.i64.bits = 32 from rfl, Int.fdiv_eq_ediv_of_nonneg _ (by decide)]
  rfl
theorem uw {a : Nat} (h : a < 18446744073709551616) : IntKind.u64.wrap (a : Int) = (a : Int) := wrapU64' (Int.natCast_nonneg _) (by omega)
theorem wmul {a b : Nat} (h : a * b < 18446744073709551616) : IntKind.u64.wrap ((a : Int) * (b : Int)) = ((a * b : Nat) : Int) := by
  rw [show (a : Int) * b = ((a * b : Nat) : Int) by simp]; exact uw h
theorem wmulw (a b : Nat) : IntKind.u64.wrap ((a : Int) * (b : Int)) = ((a * b % 18446744073709551616 : Nat) : Int) := by
  rw [show (a : Int) * b = ((a * b : Nat) : Int) by simp, IntKind.wrap_u64]
  generalize a * b = c; omega
theorem wadd {a b : Nat} (h : a + b < 18446744073709551616) : IntKind.u64.wrap ((a : Int) + (b : Int)) = ((a + b : Nat) : Int) := by
  rw [show (a : Int) + b = ((a + b : Nat) : Int) by simp]; exact uw h
theorem wsub {a b : Nat} (h : b ≤ a) (ha : a < 18446744073709551616) : IntKind.u64.wrap ((a : Int) - (b : Int)) = ((a - b : Nat) : Int) := by
  rw [show (a : Int) - b = ((a - b : Nat) : Int) by omega]; exact uw (by omega)
theorem orU64 {a b : Nat} (ha : a < 18446744073709551616) (hb : b < 18446744073709551616) : aBin .or (.int .u64 (a : Int)) (.int .u64 (b : Int)) = some (.int .u64 ((a ||| b : Nat) : Int)) := by
  have e : (BitVec.ofInt IntKind.u64.bits (a : Int) ||| BitVec.ofInt IntKind.u64.bits (b : Int)).toNat = a ||| b := by
    rw [BitVec.toNat_or, ofInt_nat, ofInt_nat]
    have h1 : a % 2 ^ IntKind.u64.bits = a := Nat.mod_eq_of_lt (by simp only [IntKind.bits]; omega)
    have h2 : b % 2 ^ IntKind.u64.bits = b := Nat.mod_eq_of_lt (by simp only [IntKind.bits]; omega)
    rw [h1, h2]
  simp only [aBin, isShift, cond_false, if_true, aIntF_eq, aInt, e]
  have h3 : a ||| b < 2 ^ 64 := Nat.or_lt_two_pow (by omega) (by omega)
  rw [uw (by omega)]
theorem lt32_mul {a b : Nat} (ha : a < 4294967296) (hb : b < 4294967296) : a * b ≤ 18446744065119617025 :=
  Nat.mul_le_mul (show a ≤ 4294967295 by omega) (show b ≤ 4294967295 by omega)
/-- the two halves of a product, reckoned by halves -/
theorem halves (x y : Nat) : ∃ ac ad bc bd : Nat, ac = (x / 4294967296) * (y / 4294967296) ∧ ad = (x / 4294967296) * (y % 4294967296) ∧ bc = (x % 4294967296) * (y / 4294967296) ∧ bd = (x % 4294967296) * (y % 4294967296) ∧
    x * y = ac * 18446744073709551616 + (ad + bc) * 4294967296 + bd := by
  refine ⟨_, _, _, _, rfl, rfl, rfl, rfl, ?_⟩
  have hx : x = (x / 4294967296) * 4294967296 + x % 4294967296 := by omega
  have hy : y = (y / 4294967296) * 4294967296 + y % 4294967296 := by omega
  generalize x / 4294967296 = a at *
  generalize x % 4294967296 = b at *
  generalize y / 4294967296 = c at *
  generalize y % 4294967296 = d at *
  subst hx hy
  simp only [Nat.add_mul, Nat.mul_add]
  have e1 : a * 4294967296 * (c * 4294967296) = a * c * 18446744073709551616 := by
    rw [Nat.mul_mul_mul_comm]
  have e2 : a * 4294967296 * d = a * d * 4294967296 := by rw [Nat.mul_right_comm]
  have e3 : b * (c * 4294967296) = b * c * 4294967296 := by rw [Nat.mul_assoc]
  rw [e1, e2, e3]; omega
end Go.Proofs.Tx
