/- Part of a proof (TImageNone L1); no condition. -/
import Derived.Test.YtakecdepecjehaaGreatProg
import Derived.KernelRfl
import Derived.WalkKit
import Derived.Below
import Derived.ChangeSame
import Derived.ReadAgain
import Derived.OpenShut
import Derived.ProofKit
import Derived.Test.YtakecdepecjehaaGreatP9
import Derived.Test.YtakecdepecjehaaGreatP11
set_option linter.unusedSimpArgs false
set_option linter.unusedVariables false
set_option linter.unnecessarySimpa false
/- A table of functions for the fast machine, each compiled of the program's own. Printed by program. -/
namespace Go.Abs.TImageNone
open Go.Abs Go.Abs.F
noncomputable section
theorem zl132_0 : resL (dOf 83076749739013472444290682692143104) [⟨(some 11), .mv (.t 3), none⟩, ⟨(some 12), .fieldA 0 (.t 1), none⟩, ⟨(some 13), .load false 1 (.t 12), none⟩, ⟨(some 14), .callv (.t 11) [(.t 13), (.c (.int .i64 (.ofNat 1))), (.c (.int .i64 (.ofNat 1024)))], none⟩, ⟨(some 15), .mv (.t 14), none⟩, ⟨(some 16), .mv (.t 3), (some (15, true))⟩, ⟨(some 17), .fieldA 1 (.t 1), (some (15, true))⟩, ⟨(some 18), .load false 1 (.t 17), (some (15, true))⟩, ⟨(some 19), .callv (.t 16) [(.t 18), (.c (.int .i64 (.ofNat 1))), (.c (.int .i64 (.ofNat 1024)))], (some (15, true))⟩, ⟨(some 20), .pick (.t 15) (.t 19) (.c (.bool false)), none⟩, ⟨(some 21), .mv (.t 20), none⟩, ⟨(some 22), .mv (.t 3), (some (21, true))⟩, ⟨(some 23), .fieldA 2 (.t 1), (some (21, true))⟩, ⟨(some 24), .load false 1 (.t 23), (some (21, true))⟩, ⟨(some 25), .callv (.t 22) [(.t 24), (.c (.int .i64 (.ofNat 1))), (.c (.int .i64 (.ofNat 64)))], (some (21, true))⟩, ⟨(some 26), .pick (.t 21) (.t 25) (.c (.bool false)), none⟩, ⟨(some 27), .mv (.t 26), none⟩, ⟨(some 28), .mv (.t 3), (some (27, true))⟩, ⟨(some 29), .fieldA 3 (.t 1), (some (27, true))⟩, ⟨(some 30), .load false 1 (.t 29), (some (27, true))⟩, ⟨(some 31), .callv (.t 28) [(.t 30), (.c (.int .i64 (.ofNat 0))), (.c (.int .i64 (.ofNat 8)))], (some (27, true))⟩, ⟨(some 32), .pick (.t 27) (.t 31) (.c (.bool false)), none⟩, ⟨(some 33), .mv (.t 32), none⟩, ⟨(some 34), .fieldA 5 (.t 1), (some (33, true))⟩, ⟨(some 35), .load true 3 (.t 34), (some (33, true))⟩, ⟨(some 36), .call 159 [(.t 35)], (some (33, true))⟩, ⟨(some 37), .pick (.t 33) (.t 36) (.c (.bool false)), none⟩, ⟨(some 38), .mv (.t 37), none⟩, ⟨(some 39), .fieldA 8 (.t 1), (some (38, true))⟩, ⟨(some 40), .load true 3 (.t 39), (some (38, true))⟩, ⟨(some 41), .call 159 [(.t 40)], (some (38, true))⟩, ⟨(some 42), .pick (.t 38) (.t 41) (.c (.bool false)), none⟩, ⟨(some 43), .mv (.t 42), none⟩, ⟨(some 44), .fieldA 11 (.t 1), (some (43, true))⟩, ⟨(some 45), .load true 3 (.t 44), (some (43, true))⟩, ⟨(some 46), .call 159 [(.t 45)], (some (43, true))⟩, ⟨(some 47), .pick (.t 43) (.t 46) (.c (.bool false)), none⟩, ⟨(some 48), .mv (.t 47), none⟩, ⟨(some 49), .fieldA 14 (.t 1), (some (48, true))⟩, ⟨(some 50), .load false 1 (.t 49), (some (48, true))⟩, ⟨(some 51), .bin .lss (.c (.int .i64 (.ofNat 0))) (.t 50), (some (48, true))⟩, ⟨(some 52), .pick (.t 48) (.t 51) (.c (.bool false)), none⟩, ⟨(some 53), .mv (.t 52), none⟩, ⟨(some 54), .fieldA 14 (.t 1), (some (53, true))⟩, ⟨(some 55), .load false 1 (.t 54), (some (53, true))⟩, ⟨(some 56), .bin .leq (.t 55) (.c (.int .i64 (.ofNat 429496729600))), (some (53, true))⟩, ⟨(some 57), .pick (.t 53) (.t 56) (.c (.bool false)), none⟩, ⟨(some 58), .mv (.t 57), none⟩, ⟨(some 59), .fieldA 15 (.t 1), (some (58, true))⟩, ⟨(some 60), .load true 3 (.t 59), (some (58, true))⟩, ⟨(some 61), .call 160 [(.t 60), (.c (.int .i64 (.ofNat 0))), (.c (.int .i64 (.ofNat 274877906944)))], (some (58, true))⟩, ⟨(some 62), .pick (.t 58) (.t 61) (.c (.bool false)), none⟩, ⟨(some 63), .mv (.t 62), none⟩, ⟨(some 64), .fieldA 18 (.t 1), (some (63, true))⟩, ⟨(some 65), .load false 1 (.t 64), (some (63, true))⟩, ⟨(some 66), .len false (.t 65), (some (63, true))⟩, ⟨(some 67), .bin .leq (.t 66) (.c (.int .i64 (.ofNat 64))), (some (63, true))⟩, ⟨(some 68), .pick (.t 63) (.t 67) (.c (.bool false)), none⟩, ⟨(some 69), .mv (.t 68), none⟩, ⟨(some 70), .fieldA 19 (.t 1), (some (69, true))⟩, ⟨(some 71), .load false 1 (.t 70), (some (69, true))⟩, ⟨(some 72), .len false (.t 71), (some (69, true))⟩, ⟨(some 73), .bin .leq (.t 72) (.c (.int .i64 (.ofNat 256))), (some (69, true))⟩, ⟨(some 74), .pick (.t 69) (.t 73) (.c (.bool false)), none⟩, ⟨(some 75), .mv (.t 74), none⟩, ⟨(some 76), .fieldA 20 (.t 1), (some (75, true))⟩, ⟨(some 77), .load false 1 (.t 76), (some (75, true))⟩, ⟨(some 78), .len false (.t 77), (some (75, true))⟩, ⟨(some 79), .bin .leq (.t 78) (.c (.int .i64 (.ofNat 16))), (some (75, true))⟩, ⟨(some 80), .pick (.t 75) (.t 79) (.c (.bool false)), none⟩, ⟨(some 4), .mv (.t 80), none⟩] [] = [⟨.fieldA 0 (.t 1), none, (some 12)⟩, ⟨.load false 1 (.t 12), none, (some 13)⟩, ⟨.callv (.t 3) [(.t 13), (.c (.int .i64 (.ofNat 1))), (.c (.int .i64 (.ofNat 1024)))], none, (some 14)⟩, ⟨.fieldA 1 (.t 1), (some (14, true)), (some 17)⟩, ⟨.load false 1 (.t 17), (some (14, true)), (some 18)⟩, ⟨.callv (.t 3) [(.t 18), (.c (.int .i64 (.ofNat 1))), (.c (.int .i64 (.ofNat 1024)))], (some (14, true)), (some 19)⟩, ⟨.pick (.t 14) (.t 19) (.c (.bool false)), none, (some 20)⟩, ⟨.fieldA 2 (.t 1), (some (20, true)), (some 23)⟩, ⟨.load false 1 (.t 23), (some (20, true)), (some 24)⟩, ⟨.callv (.t 3) [(.t 24), (.c (.int .i64 (.ofNat 1))), (.c (.int .i64 (.ofNat 64)))], (some (20, true)), (some 25)⟩, ⟨.pick (.t 20) (.t 25) (.c (.bool false)), none, (some 26)⟩, ⟨.fieldA 3 (.t 1), (some (26, true)), (some 29)⟩, ⟨.load false 1 (.t 29), (some (26, true)), (some 30)⟩, ⟨.callv (.t 3) [(.t 30), (.c (.int .i64 (.ofNat 0))), (.c (.int .i64 (.ofNat 8)))], (some (26, true)), (some 31)⟩, ⟨.pick (.t 26) (.t 31) (.c (.bool false)), none, (some 32)⟩, ⟨.fieldA 5 (.t 1), (some (32, true)), (some 34)⟩, ⟨.load true 3 (.t 34), (some (32, true)), (some 35)⟩, ⟨.call 159 [(.t 35)], (some (32, true)), (some 36)⟩, ⟨.pick (.t 32) (.t 36) (.c (.bool false)), none, (some 37)⟩, ⟨.fieldA 8 (.t 1), (some (37, true)), (some 39)⟩, ⟨.load true 3 (.t 39), (some (37, true)), (some 40)⟩, ⟨.call 159 [(.t 40)], (some (37, true)), (some 41)⟩, ⟨.pick (.t 37) (.t 41) (.c (.bool false)), none, (some 42)⟩, ⟨.fieldA 11 (.t 1), (some (42, true)), (some 44)⟩, ⟨.load true 3 (.t 44), (some (42, true)), (some 45)⟩, ⟨.call 159 [(.t 45)], (some (42, true)), (some 46)⟩, ⟨.pick (.t 42) (.t 46) (.c (.bool false)), none, (some 47)⟩, ⟨.fieldA 14 (.t 1), (some (47, true)), (some 49)⟩, ⟨.load false 1 (.t 49), (some (47, true)), (some 50)⟩, ⟨.bin .lss (.c (.int .i64 (.ofNat 0))) (.t 50), (some (47, true)), (some 51)⟩, ⟨.pick (.t 47) (.t 51) (.c (.bool false)), none, (some 52)⟩, ⟨.fieldA 14 (.t 1), (some (52, true)), (some 54)⟩, ⟨.load false 1 (.t 54), (some (52, true)), (some 55)⟩, ⟨.bin .leq (.t 55) (.c (.int .i64 (.ofNat 429496729600))), (some (52, true)), (some 56)⟩, ⟨.pick (.t 52) (.t 56) (.c (.bool false)), none, (some 57)⟩, ⟨.fieldA 15 (.t 1), (some (57, true)), (some 59)⟩, ⟨.load true 3 (.t 59), (some (57, true)), (some 60)⟩, ⟨.call 160 [(.t 60), (.c (.int .i64 (.ofNat 0))), (.c (.int .i64 (.ofNat 274877906944)))], (some (57, true)), (some 61)⟩, ⟨.pick (.t 57) (.t 61) (.c (.bool false)), none, (some 62)⟩, ⟨.fieldA 18 (.t 1), (some (62, true)), (some 64)⟩, ⟨.load false 1 (.t 64), (some (62, true)), (some 65)⟩, ⟨.len false (.t 65), (some (62, true)), (some 66)⟩, ⟨.bin .leq (.t 66) (.c (.int .i64 (.ofNat 64))), (some (62, true)), (some 67)⟩, ⟨.pick (.t 62) (.t 67) (.c (.bool false)), none, (some 68)⟩, ⟨.fieldA 19 (.t 1), (some (68, true)), (some 70)⟩, ⟨.load false 1 (.t 70), (some (68, true)), (some 71)⟩, ⟨.len false (.t 71), (some (68, true)), (some 72)⟩, ⟨.bin .leq (.t 72) (.c (.int .i64 (.ofNat 256))), (some (68, true)), (some 73)⟩, ⟨.pick (.t 68) (.t 73) (.c (.bool false)), none, (some 74)⟩, ⟨.fieldA 20 (.t 1), (some (74, true)), (some 76)⟩, ⟨.load false 1 (.t 76), (some (74, true)), (some 77)⟩, ⟨.len false (.t 77), (some (74, true)), (some 78)⟩, ⟨.bin .leq (.t 78) (.c (.int .i64 (.ofNat 16))), (some (74, true)), (some 79)⟩, ⟨.pick (.t 74) (.t 79) (.c (.bool false)), none, (some 80)⟩, ⟨.mv (.t 80), none, (some 4)⟩] := by kernel_rfl
theorem zh132_0 : fCode (dOf 83076749739013472444290682692143104) [] x132_0 = y132_0 := hv_reg zl132_0 (by kernel_rfl)
def F132 : Go.Abs.F.Fn := G132 y132_0
theorem za132 : cFn Go.Proofs.Tryz.prog 132 = some (c132 x132_0) := by kernel_rfl
theorem zg132 (X0 : ACode) : fFn (dOf 83076749739013472444290682692143104) (c132 X0) = G132 (fCode (dOf 83076749739013472444290682692143104) [] X0) := by kernel_rfl
theorem k132 : cF Go.Proofs.Tryz.prog 83076749739013472444290682692143104 132 = some F132 := cF_of za132 ((zg132 x132_0).trans (by rw [zh132_0]; rfl))
theorem k12 : cF Go.Proofs.Tryz.prog 11017903051541413888 12 = some F12 := by kernel_rfl
theorem k48 : cF Go.Proofs.Tryz.prog 4240 48 = some F48 := by kernel_rfl
theorem k31 : cF Go.Proofs.Tryz.prog 1128 31 = some F31 := by kernel_rfl
theorem k49 : cF Go.Proofs.Tryz.prog 1603968 49 = some F49 := by kernel_rfl
theorem k99 : cF Go.Proofs.Tryz.prog 104864 99 = some F99 := by kernel_rfl
theorem k100 : cF Go.Proofs.Tryz.prog 0 100 = some F100 := by kernel_rfl
theorem k143 : cF Go.Proofs.Tryz.prog 0 143 = some F143 := by kernel_rfl
theorem k172 : cF Go.Proofs.Tryz.prog 0 172 = some F172 := by kernel_rfl
theorem k102 : cF Go.Proofs.Tryz.prog 0 102 = some F102 := by kernel_rfl
theorem k101 : cF Go.Proofs.Tryz.prog 35671347576832 101 = some F101 := by kernel_rfl
theorem k144 : cF Go.Proofs.Tryz.prog 0 144 = some F144 := by kernel_rfl
theorem k50 : cF Go.Proofs.Tryz.prog 52416 50 = some F50 := by kernel_rfl
theorem k103 : cF Go.Proofs.Tryz.prog 59392 103 = some F103 := by kernel_rfl
theorem k13 : cF Go.Proofs.Tryz.prog 1128 13 = some F13 := by kernel_rfl
theorem k14 : cF Go.Proofs.Tryz.prog 19680965154260151424 14 = some F14 := by kernel_rfl
theorem k51 : cF Go.Proofs.Tryz.prog 1544 51 = some F51 := by kernel_rfl
theorem k17 : cF Go.Proofs.Tryz.prog 264392 17 = some F17 := by kernel_rfl
theorem k52 : cF Go.Proofs.Tryz.prog 7971663007406410853490902214676736 52 = some F52 := by kernel_rfl
theorem k104 : cF Go.Proofs.Tryz.prog 2165407968 104 = some F104 := by kernel_rfl
theorem k145 : cF Go.Proofs.Tryz.prog 13729666095211597809543937109681248458752 145 = some F145 := by kernel_rfl
theorem k173 : cF Go.Proofs.Tryz.prog 262144 173 = some F173 := by kernel_rfl
theorem k194 : cF Go.Proofs.Tryz.prog 37472 194 = some F194 := by kernel_rfl
theorem k176 : cF Go.Proofs.Tryz.prog 15573760 176 = some F176 := by kernel_rfl
theorem k201 : cF Go.Proofs.Tryz.prog 4383068672 201 = some F201 := by kernel_rfl
theorem k214 : cF Go.Proofs.Tryz.prog 3295424 214 = some F214 := by kernel_rfl
theorem k174 : cF Go.Proofs.Tryz.prog 138441984 174 = some F174 := by kernel_rfl
theorem k195 : cF Go.Proofs.Tryz.prog 16592 195 = some F195 := by kernel_rfl
theorem k196 : cF Go.Proofs.Tryz.prog 10945040896 196 = some F196 := by kernel_rfl
theorem k197 : cF Go.Proofs.Tryz.prog 11312055086252864 197 = some F197 := by kernel_rfl
theorem k210 : cF Go.Proofs.Tryz.prog 4709359358436044488239342792112245480527395062849235582976 210 = some F210 := by kernel_rfl
theorem k219 : cF Go.Proofs.Tryz.prog 2348911373599212064 219 = some F219 := by kernel_rfl
theorem k220 : cF Go.Proofs.Tryz.prog 570053900344240924861232989516800521363801079808 220 = some F220 := by kernel_rfl
theorem k235 : cF Go.Proofs.Tryz.prog 1568 235 = some F235 := by kernel_rfl
theorem k221 : cF Go.Proofs.Tryz.prog 1611016192 221 = some F221 := by kernel_rfl
theorem k222 : cF Go.Proofs.Tryz.prog 55659040 222 = some F222 := by kernel_rfl
theorem k239 : cF Go.Proofs.Tryz.prog 2336 239 = some F239 := by kernel_rfl
theorem k245 : cF Go.Proofs.Tryz.prog 17966152 245 = some F245 := by kernel_rfl
theorem k247 : cF Go.Proofs.Tryz.prog 5192 247 = some F247 := by kernel_rfl
theorem k236 : cF Go.Proofs.Tryz.prog 3465426432 236 = some F236 := by kernel_rfl
theorem k237 : cF Go.Proofs.Tryz.prog 8 237 = some F237 := by kernel_rfl
theorem k238 : cF Go.Proofs.Tryz.prog 8 238 = some F238 := by kernel_rfl
theorem k223 : cF Go.Proofs.Tryz.prog 8296 223 = some F223 := by kernel_rfl
theorem k224 : cF Go.Proofs.Tryz.prog 80821125712826269220477440 224 = some F224 := by kernel_rfl
theorem k225 : cF Go.Proofs.Tryz.prog 8 225 = some F225 := by kernel_rfl
theorem k213 : cF Go.Proofs.Tryz.prog 24680 213 = some F213 := by kernel_rfl
theorem k211 : cF Go.Proofs.Tryz.prog 825464463496 211 = some F211 := by kernel_rfl
theorem k212 : cF Go.Proofs.Tryz.prog 1144421217239456 212 = some F212 := by kernel_rfl
theorem k199 : cF Go.Proofs.Tryz.prog 0 199 = some F199 := by kernel_rfl
theorem k198 : cF Go.Proofs.Tryz.prog 51978624 198 = some F198 := by kernel_rfl
theorem k175 : cF Go.Proofs.Tryz.prog 8935732157760 175 = some F175 := by kernel_rfl
theorem k200 : cF Go.Proofs.Tryz.prog 9226131218640 200 = some F200 := by kernel_rfl
theorem k6 : cF Go.Proofs.Tryz.prog 178644350080 6 = some F6 := by kernel_rfl
theorem k32 : cF Go.Proofs.Tryz.prog 9224 32 = some F32 := by kernel_rfl
theorem k67 : cF Go.Proofs.Tryz.prog 2236448 67 = some F67 := by kernel_rfl
theorem k110 : cF Go.Proofs.Tryz.prog 7680 110 = some F110 := by kernel_rfl
theorem k146 : cF Go.Proofs.Tryz.prog 17170688 146 = some F146 := by kernel_rfl
theorem k177 : cF Go.Proofs.Tryz.prog 25368 177 = some F177 := by kernel_rfl
theorem k66 : cF Go.Proofs.Tryz.prog 11400111850886453526528 66 = some F66 := by kernel_rfl
theorem k87 : cF Go.Proofs.Tryz.prog 656 87 = some F87 := by kernel_rfl
theorem k71 : cF Go.Proofs.Tryz.prog 0 71 = some F71 := by kernel_rfl
theorem k81 : cF Go.Proofs.Tryz.prog 0 81 = some F81 := by kernel_rfl
theorem k109 : cF Go.Proofs.Tryz.prog 26117952 109 = some F109 := by kernel_rfl
theorem k75 : cF Go.Proofs.Tryz.prog 0 75 = some F75 := by kernel_rfl
theorem k116 : cF Go.Proofs.Tryz.prog 0 116 = some F116 := by kernel_rfl
theorem k78 : cF Go.Proofs.Tryz.prog 0 78 = some F78 := by kernel_rfl
theorem k41 : cF Go.Proofs.Tryz.prog 0 41 = some F41 := by kernel_rfl
theorem k82 : cF Go.Proofs.Tryz.prog 156785408 82 = some F82 := by kernel_rfl
theorem k124 : cF Go.Proofs.Tryz.prog 160 124 = some F124 := by kernel_rfl
theorem k155 : cF Go.Proofs.Tryz.prog 9856 155 = some F155 := by kernel_rfl
theorem k156 : cF Go.Proofs.Tryz.prog 1330432 156 = some F156 := by kernel_rfl
theorem k126 : cF Go.Proofs.Tryz.prog 296 126 = some F126 := by kernel_rfl
theorem k125 : cF Go.Proofs.Tryz.prog 891955568787456 125 = some F125 := by kernel_rfl
theorem k91 : cF Go.Proofs.Tryz.prog 26117952 91 = some F91 := by kernel_rfl
theorem k129 : cF Go.Proofs.Tryz.prog 54552775922688 129 = some F129 := by kernel_rfl
theorem k117 : cF Go.Proofs.Tryz.prog 64 117 = some F117 := by kernel_rfl
theorem k85 : cF Go.Proofs.Tryz.prog 15141728569344 85 = some F85 := by kernel_rfl
theorem k127 : cF Go.Proofs.Tryz.prog 13157635086526614823417250166103945510912 127 = some F127 := by kernel_rfl
theorem k157 : cF Go.Proofs.Tryz.prog 8 157 = some F157 := by kernel_rfl
theorem k188 : cF Go.Proofs.Tryz.prog 1747624 188 = some F188 := by kernel_rfl
theorem k76 : cF Go.Proofs.Tryz.prog 0 76 = some F76 := by kernel_rfl
theorem k77 : cF Go.Proofs.Tryz.prog 0 77 = some F77 := by kernel_rfl
theorem k118 : cF Go.Proofs.Tryz.prog 64 118 = some F118 := by kernel_rfl
theorem k72 : cF Go.Proofs.Tryz.prog 0 72 = some F72 := by kernel_rfl
theorem k9 : cF Go.Proofs.Tryz.prog 2192 9 = some F9 := by kernel_rfl
theorem k35 : cF Go.Proofs.Tryz.prog 1128 35 = some F35 := by kernel_rfl
theorem k8 : cF Go.Proofs.Tryz.prog 9300740748536081664447154778411525841948804912595632128 8 = some F8 := by kernel_rfl
theorem k7 : cF Go.Proofs.Tryz.prog 28823895234784133120 7 = some F7 := by kernel_rfl
theorem k34 : cF Go.Proofs.Tryz.prog 0 34 = some F34 := by kernel_rfl
theorem k33 : cF Go.Proofs.Tryz.prog 21905682568244545991234218217520229253120 33 = some F33 := by kernel_rfl
theorem k111 : cF Go.Proofs.Tryz.prog 45996679168 111 = some F111 := by kernel_rfl
theorem k69 : cF Go.Proofs.Tryz.prog 1364912136056145823203328 69 = some F69 := by kernel_rfl
theorem k73 : cF Go.Proofs.Tryz.prog 0 73 = some F73 := by kernel_rfl
theorem k112 : cF Go.Proofs.Tryz.prog 0 112 = some F112 := by kernel_rfl
theorem k113 : cF Go.Proofs.Tryz.prog 1974938390063218688 113 = some F113 := by kernel_rfl
theorem k148 : cF Go.Proofs.Tryz.prog 59392 148 = some F148 := by kernel_rfl
theorem k147 : cF Go.Proofs.Tryz.prog 768610029992411136 147 = some F147 := by kernel_rfl
theorem k120 : cF Go.Proofs.Tryz.prog 40 120 = some F120 := by kernel_rfl
theorem k74 : cF Go.Proofs.Tryz.prog 55868155904 74 = some F74 := by kernel_rfl
theorem k115 : cF Go.Proofs.Tryz.prog 1081455647764259264266240 115 = some F115 := by kernel_rfl
theorem k70 : cF Go.Proofs.Tryz.prog 1048832 70 = some F70 := by kernel_rfl
theorem k36 : cF Go.Proofs.Tryz.prog 0 36 = some F36 := by kernel_rfl
theorem k37 : cF Go.Proofs.Tryz.prog 37757444 37 = some F37 := by kernel_rfl
theorem k38 : cF Go.Proofs.Tryz.prog 1152921784887869440 38 = some F38 := by kernel_rfl
theorem k79 : cF Go.Proofs.Tryz.prog 0 79 = some F79 := by kernel_rfl
theorem k119 : cF Go.Proofs.Tryz.prog 32 119 = some F119 := by kernel_rfl
theorem k39 : cF Go.Proofs.Tryz.prog 0 39 = some F39 := by kernel_rfl
theorem k40 : cF Go.Proofs.Tryz.prog 2336462209024 40 = some F40 := by kernel_rfl
theorem k80 : cF Go.Proofs.Tryz.prog 0 80 = some F80 := by kernel_rfl
theorem k121 : cF Go.Proofs.Tryz.prog 29273397594948096 121 = some F121 := by kernel_rfl
theorem k149 : cF Go.Proofs.Tryz.prog 188575365543088186134768831629112219941166518272 149 = some F149 := by kernel_rfl
theorem k178 : cF Go.Proofs.Tryz.prog 53248 178 = some F178 := by kernel_rfl
theorem k179 : cF Go.Proofs.Tryz.prog 928 179 = some F179 := by kernel_rfl
theorem k122 : cF Go.Proofs.Tryz.prog 8 122 = some F122 := by kernel_rfl
theorem k123 : cF Go.Proofs.Tryz.prog 151115727451828646838272 123 = some F123 := by kernel_rfl
theorem k150 : cF Go.Proofs.Tryz.prog 0 150 = some F150 := by kernel_rfl
theorem k181 : cF Go.Proofs.Tryz.prog 16 181 = some F181 := by kernel_rfl
theorem k180 : cF Go.Proofs.Tryz.prog 0 180 = some F180 := by kernel_rfl
theorem k151 : cF Go.Proofs.Tryz.prog 0 151 = some F151 := by kernel_rfl
theorem k182 : cF Go.Proofs.Tryz.prog 16 182 = some F182 := by kernel_rfl
theorem k152 : cF Go.Proofs.Tryz.prog 0 152 = some F152 := by kernel_rfl
theorem k183 : cF Go.Proofs.Tryz.prog 8 183 = some F183 := by kernel_rfl
theorem k153 : cF Go.Proofs.Tryz.prog 2818572288 153 = some F153 := by kernel_rfl
theorem k185 : cF Go.Proofs.Tryz.prog 6336 185 = some F185 := by kernel_rfl
theorem k90 : cF Go.Proofs.Tryz.prog 8 90 = some F90 := by kernel_rfl
theorem k186 : cF Go.Proofs.Tryz.prog 256 186 = some F186 := by kernel_rfl
theorem k154 : cF Go.Proofs.Tryz.prog 123606553350609550457937084908544 154 = some F154 := by kernel_rfl
theorem k187 : cF Go.Proofs.Tryz.prog 0 187 = some F187 := by kernel_rfl
theorem k131 : cF Go.Proofs.Tryz.prog 435832566207808 131 = some F131 := by kernel_rfl
theorem k130 : cF Go.Proofs.Tryz.prog 8 130 = some F130 := by kernel_rfl
theorem k42 : cF Go.Proofs.Tryz.prog 0 42 = some F42 := by kernel_rfl
theorem k83 : cF Go.Proofs.Tryz.prog 0 83 = some F83 := by kernel_rfl
theorem k84 : cF Go.Proofs.Tryz.prog 8 84 = some F84 := by kernel_rfl
theorem k43 : cF Go.Proofs.Tryz.prog 18437745953603856 43 = some F43 := by kernel_rfl
theorem k44 : cF Go.Proofs.Tryz.prog 8796093022464 44 = some F44 := by kernel_rfl
theorem k86 : cF Go.Proofs.Tryz.prog 318180425728 86 = some F86 := by kernel_rfl
theorem k128 : cF Go.Proofs.Tryz.prog 0 128 = some F128 := by kernel_rfl
theorem k105 : cF Go.Proofs.Tryz.prog 6272 105 = some F105 := by kernel_rfl
theorem k10 : cF Go.Proofs.Tryz.prog 278728 10 = some F10 := by kernel_rfl
theorem k45 : cF Go.Proofs.Tryz.prog 256 45 = some F45 := by kernel_rfl
theorem k88 : cF Go.Proofs.Tryz.prog 16 88 = some F88 := by kernel_rfl
theorem k89 : cF Go.Proofs.Tryz.prog 8 89 = some F89 := by kernel_rfl
theorem k15 : cF Go.Proofs.Tryz.prog 73434949184 15 = some F15 := by kernel_rfl
theorem k53 : cF Go.Proofs.Tryz.prog 72 53 = some F53 := by kernel_rfl
theorem k16 : cF Go.Proofs.Tryz.prog 72 16 = some F16 := by kernel_rfl
theorem k18 : cF Go.Proofs.Tryz.prog 104 18 = some F18 := by kernel_rfl
theorem k19 : cF Go.Proofs.Tryz.prog 72 19 = some F19 := by kernel_rfl
theorem k20 : cF Go.Proofs.Tryz.prog 230142187074368544 20 = some F20 := by kernel_rfl
theorem k54 : cF Go.Proofs.Tryz.prog 10260 54 = some F54 := by kernel_rfl
theorem k47 : cF Go.Proofs.Tryz.prog 548063114339455093633094479544072841117013377024 47 = some F47 := by kernel_rfl
theorem k92 : cF Go.Proofs.Tryz.prog 12028441316665788203008 92 = some F92 := by kernel_rfl
theorem k158 : cF Go.Proofs.Tryz.prog 7552 158 = some F158 := by kernel_rfl
theorem k159 : cF Go.Proofs.Tryz.prog 0 159 = some F159 := by kernel_rfl
theorem k160 : cF Go.Proofs.Tryz.prog 1597952 160 = some F160 := by kernel_rfl
theorem k189 : cF Go.Proofs.Tryz.prog 832 189 = some F189 := by kernel_rfl
theorem k161 : cF Go.Proofs.Tryz.prog 145137749526528 161 = some F161 := by kernel_rfl
theorem k163 : cF Go.Proofs.Tryz.prog 57637298037868096 163 = some F163 := by kernel_rfl
theorem k162 : cF Go.Proofs.Tryz.prog 8320 162 = some F162 := by kernel_rfl
theorem k164 : cF Go.Proofs.Tryz.prog 536936448 164 = some F164 := by kernel_rfl
theorem k190 : cF Go.Proofs.Tryz.prog 208 190 = some F190 := by kernel_rfl
theorem k133 : cF Go.Proofs.Tryz.prog 70900518912 133 = some F133 := by kernel_rfl
theorem k165 : cF Go.Proofs.Tryz.prog 8192 165 = some F165 := by kernel_rfl
theorem k166 : cF Go.Proofs.Tryz.prog 49936 166 = some F166 := by kernel_rfl
theorem k191 : cF Go.Proofs.Tryz.prog 104 191 = some F191 := by kernel_rfl
theorem k168 : cF Go.Proofs.Tryz.prog 0 168 = some F168 := by kernel_rfl
theorem k167 : cF Go.Proofs.Tryz.prog 8192 167 = some F167 := by kernel_rfl
theorem k169 : cF Go.Proofs.Tryz.prog 8192 169 = some F169 := by kernel_rfl
theorem k170 : cF Go.Proofs.Tryz.prog 2112 170 = some F170 := by kernel_rfl
theorem k93 : cF Go.Proofs.Tryz.prog 0 93 = some F93 := by kernel_rfl
theorem k134 : cF Go.Proofs.Tryz.prog 72 134 = some F134 := by kernel_rfl
theorem k135 : cF Go.Proofs.Tryz.prog 72 135 = some F135 := by kernel_rfl
theorem k136 : cF Go.Proofs.Tryz.prog 72 136 = some F136 := by kernel_rfl
theorem k95 : cF Go.Proofs.Tryz.prog 0 95 = some F95 := by kernel_rfl
theorem k94 : cF Go.Proofs.Tryz.prog 70371436920832 94 = some F94 := by kernel_rfl
theorem k137 : cF Go.Proofs.Tryz.prog 72 137 = some F137 := by kernel_rfl
theorem k138 : cF Go.Proofs.Tryz.prog 72 138 = some F138 := by kernel_rfl
theorem k139 : cF Go.Proofs.Tryz.prog 72 139 = some F139 := by kernel_rfl
theorem k140 : cF Go.Proofs.Tryz.prog 1974171723393218715361280 140 = some F140 := by kernel_rfl
theorem k171 : cF Go.Proofs.Tryz.prog 10960303268729098224739163258257408 171 = some F171 := by kernel_rfl
theorem k192 : cF Go.Proofs.Tryz.prog 149619619170304 192 = some F192 := by kernel_rfl
theorem k193 : cF Go.Proofs.Tryz.prog 438430261575680 193 = some F193 := by kernel_rfl
theorem k202 : cF Go.Proofs.Tryz.prog 131328 202 = some F202 := by kernel_rfl
theorem k203 : cF Go.Proofs.Tryz.prog 131328 203 = some F203 := by kernel_rfl
theorem k204 : cF Go.Proofs.Tryz.prog 131328 204 = some F204 := by kernel_rfl
theorem k206 : cF Go.Proofs.Tryz.prog 0 206 = some F206 := by kernel_rfl
theorem k208 : cF Go.Proofs.Tryz.prog 443008 208 = some F208 := by kernel_rfl
theorem k217 : cF Go.Proofs.Tryz.prog 24 217 = some F217 := by kernel_rfl
theorem k209 : cF Go.Proofs.Tryz.prog 443008 209 = some F209 := by kernel_rfl
theorem k218 : cF Go.Proofs.Tryz.prog 24 218 = some F218 := by kernel_rfl
theorem k207 : cF Go.Proofs.Tryz.prog 176128 207 = some F207 := by kernel_rfl
theorem k205 : cF Go.Proofs.Tryz.prog 5024 205 = some F205 := by kernel_rfl
theorem k216 : cF Go.Proofs.Tryz.prog 72 216 = some F216 := by kernel_rfl
theorem k234 : cF Go.Proofs.Tryz.prog 27304 234 = some F234 := by kernel_rfl
theorem k215 : cF Go.Proofs.Tryz.prog 261227577789726281918231944614624440600231936 215 = some F215 := by kernel_rfl
theorem k226 : cF Go.Proofs.Tryz.prog 437502983713792 226 = some F226 := by kernel_rfl
theorem k227 : cF Go.Proofs.Tryz.prog 559323718427533312 227 = some F227 := by kernel_rfl
theorem k240 : cF Go.Proofs.Tryz.prog 2485066394502540286439424 240 = some F240 := by kernel_rfl
theorem k228 : cF Go.Proofs.Tryz.prog 7187420170209812480 228 = some F228 := by kernel_rfl
theorem k241 : cF Go.Proofs.Tryz.prog 8 241 = some F241 := by kernel_rfl
theorem k242 : cF Go.Proofs.Tryz.prog 1092653128 242 = some F242 := by kernel_rfl
theorem k229 : cF Go.Proofs.Tryz.prog 5277918502945914880 229 = some F229 := by kernel_rfl
theorem k243 : cF Go.Proofs.Tryz.prog 112128 243 = some F243 := by kernel_rfl
theorem k244 : cF Go.Proofs.Tryz.prog 1235067854848 244 = some F244 := by kernel_rfl
theorem k246 : cF Go.Proofs.Tryz.prog 4035342336 246 = some F246 := by kernel_rfl
theorem k230 : cF Go.Proofs.Tryz.prog 5423197184 230 = some F230 := by kernel_rfl
theorem k231 : cF Go.Proofs.Tryz.prog 135390383378390725004005626101003168948224 231 = some F231 := by kernel_rfl
theorem k232 : cF Go.Proofs.Tryz.prog 814361255153507959667417088 232 = some F232 := by kernel_rfl
theorem k233 : cF Go.Proofs.Tryz.prog 201281696329280796823734666125164318409275104834863104 233 = some F233 := by kernel_rfl
theorem k96 : cF Go.Proofs.Tryz.prog 32 96 = some F96 := by kernel_rfl
theorem k97 : cF Go.Proofs.Tryz.prog 0 97 = some F97 := by kernel_rfl
theorem k141 : cF Go.Proofs.Tryz.prog 72 141 = some F141 := by kernel_rfl
theorem k142 : cF Go.Proofs.Tryz.prog 72 142 = some F142 := by kernel_rfl
theorem k98 : cF Go.Proofs.Tryz.prog 0 98 = some F98 := by kernel_rfl
def t0_0 : Option Go.Abs.F.Fn := none
def t0_1 : N8 (Option Go.Abs.F.Fn) := .mk t0_0 t0_0 t0_0 t0_0 t0_0 t0_0 t0_0 t0_0
def t0_2 : N8 (N8 (Option Go.Abs.F.Fn)) := .mk t0_1 t0_1 t0_1 t0_1 t0_1 t0_1 t0_1 t0_1
def t0_3 : N8 (N8 (N8 (Option Go.Abs.F.Fn))) := .mk t0_2 t0_2 t0_2 t0_2 t0_2 t0_2 t0_2 t0_2
def t0_4 : N8 (N8 (N8 (N8 (Option Go.Abs.F.Fn)))) := .mk t0_3 t0_3 t0_3 t0_3 t0_3 t0_3 t0_3 t0_3
def tabT : N8 (N8 (N8 (N8 (Option Go.Abs.F.Fn)))) := (.mk (.mk (.mk (.mk t0_0 t0_0 t0_0 t0_0 (some F4) t0_0 (some F6) (some F7)) (.mk (some F8) (some F9) (some F10) t0_0 (some F12) (some F13) (some F14) (some F15)) (.mk (some F16) (some F17) (some F18) (some F19) (some F20) t0_0 t0_0 t0_0) (.mk t0_0 t0_0 t0_0 t0_0 t0_0 t0_0 t0_0 (some F31)) (.mk (some F32) (some F33) (some F34) (some F35) (some F36) (some F37) (some F38) (some F39)) (.mk (some F40) (some F41) (some F42) (some F43) (some F44) (some F45) t0_0 (some F47)) (.mk (some F48) (some F49) (some F50) (some F51) (some F52) (some F53) (some F54) t0_0) t0_1) (.mk (.mk t0_0 t0_0 (some F66) (some F67) (some F68) (some F69) (some F70) (some F71)) (.mk (some F72) (some F73) (some F74) (some F75) (some F76) (some F77) (some F78) (some F79)) (.mk (some F80) (some F81) (some F82) (some F83) (some F84) (some F85) (some F86) (some F87)) (.mk (some F88) (some F89) (some F90) (some F91) (some F92) (some F93) (some F94) (some F95)) (.mk (some F96) (some F97) (some F98) (some F99) (some F100) (some F101) (some F102) (some F103)) (.mk (some F104) (some F105) t0_0 t0_0 t0_0 (some F109) (some F110) (some F111)) (.mk (some F112) (some F113) (some F114) (some F115) (some F116) (some F117) (some F118) (some F119)) (.mk (some F120) (some F121) (some F122) (some F123) (some F124) (some F125) (some F126) (some F127))) (.mk (.mk (some F128) (some F129) (some F130) (some F131) (some F132) (some F133) (some F134) (some F135)) (.mk (some F136) (some F137) (some F138) (some F139) (some F140) (some F141) (some F142) (some F143)) (.mk (some F144) (some F145) (some F146) (some F147) (some F148) (some F149) (some F150) (some F151)) (.mk (some F152) (some F153) (some F154) (some F155) (some F156) (some F157) (some F158) (some F159)) (.mk (some F160) (some F161) (some F162) (some F163) (some F164) (some F165) (some F166) (some F167)) (.mk (some F168) (some F169) (some F170) (some F171) (some F172) (some F173) (some F174) (some F175)) (.mk (some F176) (some F177) (some F178) (some F179) (some F180) (some F181) (some F182) (some F183)) (.mk (some F184) (some F185) (some F186) (some F187) (some F188) (some F189) (some F190) (some F191))) (.mk (.mk (some F192) (some F193) (some F194) (some F195) (some F196) (some F197) (some F198) (some F199)) (.mk (some F200) (some F201) (some F202) (some F203) (some F204) (some F205) (some F206) (some F207)) (.mk (some F208) (some F209) (some F210) (some F211) (some F212) (some F213) (some F214) (some F215)) (.mk (some F216) (some F217) (some F218) (some F219) (some F220) (some F221) (some F222) (some F223)) (.mk (some F224) (some F225) (some F226) (some F227) (some F228) (some F229) (some F230) (some F231)) (.mk (some F232) (some F233) (some F234) (some F235) (some F236) (some F237) (some F238) (some F239)) (.mk (some F240) (some F241) (some F242) (some F243) (some F244) (some F245) (some F246) (some F247)) t0_1) t0_2 t0_2 t0_2 t0_2) t0_3 t0_3 t0_3 t0_3 t0_3 t0_3 t0_3)
def tab : Tab := tabT
theorem tab_ok : TabF Go.Proofs.Tryz.prog noNat tab := tabF_of (l := [(4, F4), (12, F12), (48, F48), (31, F31), (49, F49), (99, F99), (100, F100), (143, F143), (172, F172), (102, F102), (101, F101), (144, F144), (50, F50), (103, F103), (13, F13), (14, F14), (51, F51), (17, F17), (52, F52), (104, F104), (145, F145), (173, F173), (194, F194), (176, F176), (201, F201), (214, F214), (174, F174), (195, F195), (196, F196), (197, F197), (210, F210), (219, F219), (220, F220), (235, F235), (221, F221), (222, F222), (239, F239), (245, F245), (247, F247), (236, F236), (237, F237), (238, F238), (223, F223), (224, F224), (225, F225), (213, F213), (211, F211), (212, F212), (199, F199), (198, F198), (175, F175), (200, F200), (6, F6), (32, F32), (67, F67), (110, F110), (146, F146), (177, F177), (66, F66), (87, F87), (71, F71), (81, F81), (109, F109), (75, F75), (116, F116), (78, F78), (41, F41), (82, F82), (124, F124), (155, F155), (156, F156), (126, F126), (125, F125), (91, F91), (129, F129), (117, F117), (85, F85), (127, F127), (157, F157), (188, F188), (76, F76), (77, F77), (118, F118), (72, F72), (9, F9), (35, F35), (8, F8), (7, F7), (34, F34), (33, F33), (68, F68), (111, F111), (69, F69), (73, F73), (112, F112), (113, F113), (114, F114), (148, F148), (147, F147), (120, F120), (74, F74), (115, F115), (70, F70), (36, F36), (37, F37), (38, F38), (79, F79), (119, F119), (39, F39), (40, F40), (80, F80), (121, F121), (149, F149), (178, F178), (179, F179), (122, F122), (123, F123), (150, F150), (181, F181), (180, F180), (151, F151), (182, F182), (152, F152), (183, F183), (153, F153), (184, F184), (185, F185), (90, F90), (186, F186), (154, F154), (187, F187), (131, F131), (130, F130), (42, F42), (83, F83), (84, F84), (43, F43), (44, F44), (86, F86), (128, F128), (105, F105), (10, F10), (45, F45), (88, F88), (89, F89), (15, F15), (53, F53), (16, F16), (18, F18), (19, F19), (20, F20), (54, F54), (47, F47), (92, F92), (132, F132), (158, F158), (159, F159), (160, F160), (189, F189), (161, F161), (163, F163), (162, F162), (164, F164), (190, F190), (133, F133), (165, F165), (166, F166), (191, F191), (168, F168), (167, F167), (169, F169), (170, F170), (93, F93), (134, F134), (135, F135), (136, F136), (95, F95), (94, F94), (137, F137), (138, F138), (139, F139), (140, F140), (171, F171), (192, F192), (193, F193), (202, F202), (203, F203), (204, F204), (206, F206), (208, F208), (217, F217), (209, F209), (218, F218), (207, F207), (205, F205), (216, F216), (234, F234), (215, F215), (226, F226), (227, F227), (240, F240), (228, F228), (241, F241), (242, F242), (229, F229), (243, F243), (244, F244), (246, F246), (230, F230), (231, F231), (232, F232), (233, F233), (96, F96), (97, F97), (141, F141), (142, F142), (98, F98)]) (tabF_cons (tabF_cons (tabF_cons (tabF_cons (tabF_cons (tabF_cons (tabF_cons (tabF_cons (tabF_cons (tabF_cons (tabF_cons (tabF_cons (tabF_cons (tabF_cons (tabF_cons (tabF_cons (tabF_cons (tabF_cons (tabF_cons (tabF_cons (tabF_cons (tabF_cons (tabF_cons (tabF_cons (tabF_cons (tabF_cons (tabF_cons (tabF_cons (tabF_cons (tabF_cons (tabF_cons (tabF_cons (tabF_cons (tabF_cons (tabF_cons (tabF_cons (tabF_cons (tabF_cons (tabF_cons (tabF_cons (tabF_cons (tabF_cons (tabF_cons (tabF_cons (tabF_cons (tabF_cons (tabF_cons (tabF_cons (tabF_cons (tabF_cons (tabF_cons (tabF_cons (tabF_cons (tabF_cons (tabF_cons (tabF_cons (tabF_cons (tabF_cons (tabF_cons (tabF_cons (tabF_cons (tabF_cons (tabF_cons (tabF_cons (tabF_cons (tabF_cons (tabF_cons (tabF_cons (tabF_cons (tabF_cons (tabF_cons (tabF_cons (tabF_cons (tabF_cons (tabF_cons (tabF_cons (tabF_cons (tabF_cons (tabF_cons (tabF_cons (tabF_cons (tabF_cons (tabF_cons (tabF_cons (tabF_cons (tabF_cons (tabF_cons (tabF_cons (tabF_cons (tabF_cons (tabF_cons (tabF_cons (tabF_cons (tabF_cons (tabF_cons (tabF_cons (tabF_cons (tabF_cons (tabF_cons (tabF_cons (tabF_cons (tabF_cons (tabF_cons (tabF_cons (tabF_cons (tabF_cons (tabF_cons (tabF_cons (tabF_cons (tabF_cons (tabF_cons (tabF_cons (tabF_cons (tabF_cons (tabF_cons (tabF_cons (tabF_cons (tabF_cons (tabF_cons (tabF_cons (tabF_cons (tabF_cons (tabF_cons (tabF_cons (tabF_cons (tabF_cons (tabF_cons (tabF_cons (tabF_cons (tabF_cons (tabF_cons (tabF_cons (tabF_cons (tabF_cons (tabF_cons (tabF_cons (tabF_cons (tabF_cons (tabF_cons (tabF_cons (tabF_cons (tabF_cons (tabF_cons (tabF_cons (tabF_cons (tabF_cons (tabF_cons (tabF_cons (tabF_cons (tabF_cons (tabF_cons (tabF_cons (tabF_cons (tabF_cons (tabF_cons (tabF_cons (tabF_cons (tabF_cons (tabF_cons (tabF_cons (tabF_cons (tabF_cons (tabF_cons (tabF_cons (tabF_cons (tabF_cons (tabF_cons (tabF_cons (tabF_cons (tabF_cons (tabF_cons (tabF_cons (tabF_cons (tabF_cons (tabF_cons (tabF_cons (tabF_cons (tabF_cons (tabF_cons (tabF_cons (tabF_cons (tabF_cons (tabF_cons (tabF_cons (tabF_cons (tabF_cons (tabF_cons (tabF_cons (tabF_cons (tabF_cons (tabF_cons (tabF_cons (tabF_cons (tabF_cons (tabF_cons (tabF_cons (tabF_cons (tabF_cons (tabF_cons (tabF_cons (tabF_cons (tabF_cons (tabF_cons (tabF_cons (tabF_cons (tabF_cons (tabF_cons (tabF_cons (tabF_cons (tabF_cons (tabF_cons (tabF_cons (tabF_cons (tabF_cons (tabF_cons (tabF_cons (tabF_cons (tabF_nil) rfl rfl k98) rfl rfl k142) rfl rfl k141) rfl rfl k97) rfl rfl k96) rfl rfl k233) rfl rfl k232) rfl rfl k231) rfl rfl k230) rfl rfl k246) rfl rfl k244) rfl rfl k243) rfl rfl k229) rfl rfl k242) rfl rfl k241) rfl rfl k228) rfl rfl k240) rfl rfl k227) rfl rfl k226) rfl rfl k215) rfl rfl k234) rfl rfl k216) rfl rfl k205) rfl rfl k207) rfl rfl k218) rfl rfl k209) rfl rfl k217) rfl rfl k208) rfl rfl k206) rfl rfl k204) rfl rfl k203) rfl rfl k202) rfl rfl k193) rfl rfl k192) rfl rfl k171) rfl rfl k140) rfl rfl k139) rfl rfl k138) rfl rfl k137) rfl rfl k94) rfl rfl k95) rfl rfl k136) rfl rfl k135) rfl rfl k134) rfl rfl k93) rfl rfl k170) rfl rfl k169) rfl rfl k167) rfl rfl k168) rfl rfl k191) rfl rfl k166) rfl rfl k165) rfl rfl k133) rfl rfl k190) rfl rfl k164) rfl rfl k162) rfl rfl k163) rfl rfl k161) rfl rfl k189) rfl rfl k160) rfl rfl k159) rfl rfl k158) rfl rfl k132) rfl rfl k92) rfl rfl k47) rfl rfl k54) rfl rfl k20) rfl rfl k19) rfl rfl k18) rfl rfl k16) rfl rfl k53) rfl rfl k15) rfl rfl k89) rfl rfl k88) rfl rfl k45) rfl rfl k10) rfl rfl k105) rfl rfl k128) rfl rfl k86) rfl rfl k44) rfl rfl k43) rfl rfl k84) rfl rfl k83) rfl rfl k42) rfl rfl k130) rfl rfl k131) rfl rfl k187) rfl rfl k154) rfl rfl k186) rfl rfl k90) rfl rfl k185) rfl rfl k184) rfl rfl k153) rfl rfl k183) rfl rfl k152) rfl rfl k182) rfl rfl k151) rfl rfl k180) rfl rfl k181) rfl rfl k150) rfl rfl k123) rfl rfl k122) rfl rfl k179) rfl rfl k178) rfl rfl k149) rfl rfl k121) rfl rfl k80) rfl rfl k40) rfl rfl k39) rfl rfl k119) rfl rfl k79) rfl rfl k38) rfl rfl k37) rfl rfl k36) rfl rfl k70) rfl rfl k115) rfl rfl k74) rfl rfl k120) rfl rfl k147) rfl rfl k148) rfl rfl k114) rfl rfl k113) rfl rfl k112) rfl rfl k73) rfl rfl k69) rfl rfl k111) rfl rfl k68) rfl rfl k33) rfl rfl k34) rfl rfl k7) rfl rfl k8) rfl rfl k35) rfl rfl k9) rfl rfl k72) rfl rfl k118) rfl rfl k77) rfl rfl k76) rfl rfl k188) rfl rfl k157) rfl rfl k127) rfl rfl k85) rfl rfl k117) rfl rfl k129) rfl rfl k91) rfl rfl k125) rfl rfl k126) rfl rfl k156) rfl rfl k155) rfl rfl k124) rfl rfl k82) rfl rfl k41) rfl rfl k78) rfl rfl k116) rfl rfl k75) rfl rfl k109) rfl rfl k81) rfl rfl k71) rfl rfl k87) rfl rfl k66) rfl rfl k177) rfl rfl k146) rfl rfl k110) rfl rfl k67) rfl rfl k32) rfl rfl k6) rfl rfl k200) rfl rfl k175) rfl rfl k198) rfl rfl k199) rfl rfl k212) rfl rfl k211) rfl rfl k213) rfl rfl k225) rfl rfl k224) rfl rfl k223) rfl rfl k238) rfl rfl k237) rfl rfl k236) rfl rfl k247) rfl rfl k245) rfl rfl k239) rfl rfl k222) rfl rfl k221) rfl rfl k235) rfl rfl k220) rfl rfl k219) rfl rfl k210) rfl rfl k197) rfl rfl k196) rfl rfl k195) rfl rfl k174) rfl rfl k214) rfl rfl k201) rfl rfl k176) rfl rfl k194) rfl rfl k173) rfl rfl k145) rfl rfl k104) rfl rfl k52) rfl rfl k17) rfl rfl k51) rfl rfl k14) rfl rfl k13) rfl rfl k103) rfl rfl k50) rfl rfl k144) rfl rfl k101) rfl rfl k102) rfl rfl k172) rfl rfl k143) rfl rfl k100) rfl rfl k99) rfl rfl k49) rfl rfl k31) rfl rfl k48) rfl rfl k12) rfl rfl k4) (by kernel_rfl)
end
end Go.Abs.TImageNone
/- A law that returns true and turns nothing that was there: its row's post holds, whatever its arguments are. -/
namespace Go.Abs
open Go.ChangeShapes Go.WideShapes Go.ChangeAt Go.RowKit
section
variable {H : Type} {enc : TypeId × Value → H} {P : Program}
theorem trodAll_below {W W' : World} {base : Nat} {sp : Nat → Bool} {held : Bool} (hb : Below W.heap.size W W') : ∀ {ts : List TypeId} {vs : List Value} {ds : List (DataW H)} {ps : List MemPlace},
    DataW.TrodAll enc P W base sp held ts vs ds ps → DataW.TrodAll enc P W' base sp held ts vs ds ps
  | [], [], [], _, h => h
  | _ :: _, _ :: _, _ :: _, _, ⟨p, q, ⟨n, h1⟩, h2, e⟩ => by
    refine ⟨p, q, ⟨n, DataW.trod_carry n _ _ _ h1 fun x hx => hb.same (DataW.trod_lt n _ _ _ h1 x hx)⟩, trodAll_below hb h2, e⟩
theorem trodVars_below {W W' : World} {sp : Nat → Bool} {gs : List (DataW H)} {q : List MemPlace} (h : DataW.TrodVars enc P W sp [] gs q) : DataW.TrodVars enc P W' sp [] gs q := by
  obtain ⟨rfl, rfl⟩ := trodVars_none h
  exact h
theorem law_post {f : Func} {s : ChangeSpec} {apart : Bool} {W W' : World} {args : Array Value} {ds gs : List (DataW H)} {before : List MemPlace} {tb : TypeId}
    (hl : laidOutB P = true) (hm : mapsRowed P = true)
    (hz : ((List.range P.types.size).all fun t => match P.underlying t with | some (.slice e) => decide (0 < P.cellsOf e) | _ => true) = true)
    (hts : (f.params.toList.all fun t => decide (t < P.types.size)) = true) (hv : s.vars = [])
    (hW : DataW.Whole enc P f.params.toList s.vars apart W args.toList ds gs before)
    (hfn : s.fn H (ds ++ gs) = { results := [.lit (.bool true)], args := ds }) (hr : f.resultTypes = #[tb]) (ht : P.underlying tb = some .bool) (hb : Below W.heap.size W W') :
    s.post enc P f apart true false false W args (.bool true) W' := by
  have hlt : ∀ p ∈ before, p.block < W.heap.size := fun p hp => hW.lt p hp
  have hW0 := hW
  obtain ⟨p, q, hA, hV, rfl, hfz, hnd⟩ := hW
  rw [hv] at hV
  obtain ⟨rfl, rfl⟩ := trodVars_none hV
  have hT : ∀ t ∈ f.params.toList, t < P.types.size := fun t ht => by simpa using List.all_eq_true.1 hts t ht
  refine ⟨ds, [], p ++ [], [], p, [], hW0, ?_, ?_, ?_, World.keptBut_mono (fun x hx => ⟨hx, by simpa using hx⟩) (hb.frame (· ∈ p ++ [])), fun h => by simp at h⟩
  · rw [hfn, hr]
    exact trodAll_cons_mk (shut_bool ht _) trodAll_mk0
  · rw [hfn]
    refine trodAll_below hb (DataW.TrodAll.respare (kids_rows hl hm) (slices_full_of P hz) hT hA fun x hx => ?_)
    simpa using hlt x (by simpa using hx)
  · rw [hfn, hv]
    exact trodVars_below (W := W) hV
end
end Go.Abs
