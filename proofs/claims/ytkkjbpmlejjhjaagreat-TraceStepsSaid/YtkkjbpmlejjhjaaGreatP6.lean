/- Part of a proof (UC3 U2 U3 UX0 UF1 UF2 UF3 UF4 UF5 UF6); no condition. -/
import Derived.Test.YtkkjbpmlejjhjaaGreatProg
import Derived.KernelRfl
import Derived.Test.YtkkjbpmlejjhjaaGreatP5
set_option linter.unusedSimpArgs false
set_option linter.unusedVariables false
set_option linter.defProp false
set_option linter.unnecessarySimpa false
namespace Go.Proofs.Tc
open Go.Abs Go.Abs.S
noncomputable section
def c33:AFn:=⟨126,zq [zo 1 (.box (.t 0)),zo 2 (.mv (zi 0))] (zq [zo 3 (.mv (.f 70))] (zq [zm 11 3,zf 12 0 1,zl 13 12,zo 14 (.callv (.t 11) [.t 13,zi 1,zi 1024]),zm 15 14,zg 16 (.mv (.t 3)) 15 true,zg 17 (.fieldA 1 (.t 1)) 15 true,zg 18 (.load false 1 (.t 17)) 15 true,zg 19 (.callv (.t 16) [.t 18,zi 1,zi 1024]) 15 true,zo 20 (.pick (.t 15) (.t 19) (.c (.bool false))),zm 21 20,zg 22 (.mv (.t 3)) 21 true,zg 23 (.fieldA 2 (.t 1)) 21 true,zg 24 (.load false 1 (.t 23)) 21 true,zg 25 (.callv (.t 22) [.t 24,zi 1,zi 64]) 21 true,zo 26 (.pick (.t 21) (.t 25) (.c (.bool false))),zm 27 26,zg 28 (.mv (.t 3)) 27 true,zg 29 (.fieldA 3 (.t 1)) 27 true,zg 30 (.load false 1 (.t 29)) 27 true,zg 31 (.callv (.t 28) [.t 30,zi 0,zi 8]) 27 true,zo 32 (.pick (.t 27) (.t 31) (.c (.bool false))),zm 33 32,zg 34 (.fieldA 5 (.t 1)) 33 true,zg 35 (.load true 3 (.t 34)) 33 true,zg 36 (.call 71 [.t 35]) 33 true,zo 37 (.pick (.t 33) (.t 36) (.c (.bool false))),zm 38 37,zg 39 (.fieldA 8 (.t 1)) 38 true,zg 40 (.load true 3 (.t 39)) 38 true,zg 41 (.call 71 [.t 40]) 38 true,zo 42 (.pick (.t 38) (.t 41) (.c (.bool false))),zm 43 42,zg 44 (.fieldA 11 (.t 1)) 43 true,zg 45 (.load true 3 (.t 44)) 43 true,zg 46 (.call 71 [.t 45]) 43 true,zo 47 (.pick (.t 43) (.t 46) (.c (.bool false))),zm 48 47,zg 49 (.fieldA 14 (.t 1)) 48 true,zg 50 (.load false 1 (.t 49)) 48 true,zg 51 (.bin .lss (zi 0) (.t 50)) 48 true,zo 52 (.pick (.t 48) (.t 51) (.c (.bool false))),zm 53 52,zg 54 (.fieldA 14 (.t 1)) 53 true,zg 55 (.load false 1 (.t 54)) 53 true,zg 56 (.bin .leq (.t 55) (zi 429496729600)) 53 true,zo 57 (.pick (.t 53) (.t 56) (.c (.bool false))),zm 58 57,zg 59 (.fieldA 15 (.t 1)) 58 true,zg 60 (.load true 3 (.t 59)) 58 true,zg 61 (.call 72 [.t 60,zi 0,zi 274877906944]) 58 true,zo 62 (.pick (.t 58) (.t 61) (.c (.bool false))),zm 63 62,zg 64 (.fieldA 18 (.t 1)) 63 true,zg 65 (.load false 1 (.t 64)) 63 true,zg 66 (.len false (.t 65)) 63 true,zg 67 (.bin .leq (.t 66) (zi 64)) 63 true,zo 68 (.pick (.t 63) (.t 67) (.c (.bool false))),zm 69 68,zg 70 (.fieldA 19 (.t 1)) 69 true,zg 71 (.load false 1 (.t 70)) 69 true,zg 72 (.len false (.t 71)) 69 true,zg 73 (.bin .leq (.t 72) (zi 256)) 69 true,zo 74 (.pick (.t 69) (.t 73) (.c (.bool false))),zm 75 74,zg 76 (.fieldA 20 (.t 1)) 75 true,zg 77 (.load false 1 (.t 76)) 75 true,zg 78 (.len false (.t 77)) 75 true,zg 79 (.bin .leq (.t 78) (zi 16)) 75 true,zo 80 (.pick (.t 75) (.t 79) (.c (.bool false))),zm 4 80] (zr [zm 81 4,zo 82 (.un .not (.t 81))] 82 (zq [zo 2 (.mv (zi 130))] .ret) .skip (.seq (zq [zf 83 18 1,zl 84 83,zh 85 84,zo 86 (.mv (zi 0))] (.block 0 (.loop (zq [zb 87 .lss 86 85] (.seq (.cond (.t 87) .skip (.exit 0)) (.seq (.block 1 (zq [zo 88 (.idxA 6 (.t 84) (.t 86)),zt 89 6 88,zo 6 (.new [zU 0,zI 0,zI 0,zI 0,.str [],.str []]),zp (.store 6 (.t 6) (.t 89))] (zq [zt 90 6 6,zx 91 73 [.t 90],zo 92 (.un .not (.t 91))] (.cond (.t 92) (zq [zo 2 (.mv (zi 130))] .ret) .skip)))) (.reg [zk 93 .add 86 1,zm 86 93]))))))) (.seq (zq [zf 94 19 1,zl 95 94,zh 96 95,zo 97 (.mv (zi 0))] (.block 2 (.loop (zq [zb 98 .lss 97 96] (.seq (.cond (.t 98) .skip (.exit 2)) (.seq (.block 3 (zq [zo 99 (.idxA 5 (.t 95) (.t 97)),zt 100 5 99,zo 8 (.new [zI 0,zI 0,zI 0,zI 0,zI 0]),zp (.store 5 (.t 8) (.t 100))] (zq [zt 101 5 8,zx 102 74 [.t 101],zo 103 (.un .not (.t 102))] (.cond (.t 103) (zq [zo 2 (.mv (zi 130))] .ret) .skip)))) (.reg [zk 104 .add 97 1,zm 97 104]))))))) (.seq (zq [zf 105 20 1,zl 106 105,zh 107 106,zo 108 (.mv (zi 0))] (.block 4 (.loop (zq [zb 109 .lss 108 107] (.seq (.cond (.t 109) .skip (.exit 4)) (.seq (.block 5 (zq [zo 110 (.idxA 5 (.t 106) (.t 108)),zt 111 5 110,zo 10 (.new [.str [],zI 0,zI 0,zI 0,zI 0]),zp (.store 5 (.t 10) (.t 111))] (zq [zf 112 0 10,zl 113 112,zx 114 75 [.t 113],zo 115 (.un .not (.t 114)),zm 116 115,zg 117 (.fieldA 1 (.t 10)) 116 false,zg 118 (.load true 3 (.t 117)) 116 false,zg 119 (.call 71 [.t 118]) 116 false,zg 120 (.un .not (.t 119)) 116 false,zo 121 (.pick (.t 116) (.c (.bool true)) (.t 120))] (.cond (.t 121) (zq [zo 2 (.mv (zi 130))] .ret) .skip)))) (.reg [zk 122 .add 108 1,zm 108 122]))))))) (zr [zt 123 21 1,zx 124 76 [.t 123],zo 125 (.un .not (.t 124))] 125 (zq [zo 2 (.mv (zi 130))] .ret) .skip (zq [zo 2 (.mv (zi 0))] .ret)))))))),[.t 2]⟩
theorem za33:cN Tryz.prog 33=some c33:=by kernel_rfl
def c70:AFn:=⟨15,zq [zo 6 (.mv (.c (.bool false)))] (zq [zm 7 1,zm 8 0,zb 9 .leq 7 8,zm 10 9,zg 11 (.mv (.t 0)) 10 true,zg 12 (.mv (.t 2)) 10 true,zg 13 (.bin .leq (.t 11) (.t 12)) 10 true,zo 14 (.pick (.t 10) (.t 13) (.c (.bool false))),zm 6 14] .ret),[.t 6]⟩
theorem za70:cN Tryz.prog 70=some c70:=by kernel_rfl
def c71:AFn:=⟨5,zq [zo 1 (.box (.t 0)),zo 2 (.mv (.c (.bool false)))] (zq [zt 3 3 1,zx 4 72 [.t 3,.c (.int .i64 (.negSucc 42949672959999)),zi 42949672960000],zm 2 4] .ret),[.t 2]⟩
theorem za71:cN Tryz.prog 71=some c71:=by kernel_rfl
def c72:AFn:=⟨25,zq [zo 3 (.box (.t 0)),zo 4 (.box (.t 1)),zo 5 (.box (.t 2)),zo 6 (.mv (.c (.bool false)))] (zq [zo 8 (.mkFunc (.func 107) [] [.t 4,.t 5]),zm 7 8] (zq [zm 9 7,zf 10 0 3,zl 11 10,zo 12 (.callv (.t 9) [.t 11]),zm 13 12,zg 14 (.mv (.t 7)) 13 true,zg 15 (.fieldA 1 (.t 3)) 13 true,zg 16 (.load false 1 (.t 15)) 13 true,zg 17 (.callv (.t 14) [.t 16]) 13 true,zo 18 (.pick (.t 13) (.t 17) (.c (.bool false))),zm 19 18,zg 20 (.mv (.t 7)) 19 true,zg 21 (.fieldA 2 (.t 3)) 19 true,zg 22 (.load false 1 (.t 21)) 19 true,zg 23 (.callv (.t 20) [.t 22]) 19 true,zo 24 (.pick (.t 19) (.t 23) (.c (.bool false))),zm 6 24] .ret)),[.t 6]⟩
theorem za72:cN Tryz.prog 72=some c72:=by kernel_rfl
def c107:AFn:=⟨13,zq [zo 4 (.mv (.c (.bool false)))] (zq [zl 5 1,zm 6 0,zb 7 .leq 5 6,zm 8 7,zg 9 (.mv (.t 0)) 8 true,zg 10 (.load false 1 (.t 2)) 8 true,zg 11 (.bin .leq (.t 9) (.t 10)) 8 true,zo 12 (.pick (.t 8) (.t 11) (.c (.bool false))),zm 4 12] .ret),[.t 4]⟩
theorem za107:cN Tryz.prog 107=some c107:=by kernel_rfl
def c73:AFn:=⟨57,zq [zo 1 (.box (.t 0)),zo 2 (.mv (.c (.bool false)))] (.seq (zq [zf 3 0 1,zl 4 3] (.block 0 (zr [zo 6 (.bin .eql (.t 4) (zu 1)),zm 5 6] 5 .skip (.reg [zo 7 (.bin .eql (.t 4) (zu 2)),zm 5 7]) (.cond (.t 5) (zq [zf 8 4 1,zl 9 8,zo 10 (.bin .eql (.t 9) (.c (.str []))),zm 11 10,zg 12 (.fieldA 5 (.t 1)) 11 true,zg 13 (.load false 1 (.t 12)) 11 true,zg 14 (.bin .eql (.t 13) (.c (.str []))) 11 true,zo 15 (.pick (.t 11) (.t 14) (.c (.bool false))),zm 16 15,zg 17 (.fieldA 1 (.t 1)) 16 true,zg 18 (.load true 3 (.t 17)) 16 true,zg 19 (.call 72 [.t 18,zi 0,zi 4294967296]) 16 true,zo 20 (.pick (.t 16) (.t 19) (.c (.bool false))),zm 2 20] .ret) (zq [zo 22 (.bin .eql (.t 4) (zu 3)),zm 21 22] (.cond (.t 21) (zq [zf 23 4 1,zl 24 23,zo 25 (.bin .eql (.t 24) (.c (.str []))),zm 26 25,zg 27 (.fieldA 5 (.t 1)) 26 true,zg 28 (.load false 1 (.t 27)) 26 true,zg 29 (.bin .eql (.t 28) (.c (.str []))) 26 true,zo 30 (.pick (.t 26) (.t 29) (.c (.bool false))),zm 31 30,zg 32 (.fieldA 1 (.t 1)) 31 true,zg 33 (.load true 3 (.t 32)) 31 true,zg 34 (.call 72 [.t 33,zi 0,zi 274877906944]) 31 true,zo 35 (.pick (.t 31) (.t 34) (.c (.bool false))),zm 2 35] .ret) (zq [zo 37 (.bin .eql (.t 4) (zu 4)),zm 36 37] (.cond (.t 36) (zq [zf 38 1 1,zt 39 3 38,zo 40 (.build [zI 0,zI 0,zI 0] []),zo 41 (.pf (.eqS false [(0,.int),(1,.int),(2,.int)]) [.t 39,.t 40]),zm 42 41,zg 43 (.fieldA 4 (.t 1)) 42 true,zg 44 (.load false 1 (.t 43)) 42 true,zg 45 (.call 75 [.t 44]) 42 true,zo 46 (.pick (.t 42) (.t 45) (.c (.bool false))),zm 47 46,zg 48 (.fieldA 5 (.t 1)) 47 true,zg 49 (.load false 1 (.t 48)) 47 true,zg 50 (.bin .eql (.t 49) (.c (.str []))) 47 true,zg 51 (.mv (.t 50)) 47 true,zg 52 (.fieldA 5 (.t 1)) 51 false,zg 53 (.load false 1 (.t 52)) 51 false,zg 54 (.call 75 [.t 53]) 51 false,zg 55 (.pick (.t 51) (.c (.bool true)) (.t 54)) 47 true,zo 56 (.pick (.t 47) (.t 55) (.c (.bool false))),zm 2 56] .ret) .skip)))))))) (zq [zo 2 (.mv (.c (.bool false)))] .ret)),[.t 2]⟩
theorem za73:cN Tryz.prog 73=some c73:=by kernel_rfl
def c75:AFn:=⟨59,zq [zo 2 (.mv (.c (.bool false)))] (zr [zm 6 0,zo 7 (.len true (.t 6)),zk 8 .lss 7 1,zm 9 8,zg 10 (.mv (.t 0)) 9 false,zg 11 (.len true (.t 10)) 9 false,zg 12 (.bin .gtr (.t 11) (zi 40)) 9 false,zo 13 (.pick (.t 9) (.c (.bool true)) (.t 12))] 13 (zq [zo 2 (.mv (.c (.bool false)))] .ret) .skip (.seq (zq [zm 14 0,zo 15 (.len true (.t 14)),zo 16 (.mv (zi 0))] (.block 0 (.loop (zq [zb 17 .lss 16 15] (.seq (.cond (.t 17) .skip (.exit 0)) (.seq (.block 1 (zq [zm 18 16,zm 3 18] (zq [zm 19 0,zm 20 3,zo 21 (.idxS (.t 19) (.t 20)),zm 4 21] (zq [zm 22 4,zo 23 (.bin .leq (zu 97) (.t 22)),zm 24 23,zg 25 (.mv (.t 4)) 24 true,zg 26 (.bin .leq (.t 25) (zu 122)) 24 true,zo 27 (.pick (.t 24) (.t 26) (.c (.bool false))),zm 28 27,zg 29 (.mv (.t 4)) 28 false,zg 30 (.bin .leq (zu 65) (.t 29)) 28 false,zg 31 (.mv (.t 30)) 28 false,zg 32 (.mv (.t 4)) 31 true,zg 33 (.bin .leq (.t 32) (zu 90)) 31 true,zg 34 (.pick (.t 31) (.t 33) (.c (.bool false))) 28 false,zo 35 (.pick (.t 28) (.c (.bool true)) (.t 34)),zm 5 35] (zq [zm 36 5,zo 37 (.un .not (.t 36)),zm 38 37,zg 39 (.mv (.t 4)) 38 true,zg 40 (.bin .lss (.t 39) (zu 48)) 38 true,zg 41 (.mv (.t 40)) 38 true,zg 42 (.mv (.t 4)) 41 false,zg 43 (.bin .gtr (.t 42) (zu 57)) 41 false,zg 44 (.pick (.t 41) (.c (.bool true)) (.t 43)) 38 true,zo 45 (.pick (.t 38) (.t 44) (.c (.bool false))),zm 46 45,zg 47 (.mv (.t 4)) 46 true,zg 48 (.bin .neq (.t 47) (zu 95)) 46 true,zo 49 (.pick (.t 46) (.t 48) (.c (.bool false))),zm 50 49,zg 51 (.mv (.t 4)) 50 true,zg 52 (.bin .neq (.t 51) (zu 45)) 50 true,zo 53 (.pick (.t 50) (.t 52) (.c (.bool false))),zm 54 53,zg 55 (.mv (.t 4)) 54 true,zg 56 (.bin .neq (.t 55) (zu 46)) 54 true,zo 57 (.pick (.t 54) (.t 56) (.c (.bool false)))] (.cond (.t 57) (zq [zo 2 (.mv (.c (.bool false)))] .ret) .skip)))))) (.reg [zk 58 .add 16 1,zm 16 58]))))))) (zq [zo 2 (.mv (.c (.bool true)))] .ret))),[.t 2]⟩
theorem za75:cN Tryz.prog 75=some c75:=by kernel_rfl
def c74:AFn:=⟨19,zq [zo 1 (.box (.t 0)),zo 2 (.mv (.c (.bool false)))] (zq [zf 3 0 1,zf 4 0 3,zt 5 3 4,zx 6 71 [.t 5],zm 7 6,zg 8 (.fieldA 0 (.t 1)) 7 true,zg 9 (.fieldA 3 (.t 8)) 7 true,zg 10 (.load false 1 (.t 9)) 7 true,zg 11 (.bin .lss (zi 0) (.t 10)) 7 true,zo 12 (.pick (.t 7) (.t 11) (.c (.bool false))),zm 13 12,zg 14 (.fieldA 0 (.t 1)) 13 true,zg 15 (.fieldA 3 (.t 14)) 13 true,zg 16 (.load false 1 (.t 15)) 13 true,zg 17 (.bin .leq (.t 16) (zi 42949672960000)) 13 true,zo 18 (.pick (.t 13) (.t 17) (.c (.bool false))),zm 2 18] .ret),[.t 2]⟩
theorem za74:cN Tryz.prog 74=some c74:=by kernel_rfl
def c76:AFn:=⟨35,zq [zo 1 (.box (.t 0)),zo 2 (.mv (.c (.bool false)))] (zq [zo 8 (.mkFunc (.func 108) [] [.t 1]),zm 3 8] (.seq (zq [zf 9 19 1,zl 10 9,zh 11 10,zo 12 (.mv (zi 0))] (.block 0 (.loop (zq [zb 13 .lss 12 11] (.seq (.cond (.t 13) .skip (.exit 0)) (.seq (.block 1 (zq [zo 14 (.idxA 5 (.t 10) (.t 12)),zt 15 5 14,zo 5 (.new [zI 0,zI 0,zI 0,zI 0,zI 0]),zp (.store 5 (.t 5) (.t 15))] (zq [zm 16 3,zf 17 4 5,zl 18 17,zo 19 (.callv (.t 16) [.t 18]),zo 20 (.un .not (.t 19))] (.cond (.t 20) (zq [zo 2 (.mv (.c (.bool false)))] .ret) .skip)))) (.reg [zk 21 .add 12 1,zm 12 21]))))))) (.seq (zq [zf 22 20 1,zl 23 22,zh 24 23,zo 25 (.mv (zi 0))] (.block 2 (.loop (zq [zb 26 .lss 25 24] (.seq (.cond (.t 26) .skip (.exit 2)) (.seq (.block 3 (zq [zo 27 (.idxA 5 (.t 23) (.t 25)),zt 28 5 27,zo 7 (.new [.str [],zI 0,zI 0,zI 0,zI 0]),zp (.store 5 (.t 7) (.t 28))] (zq [zm 29 3,zf 30 4 7,zl 31 30,zo 32 (.callv (.t 29) [.t 31]),zo 33 (.un .not (.t 32))] (.cond (.t 33) (zq [zo 2 (.mv (.c (.bool false)))] .ret) .skip)))) (.reg [zk 34 .add 25 1,zm 25 34]))))))) (zq [zo 2 (.mv (.c (.bool true)))] .ret)))),[.t 2]⟩
theorem za76:cN Tryz.prog 76=some c76:=by kernel_rfl
def c108:AFn:=⟨13,zq [zo 3 (.mv (.c (.bool false)))] (zq [zm 4 0,zo 5 (.bin .leq (zi 0) (.t 4)),zm 6 5,zg 7 (.mv (.t 0)) 6 true,zg 8 (.fieldA 18 (.t 1)) 6 true,zg 9 (.load false 1 (.t 8)) 6 true,zg 10 (.len false (.t 9)) 6 true,zg 11 (.bin .lss (.t 7) (.t 10)) 6 true,zo 12 (.pick (.t 6) (.t 11) (.c (.bool false))),zm 3 12] .ret),[.t 3]⟩
theorem za108:cN Tryz.prog 108=some c108:=by kernel_rfl
def c35:AFn:=⟨57,zq [zo 1 (.box (.t 0)),zo 2 (.mv (zi 0))] (zr [zf 6 1 1,zl 7 6,zk 8 .lss 7 4,zm 9 8,zg 10 (.fieldA 1 (.t 1)) 9 false,zg 11 (.load false 1 (.t 10)) 9 false,zg 12 (.bin .gtr (.t 11) (zi 250)) 9 false,zo 13 (.pick (.t 9) (.c (.bool true)) (.t 12))] 13 (zq [zo 2 (.mv (zi 120))] .ret) .skip (zr [zf 14 2 1,zl 15 14,zh 16 15,zk 17 .eql 16 0,zm 18 17,zg 19 (.fieldA 2 (.t 1)) 18 false,zg 20 (.load false 1 (.t 19)) 18 false,zg 21 (.len false (.t 20)) 18 false,zg 22 (.bin .gtr (.t 21) (zi 65536)) 18 false,zo 23 (.pick (.t 18) (.c (.bool true)) (.t 22)),zm 24 23,zg 25 (.fieldA 0 (.t 1)) 24 false,zg 26 (.load false 1 (.t 25)) 24 false,zg 27 (.len false (.t 26)) 24 false,zg 28 (.bin .gtr (.t 27) (zi 65536)) 24 false,zo 29 (.pick (.t 24) (.c (.bool true)) (.t 28))] 29 (zq [zo 2 (.mv (zi 120))] .ret) .skip (.seq (zq [zf 30 2 1,zl 31 30,zh 32 31,zo 33 (.mv (zi 0))] (.block 0 (.loop (zq [zb 34 .lss 33 32] (.seq (.cond (.t 34) .skip (.exit 0)) (.seq (.block 1 (zq [zo 35 (.idxA 4 (.t 31) (.t 33)),zt 36 4 35,zo 4 (.new [zU 0,zI 0,zI 0,zI 0]),zp (.store 4 (.t 4) (.t 36))] (zq [zt 37 4 4,zt 38 3 1,zx 39 84 [.t 37,.t 38],zo 40 (.un .not (.t 39))] (.cond (.t 40) (zq [zo 2 (.mv (zi 120))] .ret) .skip)))) (.reg [zk 41 .add 33 1,zm 33 41]))))))) (zq [zf 42 2 1,zl 43 42,zf 44 2 1,zl 45 44,zh 46 45,zk 47 .sub 46 1,zo 48 (.idxA 4 (.t 43) (.t 47)),zf 49 0 48,zl 50 49,zm 5 50] (zr [zm 51 5,zo 52 (.bin .neq (.t 51) (zu 32)),zm 53 52,zg 54 (.mv (.t 5)) 53 true,zg 55 (.bin .neq (.t 54) (zu 34)) 53 true,zo 56 (.pick (.t 53) (.t 55) (.c (.bool false)))] 56 (zq [zo 2 (.mv (zi 120))] .ret) .skip (zq [zo 2 (.mv (zi 0))] .ret)))))),[.t 2]⟩
theorem za35:cN Tryz.prog 35=some c35:=by kernel_rfl
def c84:AFn:=⟨162,zq [zo 2 (.box (.t 0)),zo 3 (.box (.t 1)),zo 4 (.mv (.c (.bool false)))] (zq [zo 7 (.mkFunc (.func 110) [] [.t 3]),zm 5 7] (zq [zo 6 (.mv (.f 111))] (.seq (zq [zf 8 0 2,zl 9 8] (.block 0 (zq [zo 11 (.bin .eql (.t 9) (zu 1)),zm 10 11] (.cond (.t 10) (zq [zm 12 5,zf 13 1 2,zl 14 13,zo 15 (.buildSl 1 [zI 0] [(0,1,.t 14)]),zo 16 (.callv (.t 12) [.t 15]),zm 17 16,zg 18 (.mv (.t 6)) 17 true,zg 19 (.fieldA 2 (.t 2)) 17 true,zg 20 (.load false 1 (.t 19)) 17 true,zg 21 (.fieldA 0 (.t 3)) 17 true,zg 22 (.load false 1 (.t 21)) 17 true,zg 23 (.len false (.t 22)) 17 true,zg 24 (.callv (.t 18) [.t 20,.t 23]) 17 true,zo 25 (.pick (.t 17) (.t 24) (.c (.bool false))),zm 26 25,zg 27 (.fieldA 3 (.t 2)) 26 true,zg 28 (.load false 1 (.t 27)) 26 true,zg 29 (.bin .eql (.t 28) (zi 0)) 26 true,zo 30 (.pick (.t 26) (.t 29) (.c (.bool false))),zm 4 30] .ret) (zr [zo 32 (.bin .eql (.t 9) (zu 2)),zm 31 32] 31 .skip (zq [zo 33 (.bin .eql (.t 9) (zu 7)),zm 31 33] (.cond (.t 31) .skip (zq [zo 34 (.bin .eql (.t 9) (zu 8)),zm 31 34] (.cond (.t 31) .skip (zq [zo 35 (.bin .eql (.t 9) (zu 18)),zm 31 35] (.cond (.t 31) .skip (zq [zo 36 (.bin .eql (.t 9) (zu 19)),zm 31 36] (.cond (.t 31) .skip (zq [zo 37 (.bin .eql (.t 9) (zu 20)),zm 31 37] (.cond (.t 31) .skip (zq [zo 38 (.bin .eql (.t 9) (zu 23)),zm 31 38] (.cond (.t 31) .skip (zq [zo 39 (.bin .eql (.t 9) (zu 24)),zm 31 39] (.cond (.t 31) .skip (zq [zo 40 (.bin .eql (.t 9) (zu 25)),zm 31 40] (.cond (.t 31) .skip (zq [zo 41 (.bin .eql (.t 9) (zu 26)),zm 31 41] (.cond (.t 31) .skip (zq [zo 42 (.bin .eql (.t 9) (zu 27)),zm 31 42] (.cond (.t 31) .skip (.reg [zo 43 (.bin .eql (.t 9) (zu 28)),zm 31 43]))))))))))))))))))))) (.cond (.t 31) (zq [zm 44 5,zf 45 1 2,zl 46 45,zf 47 2 2,zl 48 47,zo 49 (.buildSl 2 [zI 0] [(0,1,.t 46),(1,1,.t 48)]),zo 50 (.callv (.t 44) [.t 49]),zm 51 50,zg 52 (.fieldA 3 (.t 2)) 51 true,zg 53 (.load false 1 (.t 52)) 51 true,zg 54 (.bin .eql (.t 53) (zi 0)) 51 true,zo 55 (.pick (.t 51) (.t 54) (.c (.bool false))),zm 4 55] .ret) (zr [zo 57 (.bin .eql (.t 9) (zu 3)),zm 56 57] 56 .skip (zq [zo 58 (.bin .eql (.t 9) (zu 4)),zm 56 58] (.cond (.t 56) .skip (zq [zo 59 (.bin .eql (.t 9) (zu 5)),zm 56 59] (.cond (.t 56) .skip (zq [zo 60 (.bin .eql (.t 9) (zu 6)),zm 56 60] (.cond (.t 56) .skip (zq [zo 61 (.bin .eql (.t 9) (zu 9)),zm 56 61] (.cond (.t 56) .skip (zq [zo 62 (.bin .eql (.t 9) (zu 10)),zm 56 62] (.cond (.t 56) .skip (zq [zo 63 (.bin .eql (.t 9) (zu 11)),zm 56 63] (.cond (.t 56) .skip (zq [zo 64 (.bin .eql (.t 9) (zu 12)),zm 56 64] (.cond (.t 56) .skip (zq [zo 65 (.bin .eql (.t 9) (zu 13)),zm 56 65] (.cond (.t 56) .skip (zq [zo 66 (.bin .eql (.t 9) (zu 14)),zm 56 66] (.cond (.t 56) .skip (zq [zo 67 (.bin .eql (.t 9) (zu 15)),zm 56 67] (.cond (.t 56) .skip (zq [zo 68 (.bin .eql (.t 9) (zu 16)),zm 56 68] (.cond (.t 56) .skip (zq [zo 69 (.bin .eql (.t 9) (zu 21)),zm 56 69] (.cond (.t 56) .skip (zq [zo 70 (.bin .eql (.t 9) (zu 22)),zm 56 70] (.cond (.t 56) .skip (zq [zo 71 (.bin .eql (.t 9) (zu 29)),zm 56 71] (.cond (.t 56) .skip (zq [zo 72 (.bin .eql (.t 9) (zu 30)),zm 56 72] (.cond (.t 56) .skip (.reg [zo 73 (.bin .eql (.t 9) (zu 31)),zm 56 73]))))))))))))))))))))))))))))))) (.cond (.t 56) (zq [zm 74 5,zf 75 1 2,zl 76 75,zf 77 2 2,zl 78 77,zf 79 3 2,zl 80 79,zo 81 (.buildSl 3 [zI 0] [(0,1,.t 76),(1,1,.t 78),(2,1,.t 80)]),zo 82 (.callv (.t 74) [.t 81]),zm 4 82] .ret) (zq [zo 84 (.bin .eql (.t 9) (zu 17)),zm 83 84] (.cond (.t 83) (zq [zm 85 5,zf 86 1 2,zl 87 86,zf 88 2 2,zl 89 88,zo 90 (.buildSl 2 [zI 0] [(0,1,.t 87),(1,1,.t 89)]),zo 91 (.callv (.t 85) [.t 90]),zm 92 91,zg 93 (.fieldA 2 (.t 2)) 92 true,zg 94 (.load false 1 (.t 93)) 92 true,zg 95 (.bin .add (.t 94) (zi 2)) 92 true,zg 96 (.fieldA 1 (.t 3)) 92 true,zg 97 (.load false 1 (.t 96)) 92 true,zg 98 (.bin .lss (.t 95) (.t 97)) 92 true,zo 99 (.pick (.t 92) (.t 98) (.c (.bool false))),zm 100 99,zg 101 (.fieldA 3 (.t 2)) 100 true,zg 102 (.load false 1 (.t 101)) 100 true,zg 103 (.bin .eql (.t 102) (zi 0)) 100 true,zo 104 (.pick (.t 100) (.t 103) (.c (.bool false))),zm 4 104] .ret) (zq [zo 106 (.bin .eql (.t 9) (zu 32)),zm 105 106] (.cond (.t 105) (zq [zf 107 1 2,zl 108 107,zk 109 .eql 108 0,zm 110 109,zg 111 (.fieldA 2 (.t 2)) 110 true,zg 112 (.load false 1 (.t 111)) 110 true,zg 113 (.bin .eql (.t 112) (zi 0)) 110 true,zo 114 (.pick (.t 110) (.t 113) (.c (.bool false))),zm 115 114,zg 116 (.mv (.t 6)) 115 true,zg 117 (.fieldA 3 (.t 2)) 115 true,zg 118 (.load false 1 (.t 117)) 115 true,zg 119 (.fieldA 2 (.t 3)) 115 true,zg 120 (.load false 1 (.t 119)) 115 true,zg 121 (.len false (.t 120)) 115 true,zg 122 (.callv (.t 116) [.t 118,.t 121]) 115 true,zo 123 (.pick (.t 115) (.t 122) (.c (.bool false))),zm 4 123] .ret) (zq [zo 125 (.bin .eql (.t 9) (zu 33)),zm 124 125] (.cond (.t 124) (zq [zm 126 5,zf 127 1 2,zl 128 127,zo 129 (.buildSl 1 [zI 0] [(0,1,.t 128)]),zo 130 (.callv (.t 126) [.t 129]),zm 131 130,zg 132 (.fieldA 2 (.t 2)) 131 true,zg 133 (.load false 1 (.t 132)) 131 true,zg 134 (.bin .eql (.t 133) (zi 0)) 131 true,zo 135 (.pick (.t 131) (.t 134) (.c (.bool false))),zm 136 135,zg 137 (.mv (.t 6)) 136 true,zg 138 (.fieldA 3 (.t 2)) 136 true,zg 139 (.load false 1 (.t 138)) 136 true,zg 140 (.fieldA 2 (.t 3)) 136 true,zg 141 (.load false 1 (.t 140)) 136 true,zg 142 (.len false (.t 141)) 136 true,zg 143 (.callv (.t 137) [.t 139,.t 142]) 136 true,zo 144 (.pick (.t 136) (.t 143) (.c (.bool false))),zm 4 144] .ret) (zq [zo 146 (.bin .eql (.t 9) (zu 34)),zm 145 146] (.cond (.t 145) (zq [zm 147 5,zf 148 1 2,zl 149 148,zo 150 (.buildSl 1 [zI 0] [(0,1,.t 149)]),zo 151 (.callv (.t 147) [.t 150]),zm 152 151,zg 153 (.fieldA 2 (.t 2)) 152 true,zg 154 (.load false 1 (.t 153)) 152 true,zg 155 (.bin .eql (.t 154) (zi 0)) 152 true,zo 156 (.pick (.t 152) (.t 155) (.c (.bool false))),zm 157 156,zg 158 (.fieldA 3 (.t 2)) 157 true,zg 159 (.load false 1 (.t 158)) 157 true,zg 160 (.bin .eql (.t 159) (zi 0)) 157 true,zo 161 (.pick (.t 157) (.t 160) (.c (.bool false))),zm 4 161] .ret) .skip)))))))))))))))) (zq [zo 4 (.mv (.c (.bool false)))] .ret)))),[.t 4]⟩
theorem za84:cN Tryz.prog 84=some c84:=by kernel_rfl
def c110:AFn:=⟨21,zq [zo 3 (.mv (.c (.bool false)))] (.seq (zq [zm 6 0,zh 7 6,zo 8 (.mv (zi 0))] (.block 0 (.loop (zq [zb 9 .lss 8 7] (.seq (.cond (.t 9) .skip (.exit 0)) (.seq (.block 1 (zq [zd 10 6 8,zl 11 10,zm 5 11] (zq [zm 12 5,zk 13 .lss 12 0,zm 14 13,zg 15 (.mv (.t 5)) 14 false,zg 16 (.fieldA 1 (.t 1)) 14 false,zg 17 (.load false 1 (.t 16)) 14 false,zg 18 (.bin .geq (.t 15) (.t 17)) 14 false,zo 19 (.pick (.t 14) (.c (.bool true)) (.t 18))] (.cond (.t 19) (zq [zo 3 (.mv (.c (.bool false)))] .ret) .skip)))) (.reg [zk 20 .add 8 1,zm 8 20]))))))) (zq [zo 3 (.mv (.c (.bool true)))] .ret)),[.t 3]⟩
theorem za110:cN Tryz.prog 110=some c110:=by kernel_rfl
def c111:AFn:=⟨12,zq [zo 4 (.mv (.c (.bool false)))] (zq [zm 5 0,zo 6 (.bin .leq (zi 0) (.t 5)),zm 7 6,zg 8 (.mv (.t 0)) 7 true,zg 9 (.mv (.t 1)) 7 true,zg 10 (.bin .lss (.t 8) (.t 9)) 7 true,zo 11 (.pick (.t 7) (.t 10) (.c (.bool false))),zm 4 11] .ret),[.t 4]⟩
theorem za111:cN Tryz.prog 111=some c111:=by kernel_rfl
def c58:AFn:=⟨142,zq [zo 4 (.box (.t 0)),zo 5 (.box (.t 1)),zo 6 (.box (.t 2)),zo 8 (.new [zI 0,zI 0,zI 0]),zo 9 (.mv (zi 0)),zo 10 (.mv (zi 0))] (.seq (zq [zt 17 3 4,zx 18 35 [.t 17],zm 11 18] (zq [zm 19 11,zk 20 .neq 19 0] (.cond (.t 20) (zq [zo 21 (.build [zI 0,zI 0,zI 0] []),zm 22 11,zp (.store 3 (.t 8) (.t 21)),zo 9 (.mv (zi 0)),zm 10 22] .ret) .skip))) (zq [zf 23 1 4,zl 24 23,zo 25 (.mkSlice 24 [zI 0,zI 0,zI 0] (.t 24) (.t 24)),zm 12 25] (.seq (.draw [zm 26 12,zm 27 12,zm 28 12,zm 29 12,zf 30 0 5,zl 31 30,zx 32 97 [.t 31],zf 33 1 5,zl 34 33,zx 35 97 [.t 34],zf 36 2 5,zt 37 3 36,zf 38 5 5,zt 39 3 38,zo 40 (.idxA 3 (.t 26) (zi 0)),zp (.store 3 (.t 40) (.t 32)),zo 41 (.idxA 3 (.t 27) (zi 1)),zp (.store 3 (.t 41) (.t 35)),zo 42 (.idxA 3 (.t 28) (zi 2)),zp (.store 3 (.t 42) (.t 37)),zo 43 (.idxA 3 (.t 29) (zi 3)),zp (.store 3 (.t 43) (.t 39))] [[],[],[],[],[],[],[],[],[6],[],[],[6,9,17,19],[],[6,9,17,19,21],[],[],[],[],[],[],[],[]]) (zq [zo 13 (.mv (zi 0)),zo 14 (.mv (zi 0))] (zq [zo 15 (.new [zI 0,zI 0,zI 0])] (.seq .skip (.seq (.block 0 (.loop (.block 1 (zr [zm 44 13,zm 45 3,zb 46 .geq 44 45] 46 (zq [zo 47 (.build [zI 0,zI 0,zI 0] []),zm 48 13,zp (.store 3 (.t 8) (.t 47)),zm 9 48,zo 10 (.mv (zi 121))] .ret) .skip (zq [zf 49 2 4,zl 50 49,zm 51 14,zo 52 (.idxA 4 (.t 50) (.t 51)),zt 53 4 52,zo 16 (.new [zU 0,zI 0,zI 0,zI 0]),zp (.store 4 (.t 16) (.t 53))] (zq [zm 54 13,zk 55 .add 54 1,zm 13 55] (zq [zm 56 14,zk 57 .add 56 1,zm 14 57] (zq [zf 58 0 16,zl 59 58] (.block 2 (zq [zo 79 (.bin .eql (.t 59) (zu 1)),zm 78 79] (.cond (.t 78) (.draw [zm 80 12,zf 81 1 16,zl 82 81,zf 83 0 4,zl 84 83,zf 85 2 16,zl 86 85,zd 87 84 86,zl 88 87,zx 89 97 [.t 88],zo 90 (.idxA 3 (.t 80) (.t 82)),zp (.store 3 (.t 90) (.t 89))] [[],[],[11],[],[],[],[],[],[],[],[],[]]) (zq [zo 92 (.bin .eql (.t 59) (zu 17)),zm 91 92] (.cond (.t 91) (.reg [zm 93 12,zf 94 1 16,zl 95 94,zm 96 12,zf 97 2 16,zl 98 97,zo 99 (.idxA 3 (.t 96) (.t 98)),zf 100 0 99,zl 101 100,zm 102 12,zf 103 2 16,zl 104 103,zk 105 .add 104 1,zo 106 (.idxA 3 (.t 102) (.t 105)),zf 107 0 106,zl 108 107,zm 109 12,zf 110 2 16,zl 111 110,zk 112 .add 111 2,zo 113 (.idxA 3 (.t 109) (.t 112)),zf 114 0 113,zl 115 114,zo 116 (.build [zI 0,zI 0,zI 0] [(0,1,.t 101),(1,1,.t 108),(2,1,.t 115)]),zo 117 (.idxA 3 (.t 93) (.t 95)),zp (.store 3 (.t 117) (.t 116))]) (zq [zo 119 (.bin .eql (.t 59) (zu 32)),zm 118 119] (.cond (.t 118) (.reg [zf 120 3 16,zl 121 120,zm 14 121]) (zq [zo 123 (.bin .eql (.t 59) (zu 33)),zm 122 123] (.cond (.t 122) (zq [zm 124 12,zf 125 1 16,zl 126 125,zo 127 (.idxA 3 (.t 124) (.t 126)),zf 128 0 127,zl 129 128,zk 130 .eql 129 0] (.cond (.t 130) (.reg [zf 131 3 16,zl 132 131,zm 14 132]) .skip)) (zq [zo 134 (.bin .eql (.t 59) (zu 34)),zm 133 134] (.cond (.t 133) (zq [zm 135 12,zf 136 1 16,zl 137 136,zo 138 (.idxA 3 (.t 135) (.t 137)),zt 139 3 138,zp (.store 3 (.t 15) (.t 139))] (.exit 0)) (.draw [zm 60 12,zf 61 1 16,zl 62 61,zf 63 0 16,zl 64 63,zm 65 12,zf 66 2 16,zl 67 66,zo 68 (.idxA 3 (.t 65) (.t 67)),zt 69 3 68,zm 70 12,zf 71 3 16,zl 72 71,zo 73 (.idxA 3 (.t 70) (.t 72)),zt 74 3 73,zt 75 3 6,zx 76 98 [.t 64,.t 69,.t 74,.t 75],zo 77 (.idxA 3 (.t 60) (.t 62)),zp (.store 3 (.t 77) (.t 76))] [[],[],[18],[],[],[],[],[],[],[],[],[],[],[],[],[],[],[],[]])))))))))))))))))))) (zq [zt 140 3 15,zm 141 13,zp (.store 3 (.t 8) (.t 140)),zm 9 141,zo 10 (.mv (zi 0))] .ret)))))))),[.cell true 3 8,.t 9,.t 10]⟩
theorem za58:cN Tryz.prog 58=some c58:=by kernel_rfl
def c97:AFn:=⟨5,zq [zo 2 (.new [zI 0,zI 0,zI 0])] (zq [zm 3 0,zo 4 (.build [zI 0,zI 0,zI 0] [(0,1,.t 3)]),zp (.store 3 (.t 2) (.t 4))] .ret),[.cell true 3 2]⟩
theorem za97:cN Tryz.prog 97=some c97:=by kernel_rfl
def c98:AFn:=⟨83,zq [zo 5 (.box (.t 1)),zo 6 (.box (.t 2)),zo 7 (.box (.t 3)),zo 8 (.new [zI 0,zI 0,zI 0])] (.seq (zq [zm 9 0] (.block 0 (zq [zo 11 (.bin .eql (.t 9) (zu 2)),zm 10 11] (.cond (.t 10) (zq [zt 12 3 5,zp (.store 3 (.t 8) (.t 12))] .ret) (zq [zo 14 (.bin .eql (.t 9) (zu 3)),zm 13 14] (.cond (.t 13) (zq [zt 15 3 5,zt 16 3 6,zx 17 49 [.t 15,.t 16],zp (.store 3 (.t 8) (.t 17))] .ret) (zq [zo 19 (.bin .eql (.t 9) (zu 4)),zm 18 19] (.cond (.t 18) (zq [zt 20 3 5,zt 21 3 6,zx 22 54 [.t 20,.t 21],zp (.store 3 (.t 8) (.t 22))] .ret) (zq [zo 24 (.bin .eql (.t 9) (zu 5)),zm 23 24] (.cond (.t 23) (zq [zf 25 0 5,zl 26 25,zt 27 3 6,zx 28 119 [.t 26,.t 27],zp (.store 3 (.t 8) (.t 28))] .ret) (zq [zo 30 (.bin .eql (.t 9) (zu 6)),zm 29 30] (.cond (.t 29) (zq [zt 31 3 5,zf 32 0 6,zl 33 32,zx 34 120 [.t 31,.t 33],zp (.store 3 (.t 8) (.t 34))] .ret) (zq [zo 36 (.bin .eql (.t 9) (zu 7)),zm 35 36] (.cond (.t 35) (zq [zt 37 3 5,zx 38 121 [.t 37],zp (.store 3 (.t 8) (.t 38))] .ret) (zq [zo 40 (.bin .eql (.t 9) (zu 18)),zm 39 40] (.cond (.t 39) (zq [zf 41 0 5,zl 42 41,zx 43 97 [.t 42],zp (.store 3 (.t 8) (.t 43))] .ret) (zq [zo 45 (.bin .eql (.t 9) (zu 19)),zm 44 45] (.cond (.t 44) (zq [zf 46 1 5,zl 47 46,zx 48 97 [.t 47],zp (.store 3 (.t 8) (.t 48))] .ret) (zq [zo 50 (.bin .eql (.t 9) (zu 20)),zm 49 50] (.cond (.t 49) (zq [zf 51 2 5,zl 52 51,zx 53 97 [.t 52],zp (.store 3 (.t 8) (.t 53))] .ret) (zq [zo 55 (.bin .eql (.t 9) (zu 21)),zm 54 55] (.cond (.t 54) (zq [zt 56 3 5,zt 57 3 6,zx 58 56 [.t 56,.t 57],zx 59 97 [.t 58],zp (.store 3 (.t 8) (.t 59))] .ret) (zq [zo 61 (.bin .eql (.t 9) (zu 22)),zm 60 61] (.cond (.t 60) (zq [zt 62 3 5,zt 63 3 6,zx 64 53 [.t 62,.t 63],zp (.store 3 (.t 8) (.t 64))] .ret) (zq [zo 66 (.bin .eql (.t 9) (zu 23)),zm 65 66] (.cond (.t 65) (zq [zt 67 3 5,zx 68 52 [.t 67],zp (.store 3 (.t 8) (.t 68))] .ret) (zq [zo 70 (.bin .eql (.t 9) (zu 31)),zm 69 70] (.cond (.t 69) (zq [zt 71 3 7,zf 72 0 5,zl 73 72,zf 74 0 6,zl 75 74,zx 76 122 [.t 71,.t 73,.t 75],zp (.store 3 (.t 8) (.t 76))] .ret) .skip)))))))))))))))))))))))))))) (zq [zm 77 0,zf 78 0 5,zl 79 78,zf 80 0 6,zl 81 80,zx 82 123 [.t 77,.t 79,.t 81],zp (.store 3 (.t 8) (.t 82))] .ret)),[.cell true 3 8]⟩
theorem za98:cN Tryz.prog 98=some c98:=by kernel_rfl
def c119:AFn:=⟨8,zq [zo 2 (.box (.t 0)),zo 3 (.box (.t 1)),zo 4 (.new [zI 0,zI 0,zI 0])] (zq [zt 5 3 3,zo 6 (.mkFunc (.func 138) [] [.t 2]),zx 7 137 [.t 5,.t 6],zp (.store 3 (.t 4) (.t 7))] .ret),[.cell true 3 4]⟩
theorem za119:cN Tryz.prog 119=some c119:=by kernel_rfl
def c138:AFn:=⟨7,zq [zo 3 (.mv (zi 0))] (zq [zm 4 0,zl 5 1,zx 6 60 [.t 4,.t 5],zm 3 6] .ret),[.t 3]⟩
theorem za138:cN Tryz.prog 138=some c138:=by kernel_rfl
def c137:AFn:=⟨18,zq [zo 2 (.box (.t 0)),zo 4 (.new [zI 0,zI 0,zI 0])] (.seq (.draw [zm 5 1,zf 6 0 2,zl 7 6,zo 8 (.callv (.t 5) [.t 7]),zm 9 1,zf 10 1 2,zl 11 10,zo 12 (.callv (.t 9) [.t 11]),zm 13 1,zf 14 2 2,zl 15 14,zo 16 (.callv (.t 13) [.t 15]),zo 17 (.build [zI 0,zI 0,zI 0] [(0,1,.t 8),(1,1,.t 12),(2,1,.t 16)]),zp (.store 3 (.t 4) (.t 17))] [[],[],[],[],[],[],[3],[],[],[],[3,7],[],[],[]]) .ret),[.cell true 3 4]⟩
theorem za137:cN Tryz.prog 137=some c137:=by kernel_rfl
def c120:AFn:=⟨8,zq [zo 2 (.box (.t 0)),zo 3 (.box (.t 1)),zo 4 (.new [zI 0,zI 0,zI 0])] (zq [zt 5 3 2,zo 6 (.mkFunc (.func 139) [] [.t 3]),zx 7 137 [.t 5,.t 6],zp (.store 3 (.t 4) (.t 7))] .ret),[.cell true 3 4]⟩
theorem za120:cN Tryz.prog 120=some c120:=by kernel_rfl
def c139:AFn:=⟨7,zq [zo 3 (.mv (zi 0))] (zq [zm 4 0,zl 5 1,zx 6 63 [.t 4,.t 5],zm 3 6] .ret),[.t 3]⟩
theorem za139:cN Tryz.prog 139=some c139:=by kernel_rfl
def c121:AFn:=⟨5,zq [zo 1 (.box (.t 0)),zo 2 (.new [zI 0,zI 0,zI 0])] (zq [zt 3 3 1,zx 4 137 [.t 3,.f 140],zp (.store 3 (.t 2) (.t 4))] .ret),[.cell true 3 2]⟩
theorem za121:cN Tryz.prog 121=some c121:=by kernel_rfl
def c140:AFn:=⟨5,zq [zo 2 (.mv (zi 0))] (zq [zm 3 0,zx 4 87 [zi 0,.t 3],zm 2 4] .ret),[.t 2]⟩
theorem za140:cN Tryz.prog 140=some c140:=by kernel_rfl
def c122:AFn:=⟨34,zq [zo 3 (.box (.t 0)),zo 6 (.new [zI 0,zI 0,zI 0])] (zr [zt 9 3 3,zx 10 141 [.t 9],zo 11 (.un .not (.t 10))] 11 (zq [zo 12 (.build [zI 0,zI 0,zI 0] []),zp (.store 3 (.t 6) (.t 12))] .ret) .skip (.seq (.draw [zm 13 2,zf 14 1 3,zl 15 14,zx 16 142 [.t 13,.t 15],zf 17 0 3,zl 18 17,zb 19 .mul 16 18,zm 20 1,zf 21 0 3,zl 22 21,zx 23 142 [.t 20,.t 22],zb 24 .add 19 23,zo 25 (.bin .mul (zi 4) (.t 24)),zo 7 (.new [zI 0]),zs 7 25] [[],[],[],[],[],[3,14],[],[],[],[3],[],[],[],[3,10],[]]) (zq [zo 26 (.mkFunc (.func 143) [] [.t 3,.t 7]),zm 8 26] (zq [zm 27 8,zo 28 (.callv (.t 27) [zi 0]),zm 29 8,zo 30 (.callv (.t 29) [zi 1]),zm 31 8,zo 32 (.callv (.t 31) [zi 2]),zo 33 (.build [zI 0,zI 0,zI 0] [(0,1,.t 28),(1,1,.t 30),(2,1,.t 32)]),zp (.store 3 (.t 6) (.t 33))] .ret)))),[.cell true 3 6]⟩
theorem za122:cN Tryz.prog 122=some c122:=by kernel_rfl
def c141:AFn:=⟨33,zq [zo 1 (.box (.t 0)),zo 2 (.mv (.c (.bool false)))] (zq [zf 3 0 1,zl 4 3,zk 5 .geq 4 1,zm 6 5,zg 7 (.fieldA 0 (.t 1)) 6 true,zg 8 (.load false 1 (.t 7)) 6 true,zg 9 (.bin .leq (.t 8) (zi 1024)) 6 true,zo 10 (.pick (.t 6) (.t 9) (.c (.bool false))),zm 11 10,zg 12 (.fieldA 1 (.t 1)) 11 true,zg 13 (.load false 1 (.t 12)) 11 true,zg 14 (.bin .geq (.t 13) (zi 1)) 11 true,zo 15 (.pick (.t 11) (.t 14) (.c (.bool false))),zm 16 15,zg 17 (.fieldA 1 (.t 1)) 16 true,zg 18 (.load false 1 (.t 17)) 16 true,zg 19 (.bin .leq (.t 18) (zi 1024)) 16 true,zo 20 (.pick (.t 16) (.t 19) (.c (.bool false))),zm 21 20,zg 22 (.fieldA 2 (.t 1)) 21 true,zg 23 (.load false 1 (.t 22)) 21 true,zg 24 (.len false (.t 23)) 21 true,zg 25 (.fieldA 0 (.t 1)) 21 true,zg 26 (.load false 1 (.t 25)) 21 true,zg 27 (.bin .mul (zi 4) (.t 26)) 21 true,zg 28 (.fieldA 1 (.t 1)) 21 true,zg 29 (.load false 1 (.t 28)) 21 true,zg 30 (.bin .mul (.t 27) (.t 29)) 21 true,zg 31 (.bin .eql (.t 24) (.t 30)) 21 true,zo 32 (.pick (.t 21) (.t 31) (.c (.bool false))),zm 2 32] .ret),[.t 2]⟩
theorem za141:cN Tryz.prog 141=some c141:=by kernel_rfl
def c142:AFn:=⟨16,zq [zo 4 (.mv (zi 0))] (zq [zm 6 0,zm 7 0,zx 8 68 [.t 7],zx 9 65 [.t 8],zx 10 87 [.t 6,.t 9],zm 5 10] (zq [zm 11 5,zm 12 1,zx 13 65 [.t 12],zx 14 60 [.t 11,.t 13],zx 15 68 [.t 14],zm 4 15] .ret)),[.t 4]⟩
theorem za142:cN Tryz.prog 142=some c142:=by kernel_rfl
def c143:AFn:=⟨16,zq [zo 4 (.mv (zi 0))] (zq [zf 5 2 1,zl 6 5,zl 7 2,zm 8 0,zb 9 .add 7 8,zd 10 6 9,zl 11 10,zv 12 .i64 11,zx 13 65 [.t 12],zx 14 65 [zi 255],zx 15 63 [.t 13,.t 14],zm 4 15] .ret),[.t 4]⟩
theorem za143:cN Tryz.prog 143=some c143:=by kernel_rfl
def c123:AFn:=⟨110,zq [zo 6 (.new [zI 0,zI 0,zI 0])] (.seq (zq [zm 7 0] (.block 0 (zq [zo 9 (.bin .eql (.t 7) (zu 8)),zm 8 9] (.cond (.t 8) (zq [zm 10 1,zk 11 .eql 10 0,zx 12 144 [.t 11],zp (.store 3 (.t 6) (.t 12))] .ret) (zq [zo 14 (.bin .eql (.t 7) (zu 9)),zm 13 14] (.cond (.t 13) (zq [zm 15 1,zm 16 2,zb 17 .eql 15 16,zx 18 144 [.t 17],zp (.store 3 (.t 6) (.t 18))] .ret) (zq [zo 20 (.bin .eql (.t 7) (zu 10)),zm 19 20] (.cond (.t 19) (zq [zm 21 1,zm 22 2,zb 23 .neq 21 22,zx 24 144 [.t 23],zp (.store 3 (.t 6) (.t 24))] .ret) (zq [zo 26 (.bin .eql (.t 7) (zu 11)),zm 25 26] (.cond (.t 25) (zq [zm 27 1,zm 28 2,zb 29 .leq 27 28,zx 30 144 [.t 29],zp (.store 3 (.t 6) (.t 30))] .ret) (zq [zo 32 (.bin .eql (.t 7) (zu 12)),zm 31 32] (.cond (.t 31) (zq [zm 33 1,zm 34 2,zb 35 .geq 33 34,zx 36 144 [.t 35],zp (.store 3 (.t 6) (.t 36))] .ret) (zq [zo 38 (.bin .eql (.t 7) (zu 13)),zm 37 38] (.cond (.t 37) (zq [zm 39 1,zm 40 2,zb 41 .lss 39 40,zx 42 144 [.t 41],zp (.store 3 (.t 6) (.t 42))] .ret) (zq [zo 44 (.bin .eql (.t 7) (zu 14)),zm 43 44] (.cond (.t 43) (zq [zm 45 1,zm 46 2,zb 47 .gtr 45 46,zx 48 144 [.t 47],zp (.store 3 (.t 6) (.t 48))] .ret) (zq [zo 50 (.bin .eql (.t 7) (zu 15)),zm 49 50] (.cond (.t 49) (zq [zm 51 1,zk 52 .neq 51 0,zm 53 52,zg 54 (.mv (.t 2)) 53 true,zg 55 (.bin .neq (.t 54) (zi 0)) 53 true,zo 56 (.pick (.t 53) (.t 55) (.c (.bool false))),zx 57 144 [.t 56],zp (.store 3 (.t 6) (.t 57))] .ret) (zq [zo 59 (.bin .eql (.t 7) (zu 16)),zm 58 59] (.cond (.t 58) (zq [zm 60 1,zk 61 .neq 60 0,zm 62 61,zg 63 (.mv (.t 2)) 62 false,zg 64 (.bin .neq (.t 63) (zi 0)) 62 false,zo 65 (.pick (.t 62) (.c (.bool true)) (.t 64)),zx 66 144 [.t 65],zp (.store 3 (.t 6) (.t 66))] .ret) (zq [zo 68 (.bin .eql (.t 7) (zu 24)),zm 67 68] (.cond (.t 67) (zq [zm 69 1,zx 70 104 [.t 69],zx 71 97 [.t 70],zp (.store 3 (.t 6) (.t 71))] .ret) (zq [zo 73 (.bin .eql (.t 7) (zu 25)),zm 72 73] (.cond (.t 72) (zq [zm 74 1,zx 75 106 [.t 74],zx 76 97 [.t 75],zp (.store 3 (.t 6) (.t 76))] .ret) (zq [zo 78 (.bin .eql (.t 7) (zu 26)),zm 77 78] (.cond (.t 77) (zq [zm 79 1,zx 80 105 [.t 79],zx 81 97 [.t 80],zp (.store 3 (.t 6) (.t 81))] .ret) (zq [zo 83 (.bin .eql (.t 7) (zu 27)),zm 82 83] (.cond (.t 82) (zr [zm 84 1,zk 85 .lss 84 0] 85 (zq [zm 86 1,zx 87 87 [zi 0,.t 86],zx 88 97 [.t 87],zp (.store 3 (.t 6) (.t 88))] .ret) .skip (zq [zm 89 1,zx 90 97 [.t 89],zp (.store 3 (.t 6) (.t 90))] .ret)) (zq [zo 92 (.bin .eql (.t 7) (zu 28)),zm 91 92] (.cond (.t 91) (zq [zm 93 1,zx 94 68 [.t 93],zx 95 65 [.t 94],zx 96 97 [.t 95],zp (.store 3 (.t 6) (.t 96))] .ret) (zq [zo 98 (.bin .eql (.t 7) (zu 29)),zm 97 98] (.cond (.t 97) (zq [zm 99 1,zm 100 2,zo 101 (.pf (.mm false) [.t 99,.t 100]),zx 102 97 [.t 101],zp (.store 3 (.t 6) (.t 102))] .ret) (zq [zo 104 (.bin .eql (.t 7) (zu 30)),zm 103 104] (.cond (.t 103) (zq [zm 105 1,zm 106 2,zo 107 (.pf (.mm true) [.t 105,.t 106]),zx 108 97 [.t 107],zp (.store 3 (.t 6) (.t 108))] .ret) .skip)))))))))))))))))))))))))))))))))) (zq [zo 109 (.build [zI 0,zI 0,zI 0] []),zp (.store 3 (.t 6) (.t 109))] .ret)),[.cell true 3 6]⟩
theorem za123:cN Tryz.prog 123=some c123:=by kernel_rfl
def c144:AFn:=⟨6,zq [zo 2 (.new [zI 0,zI 0,zI 0])] (zr [zm 3 0] 3 (zq [zx 4 97 [zi 4294967296],zp (.store 3 (.t 2) (.t 4))] .ret) .skip (zq [zo 5 (.build [zI 0,zI 0,zI 0] []),zp (.store 3 (.t 2) (.t 5))] .ret)),[.cell true 3 2]⟩
theorem za144:cN Tryz.prog 144=some c144:=by kernel_rfl
end
open Go.Abs Go.Abs.S
def bxAt(bs:List Bx)(i:Nat):Bx:=(bs[i]?).getD ⟨V0,V0⟩
def keyF(bs:List Bx)(ax:Nat)(i:Nat):Int:=let b:=bxAt bs i; match ax with
 | 0=>fAdd b.lo.x b.hi.x
 | 1=>fAdd b.lo.y b.hi.y
 | _=>fAdd b.lo.z b.hi.z
def ltF(bs:List Bx)(ax:Nat)(i j:Nat):Bool:=decide (keyF bs ax i<keyF bs ax j)||(decide (keyF bs ax i=keyF bs ax j)&&decide (i<j))
def insF(lt:Nat→Nat→Bool)(x:Nat):List Nat→List Nat
 | []=>[x]
 | y::r=>bif lt x y then y::insF lt x r else x::y::r
def sortF(lt:Nat→Nat→Bool)(l:List Nat):List Nat:=(l.foldl (fun acc x=>insF lt x acc) []).reverse
def axisF(b:Bx):Nat:=
 let x:=fSub b.hi.x b.lo.x
 let y:=fSub b.hi.y b.lo.y
 let z:=fSub b.hi.z b.lo.z
 if z≤x∧y≤x then 0 else if z≤y then 1 else 2
def cutL(l:List Nat)(a b:Nat):List Nat:=(l.drop a).take (b-a)
def aroundF(bs:List Bx):List Nat→Bx
 | []=>⟨V0,V0⟩
 | i::r=>r.foldl (fun o j=>uni o (bxAt bs j)) (bxAt bs i)
def addF(bs:List Bx):Nat→Nat→Nat→List Nod×List Nat→List Nod×List Nat
 | 0,_,_,p=>p
 | k+1,a,b,(ns,os)=>
  let n:Nod:=⟨aroundF bs (cutL os a b),a,b,-1,-1⟩
  if b-a≤2 then (ns++[n],os) else
  let os1:=os.take a++(sortF (ltF bs (axisF n.box)) (cutL os a b)++os.drop b)
  let h:=a+(b-a) / 2
  let p1:=addF bs k a h (ns++[n],os1)
  let p2:=addF bs k h b p1
  (p2.1.set ns.length { n with first:=ns.length+1,second:=p1.1.length },p2.2)
def boxesF(m:Msh):List Bx:=(List.range m.n).map (boxOf m)
def buildF(m:Msh):Tre:=if m.n=0 then ⟨m,[],[]⟩ else let p:=addF (boxesF m) 20 0 m.n ([],List.range m.n); ⟨m,p.1,p.2⟩
structure Tex where
 w:Int
 h:Int
 pix:List UInt8
def texOk(t:Tex):Bool:=decide (1≤t.w)&&(decide (t.w≤1024)&&(decide (1≤t.h)&&(decide (t.h≤1024)&&decide ((t.pix.length:Int)=4*t.w*t.h))))
def placeF(u many:Int):Int:=fFloor (fMul (fSub u (fOf (fFloor u))) (fOf many))
def sampleF(t:Tex)(u v:Int):V:=bif texOk t then
  let at_:=4*(placeF v t.h*t.w+placeF u t.w)
  let part (i:Nat):Int:=fDiv (fOf (((t.pix[at_.toNat+i]?).getD 0).toNat:Int)) (fOf 255)
  ⟨part 0,part 1,part 2⟩
 else V0
structure InZ where
 o:Nat
 a:Int
 b:Int
 c:Int
structure Cod where
 consts:List Int
 regs:Int
 code:List InZ
def truthF(b:Bool):V:=bif b then ⟨4294967296,0,0⟩ else V0
def numV(n:Int):V:=⟨n,0,0⟩
def ofNumF(op:Nat)(a b:Int):V:=
 if op=8 then truthF (decide (a=0)) else
 if op=9 then truthF (decide (a=b)) else
 if op=10 then truthF (!decide (a=b)) else
 if op=11 then truthF (decide (a≤b)) else
 if op=12 then truthF (decide (b≤a)) else
 if op=13 then truthF (decide (a<b)) else
 if op=14 then truthF (decide (b<a)) else
 if op=15 then truthF (!decide (a=0)&&!decide (b=0)) else
 if op=16 then truthF (!decide (a=0)||!decide (b=0)) else
 if op=24 then numV (fSqrt a) else
 if op=25 then numV (fSin a) else
 if op=26 then numV (fCos a) else
 if op=27 then numV (if a<0 then fSub 0 a else a) else
 if op=28 then numV (fOf (fFloor a)) else
 if op=29 then numV (min a b) else
 if op=30 then numV (max a b) else V0
def applyF(op:Nat)(b c:V)(t:Tex):V:=
 if op=2 then b else
 if op=3 then vAdd b c else
 if op=4 then vSub b c else
 if op=5 then vScale c b.x else
 if op=6 then vOver b c.x else
 if op=7 then ⟨fSub 0 b.x,fSub 0 b.y,fSub 0 b.z⟩ else
 if op=18 then numV b.x else
 if op=19 then numV b.y else
 if op=20 then numV b.z else
 if op=21 then numV (vDot b c) else
 if op=22 then vCross b c else
 if op=23 then vUnit b else
 if op=31 then sampleF t b.x c.x else ofNumF op b.x c.x
def rg(regs:List V)(i:Int):V:=(regs[i.toNat]?).getD V0
def vmF(s:Cod)(t:Tex):Nat→Nat→List V→Nat→V×Nat
 | 0,_,_,steps=>(V0,steps)
 | k+1,at_,regs,steps=>match s.code[at_]? with
  | none=>(V0,steps)
  | some i=>
   if i.o=1 then vmF s t k (at_+1) (regs.set i.a.toNat (numV ((s.consts[i.b.toNat]?).getD 0))) (steps+1) else
   if i.o=17 then vmF s t k (at_+1) (regs.set i.a.toNat ⟨(rg regs i.b).x,(rg regs (i.b+1)).x,(rg regs (i.b+2)).x⟩) (steps+1) else
   if i.o=32 then vmF s t k i.c.toNat regs (steps+1) else
   if i.o=33 then vmF s t k (if (rg regs i.a).x=0 then i.c.toNat else at_+1) regs (steps+1) else
   if i.o=34 then (rg regs i.a,steps+1) else
   vmF s t k (at_+1) (regs.set i.a.toNat (applyF i.o (rg regs i.b) (rg regs i.c) t)) (steps+1)
def lookRegs(n:Nat)(u v:Int)(p q:V):List V:=[numV u,numV v,p,q]++List.replicate (n-4) V0
def shadeF(s:Cod)(t:Tex)(u v:Int)(p q:V):V×Nat:=vmF s t 200 0 (lookRegs s.regs.toNat u v p q) 0
structure Prt where
 msh:Msh
 tre:Tre
 at_:V
 mat:Nat→Nat
structure Wrl where
 sc:Sc
 parts:List Prt
 shades:List Cod
 pics:List Tex
def Wrl.samples(w:Wrl):Nat:=w.sc.sm.toNat
def Wrl.bounces(w:Wrl):Nat:=w.sc.bo.toNat
def movedF(p:Prt)(r:Ray):Ray:=⟨vSub r.o p.at_,r.d⟩
def nearF(least:Int)(r:Ray):List Prt→Nat→Hit×Int×Nat→Hit×Int×Nat
 | [],_,q=>q
 | p::l,i,(best,which,cost)=>
  let h:=treeF p.tre (movedF p r) least
  nearF least r l (i+1) (if 0≤h.1.i∧(which<0∨h.1.t<best.t) then (h.1,(i:Int),cost+h.2) else (best,which,cost+h.2))
def nearestF(w:Wrl)(r:Ray)(least:Int):Hit×Int×Nat:=nearF least r w.parts 0 (noHit,-1,1)
structure Pth where
 pixel:Int
 sample:Nat
 bounce:Nat
 ray:Ray
 thr:V
 sum:V
 over:Bool
 rays:Int
 shades:Int
def Pth.draw(w:Wrl)(p:Pth)(d:Int):Int:=drawF w.sc.seed p.pixel p.sample d
def startF(w:Wrl)(p:Pth):Pth:={ p with bounce:=0,thr:=⟨4294967296,4294967296,4294967296⟩,ray:=cameraF w.sc.cam (p.pixel.tmod w.sc.cam.w) (p.pixel.tdiv w.sc.cam.w) (p.draw w 0) (p.draw w 1) }
def endF(w:Wrl)(p:Pth):Pth:=if w.samples≤p.sample+1 then { p with sample:=p.sample+1,over:=true } else startF w { p with sample:=p.sample+1 }
def shineF(p:Pth)(c:V):Pth:={ p with sum:=vAdd p.sum (vMul p.thr c) }
def stopsF(w:Wrl)(p:Pth):Bool×Pth:=
 if w.bounces≤p.bounce∨p.thr=V0 then (true,p) else
 if p.bounce<3 then (false,p) else
 let q:=min (max (max p.thr.x p.thr.y) p.thr.z) 4294967296
 if q≤p.draw w (30+p.bounce) then (true,p) else (false,{ p with thr:=vOver p.thr q })
def goOnF(w:Wrl)(k:Nat)(pt n:V)(p:Pth):Pth:=
 { p with ray:=⟨pt,bounceF ((if k=4 then 1 else k:Nat):Int) p.ray.d n (p.draw w (2+2*p.bounce)) (p.draw w (3+2*p.bounce))⟩,bounce:=p.bounce+1 }
def surfF(w:Wrl)(m:Mt)(pt n:V)(sh:V×Nat)(cost:Nat)(p:Pth):(Nat×Bool)×Pth:=
 let q:=if m.k=4 then { p with thr:=vMul p.thr (vClamp sh.1),shades:=p.shades+sh.2 } else { p with thr:=vMul p.thr m.c }
 let st:=stopsF w q
 if st.1 then ((cost+sh.2,(endF w st.2).over),endF w st.2) else ((cost+sh.2,(goOnF w m.k pt n st.2).over),goOnF w m.k pt n st.2)
def doneF(w:Wrl)(cost:Nat)(p:Pth):(Nat×Bool)×Pth:=((cost,(endF w p).over),endF w p)
def shdF(w:Wrl)(k:Nat)(number:Nat)(h:Hit)(pt n:V):V×Nat:=if k=4 then (match w.shades[number]?,w.pics[number]? with
 | some s,some t=>shadeF s t h.u h.v pt n
 | _,_=>(V0,0)) else (V0,0)
def stepF(w:Wrl)(p:Pth):(Nat×Bool)×Pth:=
 if p.over then ((0,true),p) else
 let nr:=nearestF w p.ray (if p.bounce=0 then 1 else 65536)
 let h:=nr.1
 let cost:=nr.2.2
 let p:={ p with rays:=p.rays+1 }
 if nr.2.1<0 then doneF w cost (shineF p w.sc.sky) else
 match w.parts[nr.2.1.toNat]? with
 | none=>doneF w cost (shineF p w.sc.sky)
 | some pr=>
  match w.sc.ms[pr.mat h.i.toNat]? with
  | none=>doneF w cost p
  | some m=>
   let n:=normalF pr.msh h (movedF pr p.ray)
   let pt:=lookP p.ray h
   if m.k=3 then doneF w cost (shineF p m.c) else surfF w m pt n (shdF w m.k (pr.mat h.i.toNat) h pt n) cost p
open Go.Abs Go.Abs.S
theorem nearF_cost(least:Int)(r:Ray):∀(l:List Prt) (i:Nat) (q:Hit×Int×Nat),q.2.2≤(nearF least r l i q).2.2
 | [],_,q=>Nat.le_refl _
 | p::l,i,(best,which,cost)=>by
  simp only[nearF]
  refine Nat.le_trans ?_ (nearF_cost least r l (i+1) _)
  split <;> simp
theorem near_cost(w:Wrl)(r:Ray)(least:Int):1≤(nearestF w r least).2.2:=nearF_cost least r w.parts 0 (noHit,-1,1)
def Going(w:Wrl)(p:Pth):Prop:=p.over=false∧p.sample<w.samples∧p.bounce≤w.bounces
def posF(w:Wrl)(p:Pth):Nat:=p.sample*(w.bounces+1)+p.bounce
def After(w:Wrl)(p:Pth)(over:Bool)(q:Pth):Prop:=q.over=over∧q.pixel=p.pixel∧(over=false→Going w q∧posF w p<posF w q)
theorem end_after(w:Wrl){p p0:Pth}(h0:Going w p0)(h1:p.over=false)(h2:p.sample=p0.sample)(h3:p.pixel=p0.pixel):After w p0 (endF w p).over (endF w p):=by
 unfold endF
 obtain⟨g1,g2,g3⟩:=h0
 split
 ·exact⟨rfl,h3,fun h=>by simp at h⟩
 ·rename_i hs
  refine⟨rfl,h3,fun _=>⟨⟨h1,by show p.sample+1<_; omega,Nat.zero_le _⟩,?_⟩⟩
  show p0.sample*(w.bounces+1)+p0.bounce<(p.sample+1)*(w.bounces+1)+0
  rw[h2,Nat.add_mul]
  omega
theorem stops_same(w:Wrl)(p:Pth):(stopsF w p).2.over=p.over∧(stopsF w p).2.pixel=p.pixel∧(stopsF w p).2.sample=p.sample∧(stopsF w p).2.bounce=p.bounce∧((stopsF w p).1=false→p.bounce<w.bounces):=by
 unfold stopsF
 split
 ·exact⟨rfl,rfl,rfl,rfl,fun h=>by simp at h⟩
 ·rename_i h
  have hb:p.bounce<w.bounces:=om
  split
  ·exact⟨rfl,rfl,rfl,rfl,fun _=>hb⟩
  ·simp only
   split
   ·exact⟨rfl,rfl,rfl,rfl,fun h=>by simp at h⟩
   ·exact⟨rfl,rfl,rfl,rfl,fun _=>hb⟩
theorem done_after(w:Wrl){p p0:Pth}{cost:Nat}(hc:1≤cost)(h0:Going w p0)(h1:p.over=false)(h2:p.sample=p0.sample)(h3:p.pixel=p0.pixel):1≤(doneF w cost p).1.1∧After w p0 (doneF w cost p).1.2 (doneF w cost p).2:=⟨hc,end_after w h0 h1 h2 h3⟩
theorem surf_after(w:Wrl)(m:Mt)(pt n:V)(sh:V×Nat){p p0:Pth}{cost:Nat}(hc:1≤cost)(h0:Going w p0)(h1:p.over=false)(h2:p.sample=p0.sample)(h3:p.pixel=p0.pixel)(h4:p.bounce=p0.bounce):1≤(surfF w m pt n sh cost p).1.1∧After w p0 (surfF w m pt n sh cost p).1.2 (surfF w m pt n sh cost p).2:=by
 unfold surfF
 obtain⟨q,hq⟩:∃q,q=(if m.k=4 then { p with thr:=vMul p.thr (vClamp sh.1),shades:=p.shades+sh.2 } else { p with thr:=vMul p.thr m.c }):=⟨_,rfl⟩
 have hs:q.over=p.over∧q.pixel=p.pixel∧q.sample=p.sample∧q.bounce=p.bounce:=by
  rw[hq]; split <;> exact⟨rfl,rfl,rfl,rfl⟩
 rw[← hq]
 simp only
 obtain⟨a1,a2,a3,a4⟩:=hs
 obtain⟨b1,b2,b3,b4,b5⟩:=stops_same w q
 split
 ·exact⟨Nat.le_trans hc (Nat.le_add_right _ _),end_after w h0 (by rw[b1,a1]; exact h1) (by rw[b3,a3]; exact h2) (by rw[b2,a2]; exact h3)⟩
 ·rename_i hst
  have hb:=b5 (by simpa using hst)
  obtain⟨g1,g2,g3⟩:=h0
  refine⟨Nat.le_trans hc (Nat.le_add_right _ _),rfl,?_,fun _=>⟨⟨?_,?_,?_⟩,?_⟩⟩
  ·show (stopsF w q).2.pixel=_; rw[b2,a2]; exact h3
  ·show (stopsF w q).2.over=_; rw[b1,a1]; exact h1
  ·show (stopsF w q).2.sample<_; rw[b3,a3,h2]; exact g2
  ·show (stopsF w q).2.bounce+1≤_; rw[b4]; exact hb
  ·show p0.sample*(w.bounces+1)+p0.bounce<(stopsF w q).2.sample*(w.bounces+1)+((stopsF w q).2.bounce+1)
   rw[b3,b4,a3,a4,h2,h4]
   omega
theorem step_after(w:Wrl){p:Pth}(h:Going w p):1≤(stepF w p).1.1∧After w p (stepF w p).1.2 (stepF w p).2:=by
 have hc:=near_cost w p.ray (if p.bounce=0 then 1 else 65536)
 unfold stepF
 rw[if_neg (by rw[h.1]; simp)]
 generalize nearestF w p.ray (if p.bounce=0 then 1 else 65536)=nr at hc ⊢
 simp only
 split
 ·exact done_after w hc h h.1 rfl rfl
 split
 ·exact done_after w hc h h.1 rfl rfl
 split
 ·exact done_after w hc h h.1 rfl rfl
 split
 ·exact done_after w hc h h.1 rfl rfl
 ·exact surf_after w _ _ _ _ hc h h.1 rfl rfl rfl
theorem pos_lt(w:Wrl){p:Pth}(h:Going w p):posF w p<w.samples*(w.bounces+1):=by
 obtain⟨_,g2,g3⟩:=h
 unfold posF
 have:(p.sample+1)*(w.bounces+1)≤w.samples*(w.bounces+1):=Nat.mul_le_mul_right _ g2
 rw[Nat.add_mul]at this
 omega
end Go.Proofs.Tc
namespace Go.Proofs.Tx
open Go.Abs Go.Abs.S
theorem and32{x:Nat}(h:x<18446744073709551616):aBin .and (.int .u64 (x:Int)) (.int .u64 4294967295)=some (.int .u64 ((x % 4294967296:Nat):Int)):=by
 have:=bin_andU64 (a:=x) (b:=4294967295) om om
 rw[show x &&& 4294967295=x % 4294967296 from Nat.and_two_pow_sub_one_eq_mod x 32]at this
 exact this
theorem shr32(x:Nat):aBin .shr (.int .u64 (x:Int)) (.int .u64 32)=some (.int .u64 ((x / 4294967296:Nat):Int)):=
 shrN .u64 .u64 x (b:=32) dD
theorem shl32{x:Nat}(h:x<4294967296):aBin .shl (.int .u64 (x:Int)) (.int .u64 32)=some (.int .u64 ((x*4294967296:Nat):Int)):=by
 rw[show (AVal.int .u64 32)=.int .u64 ((32:Nat):Int) from rfl,bin_shl]
 congr 2
 rw[show min 32 IntKind.u64.bits=32 from rfl,IntKind.wrap_u64]; omega
theorem shl32w(x:Nat):aBin .shl (.int .u64 (x:Int)) (.int .u64 32)=some (.int .u64 ((x*4294967296 % 18446744073709551616:Nat):Int)):=by
 rw[show (AVal.int .u64 32)=.int .u64 ((32:Nat):Int) from rfl,bin_shl]
 refine congrArg (fun z=>some (AVal.int .u64 z)) ?_
 rw[show min 32 IntKind.u64.bits=32 from rfl,IntKind.wrap_u64]; omega
theorem ishl32{x:Int}(h1:-2147483648≤x)(h2:x≤2147483647):aBin .shl (.int .i64 x) (.int .u64 32)=some (.int .i64 (x*4294967296)):=by
 rw[show (AVal.int .u64 32)=.int .u64 ((32:Nat):Int) from rfl,bin_shl]
 congr 2
 rw[show min 32 IntKind.i64.bits=32 from rfl,IntKind.wrap_i64]; omega
theorem ishr32(x:Int):aBin .shr (.int .i64 x) (.int .u64 32)=some (.int .i64 (x / 4294967296)):=by
 rw[show (AVal.int .u64 32)=.int .u64 ((32:Nat):Int) from rfl,bin_shr]
 congr 2
 rw[show min 32 IntKind.i64.bits=32 from rfl,Int.fdiv_eq_ediv_of_nonneg _ dD]
 rfl
theorem uw{a:Nat}(h:a<18446744073709551616):IntKind.u64.wrap (a:Int)=(a:Int):=wrapU64' (Int.natCast_nonneg _) om
theorem wmul{a b:Nat}(h:a*b<18446744073709551616):IntKind.u64.wrap ((a:Int)*(b:Int))=((a*b:Nat):Int):=by
 rw[show (a:Int)*b=((a*b:Nat):Int) by simp]; exact uw h
theorem wmulw(a b:Nat):IntKind.u64.wrap ((a:Int)*(b:Int))=((a*b % 18446744073709551616:Nat):Int):=by
 rw[show (a:Int)*b=((a*b:Nat):Int) by simp,IntKind.wrap_u64]
 generalize a*b=c; omega
theorem wadd{a b:Nat}(h:a+b<18446744073709551616):IntKind.u64.wrap ((a:Int)+(b:Int))=((a+b:Nat):Int):=by
 rw[show (a:Int)+b=((a+b:Nat):Int) by simp]; exact uw h
theorem wsub{a b:Nat}(h:b≤a)(ha:a<18446744073709551616):IntKind.u64.wrap ((a:Int)-(b:Int))=((a-b:Nat):Int):=by
 rw[show (a:Int)-b=((a-b:Nat):Int) by omega]; exact uw om
theorem orU64{a b:Nat}(ha:a<18446744073709551616)(hb:b<18446744073709551616):aBin .or (.int .u64 (a:Int)) (.int .u64 (b:Int))=some (.int .u64 ((a ||| b:Nat):Int)):=by
 have e:(BitVec.ofInt IntKind.u64.bits (a:Int) ||| BitVec.ofInt IntKind.u64.bits (b:Int)).toNat=a ||| b:=by
  rw[BitVec.toNat_or,ofInt_nat,ofInt_nat]
  have h1:a % 2 ^ IntKind.u64.bits=a:=Nat.mod_eq_of_lt (by simp only[IntKind.bits]; omega)
  have h2:b % 2 ^ IntKind.u64.bits=b:=Nat.mod_eq_of_lt (by simp only[IntKind.bits]; omega)
  rw[h1,h2]
 simp only[aBin,isShift,cond_false,if_true,aIntF_eq,aInt,e]
 have h3:a ||| b<2 ^ 64:=Nat.or_lt_two_pow om om
 rw[uw om]
theorem lt32_mul{a b:Nat}(ha:a<4294967296)(hb:b<4294967296):a*b≤18446744065119617025:=
 Nat.mul_le_mul (show a≤4294967295 by omega) (show b≤4294967295 by omega)
theorem halves(x y:Nat):∃ac ad bc bd:Nat,ac=(x / 4294967296)*(y / 4294967296)∧ad=(x / 4294967296)*(y % 4294967296)∧bc=(x % 4294967296)*(y / 4294967296)∧bd=(x % 4294967296)*(y % 4294967296) ∧
  x*y=ac*18446744073709551616+(ad+bc)*4294967296+bd:=by
 refine⟨_,_,_,_,rfl,rfl,rfl,rfl,?_⟩
 have hx:x=(x / 4294967296)*4294967296+x % 4294967296:=om
 have hy:y=(y / 4294967296)*4294967296+y % 4294967296:=om
 generalize x / 4294967296=a at *
 generalize x % 4294967296=b at *
 generalize y / 4294967296=c at *
 generalize y % 4294967296=d at *
 subst hx hy
 simp only[Nat.add_mul,Nat.mul_add]
 have e1:a*4294967296*(c*4294967296)=a*c*18446744073709551616:=by
  rw[Nat.mul_mul_mul_comm]
 have e2:a*4294967296*d=a*d*4294967296:=by rw[Nat.mul_right_comm]
 have e3:b*(c*4294967296)=b*c*4294967296:=by rw[Nat.mul_assoc]
 rw[e1,e2,e3]; omega
end Go.Proofs.Tx
namespace Go.Proofs.Tc
open Go.Abs Go.Abs.S
open Go.Proofs.Tx (and32 shr32 shl32 shl32w ishl32 ishr32 uw wmul wmulw wadd wsub orU64 lt32_mul halves)
theorem of_spec{n:Int}{H:AHeap}:ACalls Tryz.prog noNat 65 [.int .i64 n] H fun v H'=>v=.int .i64 (fOf n)∧H=H':=by
 refine acalls_ofN rfl za65 rfl ?_
 unfold fOf
 by_cases h1:2147483647<n
 ·simp only[c65,sA,sB,seval,h1]; exact⟨tt,tt⟩
 ·by_cases h2:n < -2147483648
  ·simp only[c65,sA,sB,seval,h1,h2]; exact⟨tt,tt⟩
  ·simp only[c65,sA,sB,seval,h1,h2,ishl32 (show -2147483648≤n by omega) (show n≤2147483647 by omega)]; exact⟨tt,tt⟩
theorem floor_spec{x:Int}{H:AHeap}:ACalls Tryz.prog noNat 68 [.int .i64 x] H fun v H'=>v=.int .i64 (fFloor x)∧H=H':=by
 refine acalls_ofN rfl za68 rfl ?_
 simp only[c68,sA,sB,seval,ishr32]
 exact⟨tt,tt⟩
theorem add_spec{a b:Int}(ha:J64 a)(hb:J64 b){H:AHeap}:ACalls Tryz.prog noNat 69 [.int .i64 a,.int .i64 b] H fun u H'=>u=.int .i64 (fAdd a b)∧H=H':=by
 obtain⟨a1,a2⟩:=ha
 obtain⟨b1,b2⟩:=hb
 refine acalls_ofN rfl za69 rfl ?_
 unfold fAdd
 by_cases h1:0<b
 ·have w1:IntKind.i64.wrap (9223372036854775807-b)=9223372036854775807-b:=w64
  have h3:¬b<0:=om
  by_cases h2:9223372036854775807-b<a
  ·simp only[c69,sA,sB,seval,h1,w1,h2]
   simp
  ·have w2:IntKind.i64.wrap (a+b)=a+b:=w64
   simp only[c69,sA,sB,seval,h1,w1,h2,h3,w2]
   simp
 ·by_cases h3:b<0
  ·have w1:IntKind.i64.wrap (-9223372036854775808-b)=-9223372036854775808-b:=w64
   by_cases h2:a < -9223372036854775808-b
   ·simp only[c69,sA,sB,seval,h1,h3,w1,h2]
    simp
   ·have w2:IntKind.i64.wrap (a+b)=a+b:=w64
    simp only[c69,sA,sB,seval,h1,w1,h2,h3,w2]
    simp
  ·have w2:IntKind.i64.wrap (a+b)=a+b:=w64
   simp only[c69,sA,sB,seval,h1,h3,w2]
   simp
theorem sub_spec{a b:Int}(ha:J64 a)(hb:J64 b){H:AHeap}:ACalls Tryz.prog noNat 87 [.int .i64 a,.int .i64 b] H fun u H'=>u=.int .i64 (fSub a b)∧H=H':=by
 obtain⟨a1,a2⟩:=ha
 obtain⟨b1,b2⟩:=hb
 refine acalls_ofN rfl za87 rfl ?_
 unfold fSub
 by_cases h1:b<0
 ·have w1:IntKind.i64.wrap (9223372036854775807+b)=9223372036854775807+b:=w64
  have h3:¬0<b:=om
  by_cases h2:9223372036854775807+b<a
  ·simp only[c87,sA,sB,seval,h1,w1,h2]
   simp
  ·have w2:IntKind.i64.wrap (a-b)=a-b:=w64
   simp only[c87,sA,sB,seval,h1,w1,h2,h3,w2]
   simp
 ·by_cases h3:0<b
  ·have w1:IntKind.i64.wrap (-9223372036854775808+b)=-9223372036854775808+b:=w64
   by_cases h2:a < -9223372036854775808+b
   ·simp only[c87,sA,sB,seval,h1,h3,w1,h2]
    simp
   ·have w2:IntKind.i64.wrap (a-b)=a-b:=w64
    simp only[c87,sA,sB,seval,h1,w1,h2,h3,w2]
    simp
  ·have w2:IntKind.i64.wrap (a-b)=a-b:=w64
   simp only[c87,sA,sB,seval,h1,h3,w2]
   simp
theorem un_neg(k:IntKind)(n:Int):aUn .neg (.int k n)=some (.int k (k.wrap (0-n))):=by
 simp only[aUn,wrF_eq]
theorem neg_spec{a:Int}(ha:J64 a){H:AHeap}:ACalls Tryz.prog noNat 96 [.int .i64 a] H fun u H'=>u=.int .i64 (fNeg a)∧H=H':=by
 obtain⟨a1,a2⟩:=ha
 refine acalls_ofN rfl za96 rfl ?_
 unfold fNeg
 by_cases h:a=-9223372036854775808
 ·simp only[c96,sA,sB,seval,h]; simp
 ·have w:IntKind.i64.wrap (0-a)=-a:=w64
  simp only[c96,sA,sB,seval,h,un_neg,w]; simp
open Go.Abs Go.Abs.S
open Go.Proofs.Tx (and32 shr32 shl32 shl32w ishl32 ishr32 uw wmul wmulw wadd wsub orU64 lt32_mul halves)
theorem size_spec{a:Int}(ha:J64 a){H:AHeap}:ACalls Tryz.prog noNat 101 [.int .i64 a] H fun v H'=>v=.int .u64 (a.natAbs:Int)∧H=H':=by
 obtain⟨a1,a2⟩:=ha
 refine acalls_ofN rfl za101 rfl ?_
 by_cases h:a<0
 ·have w1:IntKind.u64.wrap a=a+18446744073709551616:=by rw[IntKind.wrap_u64]; omega
  have w2:IntKind.u64.wrap (0-(a+18446744073709551616))=(a.natAbs:Int):=by rw[IntKind.wrap_u64]; omega
  simp only[c101,sA,sB,seval,h,w1,un_neg,w2]; exact⟨tt,tt⟩
 ·have w1:IntKind.u64.wrap a=(a.natAbs:Int):=by rw[IntKind.wrap_u64]; omega
  simp only[c101,sA,sB,seval,h,w1]; exact⟨tt,tt⟩
theorem eqv_bool(a b:Bool):aPf (.eqv false .bool) [.bool a,.bool b]=some (.bool (a==b)):=by cases a <;> cases b <;> rfl
def sgN(s:Bool):Nat:=bif s then 124 else 125
theorem sgN_lt(s:Bool):sgN s<1024:=by cases s <;> decide
theorem signs_spec{a b:Int}{H:AHeap}:ACalls Tryz.prog noNat 99 [.int .i64 a,.int .i64 b] H fun v H'=>v=.func (.func (sgN (sames a b))) [] []∧H=H':=by
 refine acalls_ofN rfl za99 rfl ?_
 simp only[c99,sA,sB,seval,eqv_bool]
 have e:(decide (a<0)==decide (b<0))=sames a b:=rfl
 rw[e]
 cases sames a b with
 | true=>simp only[sA,sB,seval]; exact⟨tt,tt⟩
 | false=>simp only[sA,sB,seval]; exact⟨tt,tt⟩
theorem told_spec(s:Bool){hi lo:Nat}(hl:lo<18446744073709551616)(r:Bool){H:AHeap}:ACalls Tryz.prog noNat (sgN s) [.int .u64 (hi:Int),.int .u64 (lo:Int),.bool r] H fun v H'=>v=.int .i64 (told s hi lo r)∧H=H':=by
 cases s with
 | true=>
  show ACalls Tryz.prog noNat 124 _ _ _
  refine acalls_ofN rfl za124 rfl ?_
  unfold told
  by_cases h1:hi=0
  ·have h1':(hi:Int)=0:=om
   by_cases h2:9223372036854775807<lo
   ·have h2':(9223372036854775807:Int)<(lo:Int):=om
    simp only[c124,sA,sB,seval,h1,h1',h2,h2',Int.cast_ofNat_Int]; simp[h2]
   ·have h2':¬(9223372036854775807:Int)<(lo:Int):=om
    have w:IntKind.i64.wrap (lo:Int)=lo:=w64
    simp only[c124,sA,sB,seval,h1,h1',h2',w,Int.cast_ofNat_Int]; simp[h2]
  ·have h1':¬(hi:Int)=0:=om
   simp only[c124,sA,sB,seval,h1']; simp[h1]
 | false=>
  show ACalls Tryz.prog noNat 125 _ _ _
  refine acalls_ofN rfl za125 rfl ?_
  unfold told
  by_cases h1:hi=0
  ·have h1':(hi:Int)=0:=om
   by_cases h2:9223372036854775807<lo
   ·have h2':(9223372036854775807:Int)<(lo:Int):=om
    simp only[c125,sA,sB,seval,h1,h1',h2,h2',Int.cast_ofNat_Int]; simp[h2]
   ·have h2':¬(9223372036854775807:Int)<(lo:Int):=om
    have w:IntKind.i64.wrap (lo:Int)=lo:=w64
    have w2:IntKind.i64.wrap (0-(lo:Int))=-(lo:Int):=w64
    have w3:IntKind.i64.wrap (-(lo:Int)-1)=-(lo:Int)-1:=w64
    cases r with
    | true=>simp only[c125,sA,sB,seval,h1,h1',h2',w,un_neg,w2,w3,Int.cast_ofNat_Int]; simp[h2]
    | false=>simp only[c125,sA,sB,seval,h1,h1',h2',w,un_neg,w2,Int.cast_ofNat_Int]; simp[h2]
  ·have h1':¬(hi:Int)=0:=om
   simp only[c125,sA,sB,seval,h1']; simp[h1]
set_option maxHeartbeats 1000000 in
theorem mul64_spec{x y:Nat}(hx:x<18446744073709551616)(hy:y<18446744073709551616){H:AHeap} :
  ACalls Tryz.prog noNat 100 [.int .u64 (x:Int),.int .u64 (y:Int)] H fun v H'=>v=.tuple [.int .u64 ((x*y / 18446744073709551616:Nat):Int),.int .u64 ((x*y % 18446744073709551616:Nat):Int)]∧H=H':=by
 refine acalls_ofN rfl za100 rfl ?_
 obtain⟨ac,ad,bc,bd,e1,e2,e3,e4,e⟩:=halves x y
 have b1:=lt32_mul (a:=x / 4294967296) (b:=y / 4294967296) om om
 have b2:=lt32_mul (a:=x / 4294967296) (b:=y % 4294967296) om om
 have b3:=lt32_mul (a:=x % 4294967296) (b:=y / 4294967296) om om
 have b4:=lt32_mul (a:=x % 4294967296) (b:=y % 4294967296) om om
 have m1:IntKind.u64.wrap (((x / 4294967296:Nat):Int)*((y / 4294967296:Nat):Int))=(ac:Int):=by rw[wmul om,e1]
 have m2:IntKind.u64.wrap (((x / 4294967296:Nat):Int)*((y % 4294967296:Nat):Int))=(ad:Int):=by rw[wmul om,e2]
 have m3:IntKind.u64.wrap (((x % 4294967296:Nat):Int)*((y / 4294967296:Nat):Int))=(bc:Int):=by rw[wmul om,e3]
 have m4:IntKind.u64.wrap (((x % 4294967296:Nat):Int)*((y % 4294967296:Nat):Int))=(bd:Int):=by rw[wmul om,e4]
 rw[← e1]at b1
 rw[← e2]at b2
 rw[← e3]at b3
 rw[← e4]at b4
 have a1:IntKind.u64.wrap ((ad:Int)+((bd / 4294967296:Nat):Int))=((ad+bd / 4294967296:Nat):Int):=wadd om
 obtain⟨t,ht⟩:∃t,t=ad+bd / 4294967296:=⟨_,rfl⟩
 rw[← ht]at a1
 have a2:IntKind.u64.wrap (((t % 4294967296:Nat):Int)+(bc:Int))=((t % 4294967296+bc:Nat):Int):=wadd om
 have a3:IntKind.u64.wrap ((ac:Int)+((t / 4294967296:Nat):Int))=((ac+t / 4294967296:Nat):Int):=wadd om
 have a4:IntKind.u64.wrap (((ac+t / 4294967296:Nat):Int)+(((t % 4294967296+bc) / 4294967296:Nat):Int))=((ac+t / 4294967296+(t % 4294967296+bc) / 4294967296:Nat):Int):=wadd om
 simp only[c100,sA,sB,seval,and32 hx,and32 hy,shr32,m1,m2,m3,m4,a1,and32 (show t<18446744073709551616 by omega),a2,a3,a4,wmulw]
 refine⟨?_,by trivial⟩
 congr 4
 clear m1 m2 m3 m4 a1 a2 a3 a4 e1 e2 e3 e4
 omega
theorem natAbs_lt{a:Int}(h:J64 a):a.natAbs<18446744073709551616:=by unfold J64 at h; omega
theorem mul_spec{a b:Int}(ha:J64 a)(hb:J64 b){H:AHeap}:ACalls Tryz.prog noNat 60 [.int .i64 a,.int .i64 b] H fun v H'=>v=.int .i64 (fMul a b)∧H=H':=by
 refine acalls_ofN rfl za60 rfl ?_
 have hs:=sgN_lt (sames a b)
 simp only[c60,sA,sB,seval]
 refine (signs_spec).mono ?_
 rintro v _ ⟨rfl,rfl⟩
 simp only[sA,sB,seval]
 refine (size_spec ha).mono ?_
 rintro v _ ⟨rfl,rfl⟩
 simp only[sA,sB,seval]
 refine (size_spec hb).mono ?_
 rintro v _ ⟨rfl,rfl⟩
 simp only[sA,sB,seval]
 refine (mul64_spec (natAbs_lt ha) (natAbs_lt hb)).mono ?_
 rintro v _ ⟨rfl,rfl⟩
 unfold fMul
 have hlt:a.natAbs*b.natAbs<340282366920938463463374607431768211456:=by
  have h1:=natAbs_lt ha
  have h2:=natAbs_lt hb
  have:=Nat.mul_le_mul (Nat.le_of_lt h1) (Nat.le_of_lt h2)
  have h3:a.natAbs*b.natAbs≤18446744073709551615*18446744073709551615:=Nat.mul_le_mul om om
  omega
 generalize a.natAbs*b.natAbs=c at *
 have s1:=orU64 (a:=c / 18446744073709551616 % 4294967296*4294967296) (b:=c % 18446744073709551616 / 4294967296) om om
 have s2:=or_low 32 (c / 18446744073709551616 % 4294967296) (b:=c % 18446744073709551616 / 4294967296) om
 rw[show (2:Nat) ^ 32=4294967296 from rfl]at s2
 rw[s2,show c / 18446744073709551616 % 4294967296*4294967296+c % 18446744073709551616 / 4294967296=c / 4294967296 % 18446744073709551616 by omega]at s1
 have s3:c / 18446744073709551616*4294967296 % 18446744073709551616=c / 18446744073709551616 % 4294967296*4294967296:=om
 have s4:(((c % 18446744073709551616*4294967296 % 18446744073709551616:Nat):Int)=0)=(c % 4294967296=0):=by
  rw[eq_iff_iff]; omega
 simp only[sA,sB,seval,ext_0,ext_1,shr32,shl32w,s3,s1,hs,s4]
 refine (told_spec (sames a b) (hi:=c / 18446744073709551616 / 4294967296) (lo:=c / 4294967296 % 18446744073709551616) om _).mono ?_
 rintro v _ ⟨rfl,rfl⟩
 simp only[sA,sB,seval]
 refine⟨?_,tt⟩
 congr 2
 simp
open Go.Abs Go.Abs.S
open Go.Proofs.Tx (and32 shr32 shl32 shl32w ishl32 ishr32 uw wmul wmulw wadd wsub orU64 lt32_mul halves)
def bl(x:Nat):Nat:=if x=0 then 0 else Nat.log2 x+1
theorem log_of{x k:Nat}(h1:2 ^ k≤x)(h2:x<2 ^ (k+1)):Nat.log2 x=k:=by
 have h0:x≠0:=by have:=Nat.pow_pos (n:=k) (show 0<2 by decide); omega
 exact (Nat.log2_eq_iff h0).2 ⟨h1,h2⟩
theorem bl_spec{x:Nat}(h:0<x):2 ^ (bl x-1)≤x∧x<2 ^ bl x∧1≤bl x:=by
 unfold bl
 rw[if_neg om,Nat.add_sub_cancel]
 exact⟨Nat.log2_self_le om,Nat.lt_log2_self,om⟩
theorem bl_shift{x s:Nat}(h:2 ^ s≤x):bl x=s+bl (x / 2 ^ s):=by
 have hp:0<2 ^ s:=Nat.pow_pos dD
 have hy:0<x / 2 ^ s:=Nat.div_pos h hp
 obtain⟨k,hk⟩:∃k,k=Nat.log2 (x / 2 ^ s):=⟨_,rfl⟩
 have h1:=Nat.log2_self_le (n:=x / 2 ^ s) om
 have h2:=Nat.lt_log2_self (n:=x / 2 ^ s)
 rw[← hk]at h1 h2
 have e:Nat.log2 x=s+k:=by
  refine log_of ?_ ?_
  ·rw[Nat.pow_add,Nat.mul_comm]
   exact (Nat.le_div_iff_mul_le hp).1 h1
  ·rw[show s+k+1=k+1+s by omega,Nat.pow_add]
   exact (Nat.div_lt_iff_lt_mul hp).1 h2
 unfold bl
 rw[if_neg om,if_neg om,e,← hk]
 omega
def len8:List UInt8:=[0,1,2,2,3,3,3,3,4,4,4,4,4,4,4,4,5,5,5,5,5,5,5,5,5,5,5,5,5,5,5,5,6,6,6,6,6,6,6,6,6,6,6,6,6,6,6,6,6,6,6,6,6,6,6,6,6,6,6,6,6,6,6,6,7,7,7,7,7,7,7,7,7,7,7,7,7,7,7,7,7,7,7,7,7,7,7,7,7,7,7,7,7,7,7,7,7,7,7,7,7,7,7,7,7,7,7,7,7,7,7,7,7,7,7,7,7,7,7,7,7,7,7,7,7,7,7,7,8,8,8,8,8,8,8,8,8,8,8,8,8,8,8,8,8,8,8,8,8,8,8,8,8,8,8,8,8,8,8,8,8,8,8,8,8,8,8,8,8,8,8,8,8,8,8,8,8,8,8,8,8,8,8,8,8,8,8,8,8,8,8,8,8,8,8,8,8,8,8,8,8,8,8,8,8,8,8,8,8,8,8,8,8,8,8,8,8,8,8,8,8,8,8,8,8,8,8,8,8,8,8,8,8,8,8,8,8,8,8,8,8,8,8,8,8,8,8,8,8,8,8,8,8,8,8,8]
theorem len8_at{v:Nat}(h:v<256):∃l:UInt8,len8[v]?=some l∧l.toNat=bl v:=by
 have:∀v:Fin 256,(len8[v.val]?).map UInt8.toNat=some (bl v.val):=by decide +kernel
 have:=this ⟨v,h⟩
 simp only[Option.map_eq_some_iff]at this
 exact this
theorem bl_le{v:Nat}(h:v<256):bl v≤8:=by
 have:∀v:Fin 256,bl v.val≤8:=by decide +kernel
 exact this ⟨v,h⟩
theorem len8_lit:len8=[0,1,2,2,3,3,3,3,4,4,4,4,4,4,4,4,5,5,5,5,5,5,5,5,5,5,5,5,5,5,5,5,6,6,6,6,6,6,6,6,6,6,6,6,6,6,6,6,6,6,6,6,6,6,6,6,6,6,6,6,6,6,6,6,7,7,7,7,7,7,7,7,7,7,7,7,7,7,7,7,7,7,7,7,7,7,7,7,7,7,7,7,7,7,7,7,7,7,7,7,7,7,7,7,7,7,7,7,7,7,7,7,7,7,7,7,7,7,7,7,7,7,7,7,7,7,7,7,8,8,8,8,8,8,8,8,8,8,8,8,8,8,8,8,8,8,8,8,8,8,8,8,8,8,8,8,8,8,8,8,8,8,8,8,8,8,8,8,8,8,8,8,8,8,8,8,8,8,8,8,8,8,8,8,8,8,8,8,8,8,8,8,8,8,8,8,8,8,8,8,8,8,8,8,8,8,8,8,8,8,8,8,8,8,8,8,8,8,8,8,8,8,8,8,8,8,8,8,8,8,8,8,8,8,8,8,8,8,8,8,8,8,8,8,8,8,8,8,8,8,8,8,8,8,8,8]:=rfl
set_option maxRecDepth 100000 in
theorem len64_spec{u:Nat}(hu:u<18446744073709551616){H:AHeap}:ACalls Tryz.prog noNat 145 [.int .u64 (u:Int)] H fun v H'=>v=.int .i64 (bl u:Int)∧H=H':=by
 refine acalls_ofN rfl za145 rfl ?_
 have e32:=fun u=>shrN .u64 .u64 u (b:=32) dD
 have e16:=fun u=>shrN .u64 .u64 u (b:=16) dD
 have e8:=fun u=>shrN .u64 .u64 u (b:=8) dD
 simp only[Int.cast_ofNat_Int,Nat.reducePow]at e32 e16 e8
 have g32:∀u:Nat,((4294967296:Int)≤(u:Int))=(4294967296≤u):=fun u=>by rw[eq_iff_iff]; omega
 have g16:∀u:Nat,((65536:Int)≤(u:Int))=(65536≤u):=fun u=>by rw[eq_iff_iff]; omega
 have g8:∀u:Nat,((256:Int)≤(u:Int))=(256≤u):=fun u=>by rw[eq_iff_iff]; omega
 have last:∀{x n:Nat},x<256→n≤100→∃l,aIdxS (.str len8) (.int .u8 (IntKind.u8.wrap (x:Int)))=some (.int .u8 l)∧IntKind.i64.wrap ((n:Int)+IntKind.i64.wrap l)=((n+bl x:Nat):Int):=by
  intro x n hx hn
  obtain⟨l,l1,l2⟩:=len8_at hx
  have hb:=bl_le hx
  have w3:IntKind.u8.wrap (x:Int)=(x:Int):=wrapU8 om om
  refine⟨_,by rw[w3]; exact str_idx l1 _,?_⟩
  have w4:IntKind.i64.wrap (bl x:Int)=bl x:=wrap64 om om
  rw[l2,w4,wrap64 om om]
  omega
 have fin:∀{x n:Nat},x<256→n≤100→bl u=n+bl x→∃l,aIdxS (.str len8) (.int .u8 (IntKind.u8.wrap (x:Int)))=some (.int .u8 l)∧IntKind.i64.wrap ((n:Int)+IntKind.i64.wrap l)=(bl u:Int):=fun h1 h2 h3=>by rw[h3]; exact last h1 h2
 simp only[c145,← len8_lit]
 by_cases c1:4294967296≤u
 ·have b1:=bl_shift (x:=u) (s:=32) c1
  rw[show (2:Nat) ^ 32=4294967296 from rfl]at b1
  have w1:IntKind.i64.wrap 48=48:=by decide
  by_cases c2:65536≤u / 4294967296
  ·have b2:=bl_shift (x:=u / 4294967296) (s:=16) c2
   rw[show (2:Nat) ^ 16=65536 from rfl]at b2
   have w2:IntKind.i64.wrap 56=56:=by decide
   by_cases c3:256≤u / 4294967296 / 65536
   ·have b3:=bl_shift (x:=u / 4294967296 / 65536) (s:=8) c3
    rw[show (2:Nat) ^ 8=256 from rfl]at b3
    obtain⟨l,q1,q2⟩:=fin (x:=u / 4294967296 / 65536 / 256) (n:=56) om om om
    rw[Int.cast_ofNat_Int]at q2
    simp only[sA,sB,seval,g32,c1,e32,g16,c2,e16,w1,g8,c3,e8,w2,q1,q2]; exact⟨tt,tt⟩
   ·obtain⟨l,q1,q2⟩:=fin (x:=u / 4294967296 / 65536) (n:=48) om om om
    rw[Int.cast_ofNat_Int]at q2
    simp only[sA,sB,seval,g32,c1,e32,g16,c2,e16,w1,g8,c3,q1,q2]; exact⟨tt,tt⟩
  ·have w2:IntKind.i64.wrap 40=40:=by decide
   by_cases c3:256≤u / 4294967296
   ·have b3:=bl_shift (x:=u / 4294967296) (s:=8) c3
    rw[show (2:Nat) ^ 8=256 from rfl]at b3
    obtain⟨l,q1,q2⟩:=fin (x:=u / 4294967296 / 256) (n:=40) om om om
    rw[Int.cast_ofNat_Int]at q2
    simp only[sA,sB,seval,g32,c1,e32,g16,c2,g8,c3,e8,w2,q1,q2]; exact⟨tt,tt⟩
   ·obtain⟨l,q1,q2⟩:=fin (x:=u / 4294967296) (n:=32) om om om
    rw[Int.cast_ofNat_Int]at q2
    simp only[sA,sB,seval,g32,c1,e32,g16,c2,g8,c3,q1,q2]; exact⟨tt,tt⟩
 ·have w1:IntKind.i64.wrap 16=16:=by decide
  by_cases c2:65536≤u
  ·have b2:=bl_shift (x:=u) (s:=16) c2
   rw[show (2:Nat) ^ 16=65536 from rfl]at b2
   have w2:IntKind.i64.wrap 24=24:=by decide
   by_cases c3:256≤u / 65536
   ·have b3:=bl_shift (x:=u / 65536) (s:=8) c3
    rw[show (2:Nat) ^ 8=256 from rfl]at b3
    obtain⟨l,q1,q2⟩:=fin (x:=u / 65536 / 256) (n:=24) om om om
    rw[Int.cast_ofNat_Int]at q2
    simp only[sA,sB,seval,g32,c1,g16,c2,e16,w1,g8,c3,e8,w2,q1,q2]; exact⟨tt,tt⟩
   ·obtain⟨l,q1,q2⟩:=fin (x:=u / 65536) (n:=16) om om om
    rw[Int.cast_ofNat_Int]at q2
    simp only[sA,sB,seval,g32,c1,g16,c2,e16,w1,g8,c3,q1,q2]; exact⟨tt,tt⟩
  ·have w2:IntKind.i64.wrap 8=8:=by decide
   by_cases c3:256≤u
   ·have b3:=bl_shift (x:=u) (s:=8) c3
    rw[show (2:Nat) ^ 8=256 from rfl]at b3
    obtain⟨l,q1,q2⟩:=fin (x:=u / 256) (n:=8) om om om
    rw[Int.cast_ofNat_Int]at q2
    simp only[sA,sB,seval,g32,c1,g16,c2,g8,c3,e8,w2,q1,q2]; exact⟨tt,tt⟩
   ·obtain⟨l,q1,q2⟩:=fin (x:=u) (n:=0) om om om
    rw[Int.cast_ofNat_Int]at q2
    simp only[sA,sB,seval,g32,c1,g16,c2,g8,c3,q1,q2]; exact⟨tt,tt⟩
theorem lz64_spec{u:Nat}(h0:0<u)(hu:u<18446744073709551616){H:AHeap}:ACalls Tryz.prog noNat 126 [.int .u64 (u:Int)] H fun v H'=>v=.int .i64 (shOf u:Int)∧shOf u<64∧u*2 ^ shOf u<18446744073709551616∧9223372036854775808≤u*2 ^ shOf u∧H=H':=by
 refine acalls_ofN rfl za126 rfl ?_
 simp only[c126,sA,sB,seval]
 refine (len64_spec hu).mono ?_
 rintro v _ ⟨rfl,rfl⟩
 obtain⟨h1,h2,h3⟩:=bl_spec h0
 have hL:bl u≤64:=Nat.le_of_not_lt fun h=>by
  have:2 ^ 64≤2 ^ (bl u-1):=Nat.pow_le_pow_right dD om
  omega
 have es:64-bl u=shOf u:=by unfold bl shOf; rw[if_neg om]; omega
 have w:IntKind.i64.wrap (64-(bl u:Int))=((64-bl u:Nat):Int):=w64
 simp only[sA,sB,seval,w,es]
 have e:2 ^ bl u*2 ^ (64-bl u)=18446744073709551616:=by rw[← Nat.pow_add,show bl u+(64-bl u)=64 by omega]
 have e2:2 ^ (bl u-1)*2 ^ (64-bl u)=9223372036854775808:=by rw[← Nat.pow_add,show bl u-1+(64-bl u)=63 by omega]
 have p:0<2 ^ (64-bl u):=Nat.pow_pos dD
 rw[es]at e e2 p
 refine⟨tt,om,?_,?_,tt⟩
 ·rw[← e]; exact Nat.mul_lt_mul_of_pos_right h2 p
 ·rw[← e2]; exact Nat.mul_le_mul_right _ h1
open Go.Abs Go.Abs.S
open Go.Proofs.Tx (and32 shr32 shl32 shl32w ishl32 ishr32 uw wmul wmulw wadd wsub orU64 lt32_mul halves)
theorem wsubw{a b:Nat}(ha:a<18446744073709551616)(hb:b<18446744073709551616):IntKind.u64.wrap ((a:Int)-(b:Int))=(Wsub a b:Int):=by
 unfold Wsub; rw[IntKind.wrap_u64]; omega
theorem waddw{a b:Nat}:IntKind.u64.wrap ((a:Int)+(b:Int))=(W (a+b):Int):=by
 unfold W; rw[IntKind.wrap_u64]; omega
theorem wmulW(a b:Nat):IntKind.u64.wrap ((a:Int)*(b:Int))=(W (a*b):Int):=wmulw a b
theorem W_lt(x:Nat):W x<18446744073709551616:=Nat.mod_lt _ dD
theorem Wsub_lt(x y:Nat):Wsub x y<18446744073709551616:=Nat.mod_lt _ dD
structure Tst(q r un yn0:Nat):Prop where
 q:q<18446744073709551616
 r:r<4294967296
 un:un<4294967296
 y:yn0<4294967296
theorem tst_hi{q:Nat}(h:4294967296≤q):((4294967296:Int)≤(q:Int))=True:=by rw[eq_iff_iff,iff_true]; omega
theorem tst_lo{q:Nat}(h:¬4294967296≤q):((4294967296:Int)≤(q:Int))=False:=by rw[eq_iff_iff,iff_false]; omega
theorem Tst.m{q r un yn0:Nat}(h:Tst q r un yn0)(hq:¬4294967296≤q):IntKind.u64.wrap ((q:Int)*(yn0:Int))=((q*yn0:Nat):Int)∧IntKind.u64.wrap (4294967296*(r:Int))=((4294967296*r:Nat):Int)∧IntKind.u64.wrap (((4294967296*r:Nat):Int)+(un:Int))=((4294967296*r+un:Nat):Int):=by
 obtain⟨h1,h2,h3,h4⟩:=h
 have:=lt32_mul (a:=q) (b:=yn0) om h4
 refine⟨wmul om,?_,wadd om⟩
 rw[IntKind.wrap_u64]; omega
theorem tst_gt{a b:Nat}:(((a:Nat):Int)<((b:Nat):Int))=(a<b):=by rw[eq_iff_iff]; omega
theorem dec1{q:Nat}(h:0<q)(hq:q<18446744073709551616):IntKind.u64.wrap ((q:Int)-1)=((q-1:Nat):Int):=by rw[IntKind.wrap_u64]; omega
theorem wmT(a:Nat):IntKind.u64.wrap ((a:Int)*4294967296)=(W (a*4294967296):Int):=wmulw a 4294967296
set_option maxHeartbeats 4000000 in
theorem div64_spec{hi lo y:Nat}(h0:0<y)(hh:hi<y)(hy:y<18446744073709551616)(hl:lo<18446744073709551616){H:AHeap} :
  ACalls Tryz.prog noNat 102 [.int .u64 (hi:Int),.int .u64 (lo:Int),.int .u64 (y:Int)] H fun v H'=>v=.tuple [.int .u64 ((d64 hi lo y).1:Int),.int .u64 ((d64 hi lo y).2:Int)]∧H=H':=by
 refine acalls_ofN rfl za102 rfl ?_
 have c0:¬(y:Int)=0:=om
 have c1:¬(y:Int)≤(hi:Int):=om
 by_cases c2:hi=0
 ·have c2':(hi:Int)=0:=om
  have c1':¬(y:Int)≤0:=om
  have s1:=quoU64 (a:=lo) y h0 hl
  have s2:=remU64 (a:=lo) y h0
  simp only[c102,sA,sB,seval,c0,c1',c2',s1,s2]
  rw[d64,if_pos c2]
  exact⟨tt,tt⟩
 ·have c3:¬(hi:Int)=0:=om
  simp only[c102,sA,sB,seval,c0,c1,c3]
  refine (lz64_spec h0 hy).mono ?_
  rintro v _ ⟨rfl,hs,y1a,y1b,rfl⟩
  obtain⟨s,hsd⟩:∃s,s=shOf y:=⟨_,rfl⟩
  rw[← hsd]at hs y1a y1b ⊢
  have wc:IntKind.u64.wrap (s:Int)=(s:Int):=uw om
  obtain⟨y1,hy1d⟩:∃x,x=y*2 ^ s:=⟨_,rfl⟩
  rw[← hy1d]at y1a y1b
  have hp:0<2 ^ s:=Nat.pow_pos dD
  have hhp:hi*2 ^ s+2 ^ s≤y1:=by rw[hy1d,← Nat.add_one_mul]; exact Nat.mul_le_mul_right _ hh
  have e64:2 ^ s*2 ^ (64-s)=18446744073709551616:=by rw[← Nat.pow_add,show s+(64-s)=64 by omega]
  have hlo:lo / 2 ^ (64-s)<2 ^ s:=by rw[Nat.div_lt_iff_lt_mul (Nat.pow_pos dD),e64]; exact hl
  have sh1:aBin .shl (.int .u64 (y:Int)) (.int .u64 (s:Int))=some (.int .u64 (y1:Int)):=by
   rw[bin_shlU .u64 .u64 (by simp) y (b:=s) (by show s≤64; omega),← hy1d]; congr 3; exact Nat.mod_eq_of_lt y1a
  have sh2:aBin .shl (.int .u64 (hi:Int)) (.int .u64 (s:Int))=some (.int .u64 ((hi*2 ^ s:Nat):Int)):=by
   rw[bin_shlU .u64 .u64 (by simp) hi (b:=s) (by show s≤64; omega)]; congr 3; exact Nat.mod_eq_of_lt (show hi*2 ^ s<18446744073709551616 by omega)
  have w64:IntKind.u64.wrap (64-(s:Int))=((64-s:Nat):Int):=by rw[IntKind.wrap_u64]; omega
  have sh3:=shrN .u64 .u64 lo (b:=64-s) (by show 64-s≤64; omega)
  obtain⟨un32,hun32⟩:∃x,x=hi*2 ^ s+lo / 2 ^ (64-s):=⟨_,rfl⟩
  have or1:aBin .or (.int .u64 ((hi*2 ^ s:Nat):Int)) (.int .u64 ((lo / 2 ^ (64-s):Nat):Int))=some (.int .u64 (un32:Int)):=by
   rw[orU64 om om,or_low s hi hlo,hun32]
  obtain⟨un10,hun10⟩:∃x,x=lo*2 ^ s % 18446744073709551616:=⟨_,rfl⟩
  have sh4:aBin .shl (.int .u64 (lo:Int)) (.int .u64 (s:Int))=some (.int .u64 (un10:Int)):=by
   rw[bin_shlU .u64 .u64 (by simp) lo (b:=s) (by show s≤64; omega),hun10]; rfl
  have hu10:un10<18446744073709551616:=by rw[hun10]; exact Nat.mod_lt _ dD
  have hu32:un32<18446744073709551616:=om
  obtain⟨yn1,hyn1⟩:∃x,x=y1 / 4294967296:=⟨_,rfl⟩
  obtain⟨yn0,hyn0⟩:∃x,x=y1 % 4294967296:=⟨_,rfl⟩
  obtain⟨un1,hun1⟩:∃x,x=un10 / 4294967296:=⟨_,rfl⟩
  obtain⟨un0,hun0⟩:∃x,x=un10 % 4294967296:=⟨_,rfl⟩
  have hyp:0<yn1:=om
  have hyl:2147483648≤yn1:=om
  have hyu:yn1<4294967296:=om
  have hy0:yn0<4294967296:=om
  have hun:un1<4294967296:=om
  have hun0l:un0<4294967296:=om
  have dm:∀{x q:Nat},x<18446744073709551616→q=x / yn1→IntKind.u64.wrap ((q:Int)*(yn1:Int))=((q*yn1:Nat):Int)∧IntKind.u64.wrap ((x:Int)-((q*yn1:Nat):Int))=((x % yn1:Nat):Int)∧x % yn1<4294967296∧q<18446744073709551616:=by
   intro x q hx hq
   have h1:=Nat.div_mul_le_self x yn1
   have h2:=Nat.mod_lt x hyp
   have h3:=Nat.mod_eq_sub_div_mul (x:=x) (k:=yn1)
   rw[← hq]at h1 h3
   have h4:q≤x:=by rw[hq]; exact Nat.div_le_self _ _
   refine⟨wmul om,?_,om,om⟩
   rw[h3]; exact wsub h1 hx
  obtain⟨qa,hqa⟩:∃x,x=un32 / yn1:=⟨_,rfl⟩
  obtain⟨g1,g2,g3,g4⟩:=dm hu32 hqa
  obtain⟨r0,hra⟩:∃x,x=un32 % yn1:=⟨_,rfl⟩
  rw[← hra]at g2 g3
  have hr0:=g3
  simp only[sW,sL,sXs,sXO,sXP,sB,seval,wc,sh1,shr32,and32 y1a,← hyn1,← hyn0,sh2,w64,sh3,or1,sh4,← hun1,and32 hu10,← hun0,quoU64 yn1 hyp hu32,← hqa,g1,g2]
  rw[aw_block]
  refine aw_cut (fun (T:Env) H'=>T 2=.int .u64 (y1:Int)∧T 8=.int .u64 (s:Int)∧T 9=.int .u64 (yn1:Int)∧T 10=.int .u64 (yn0:Int)∧T 11=.int .u64 (un32:Int)∧T 13=.int .u64 (un1:Int)∧T 14=.int .u64 (un0:Int)∧T 15=.int .u64 ((corr qa r0 un1 yn1 yn0:Nat):Int)∧H=H') (calls_mono _ _) ?_ ?_
  rotate_left
  ·rintro T _ ⟨t2,t8,t9,t10,t11,t13,t14,tq,rfl⟩
   obtain⟨q1,hq1⟩:∃q1,q1=corr qa r0 un1 yn1 yn0:=⟨_,rfl⟩
   rw[← hq1]at tq
   obtain⟨un21,hun21⟩:∃x,x=Wsub (W (W (un32*4294967296)+un1)) (W (q1*y1)):=⟨_,rfl⟩
   have hu21:un21<18446744073709551616:=by rw[hun21]; exact Wsub_lt _ _
   obtain⟨q0,hq0⟩:∃q0,q0=un21 / yn1:=⟨_,rfl⟩
   obtain⟨f1,f2,f3,f4⟩:=dm hu21 hq0
   have hw21:IntKind.u64.wrap ((W (W (un32*4294967296)+un1):Int)-(W (q1*y1):Int))=(un21:Int):=by rw[hun21]; exact wsubw (W_lt _) (W_lt _)
   simp only[sW,sL,sXs,sXO,sXP,sB,seval,tq,t2,t8,t9,t10,t11,t13,t14,wmT,waddw,wmulW,hw21,quoU64 yn1 hyp hu21,← hq0,f1,f2]
   clear hr0
   obtain⟨r0',hr0e⟩:∃r,r=un21 % yn1:=⟨_,rfl⟩
   rw[← hr0e]at f3 ⊢
   have hr0:=f3
   have hun:=hun0l
   rw[aw_block]
   refine aw_cut (fun (T:Env) H'=>T 2=.int .u64 (y1:Int)∧T 8=.int .u64 (s:Int)∧T 9=.int .u64 (yn1:Int)∧T 10=.int .u64 (yn0:Int)∧T 14=.int .u64 (un0:Int)∧T 15=.int .u64 (q1:Int)∧T 17=.int .u64 (un21:Int)∧T 18=.int .u64 ((corr q0 r0' un0 yn1 yn0:Nat):Int)∧H=H') (calls_mono _ _) ?_ ?_
   rotate_left
   ·rintro T _ ⟨t2,t8,t9,t10,t14,t15,t17,tq,rfl⟩
    simp only[sA,sB,seval,tq,t2,t8,t14,t15,t17,wmT,waddw,wmulW,wsubw (W_lt _) (W_lt _),shrN .u64 .u64 _ (b:=s) (by show s≤64; omega)]
    refine⟨?_,tt⟩
    subst hq1 hun21 hq0 hr0e
    rw[d64,if_neg c2]
    subst hqa hra hun1 hun0 hun10 hun32 hyn1 hyn0 hy1d hsd
    rfl
   refine aw_loop (fun m (T:Env) H'=>T 2=.int .u64 (y1:Int)∧T 8=.int .u64 (s:Int)∧T 9=.int .u64 (yn1:Int)∧T 10=.int .u64 (yn0:Int)∧T 14=.int .u64 (un0:Int)∧T 15=.int .u64 (q1:Int)∧T 17=.int .u64 (un21:Int)∧H=H'∧((m=1∧T 18=.int .u64 (q0:Int)∧T 16=.int .u64 (r0':Int))∨(m=0∧T 18=.int .u64 ((q0-1:Nat):Int)∧T 16=.int .u64 ((r0'+yn1:Nat):Int)∧(4294967296≤q0∨4294967296*r0'+un0<q0*yn0)∧r0'+yn1<4294967296))) 1 ⟨tt,tt,tt,tt,tt,tt,tt,tt,.inl ⟨rfl,tt,tt⟩⟩ ?_
   rintro m T _ ⟨t2,t8,t9,t10,t14,t15,t17,rfl,⟨rfl,tq,tr⟩ | ⟨rfl,tq,tr,hc,hr⟩⟩
   ·have Q:Tst q0 r0' un0 yn0:=⟨om,hr0,hun,hy0⟩
    have wr:IntKind.u64.wrap ((r0':Int)+(yn1:Int))=((r0'+yn1:Nat):Int):=wadd om
    by_cases A:4294967296≤q0
    case' pos=>
     have hd:=dec1 (q:=q0) om om
     have hco:4294967296≤q0∨4294967296*r0'+un0<q0*yn0:=.inl A
     simp only[sA,sB,seval,t2,t8,t9,t10,t14,t15,t17,tq,tr,tst_hi A,hd,wr]
    case' neg=>
     obtain⟨m1,m2,m3⟩:=Q.m A
     by_cases B:4294967296*r0'+un0<q0*yn0
     case' neg=>
      have e:corr q0 r0' un0 yn1 yn0=q0:=by unfold corr; rw[if_neg om]
      simp only[sA,sB,seval,t2,t8,t9,t10,t14,t15,t17,tq,tr,tst_lo A,m1,m2,m3,tst_gt,B]
      exact⟨tt,tt,tt,tt,tt,tt,tt,by rw[e],tt⟩
     have hpos:0<q0:=Nat.pos_of_ne_zero fun h=>by rw[h,Nat.zero_mul]at B; omega
     have hd:=dec1 (q:=q0) hpos om
     have hco:4294967296≤q0∨4294967296*r0'+un0<q0*yn0:=.inr B
     simp only[sA,sB,seval,t2,t8,t9,t10,t14,t15,t17,tq,tr,tst_lo A,m1,m2,m3,tst_gt,B,hd,wr]
    all_goals
     by_cases Cc:4294967296≤r0'+yn1
     ·have e:corr q0 r0' un0 yn1 yn0=q0-1:=by unfold corr; rw[if_pos hco,if_pos Cc]
      simp only[tst_hi Cc,sA,sB,seval]
      exact⟨tt,tt,tt,tt,tt,tt,tt,by rw[e],tt⟩
     ·simp only[tst_lo Cc,sA,sB,seval]
      exact⟨0,om,tt,tt,tt,tt,tt,tt,tt,tt,.inr ⟨rfl,tt,tt,by first | exact hco | exact .inr trivial,om⟩⟩
   ·have Q:Tst (q0-1) (r0'+yn1) un0 yn0:=⟨om,hr,hun,hy0⟩
    have wr:IntKind.u64.wrap (((r0'+yn1:Nat):Int)+(yn1:Int))=((r0'+yn1+yn1:Nat):Int):=wadd om
    have Cc:4294967296≤r0'+yn1+yn1:=om
    have C0:¬4294967296≤r0'+yn1:=om
    by_cases A:4294967296≤q0-1
    case' pos=>
     have hd:=dec1 (q:=q0-1) om om
     have e:corr q0 r0' un0 yn1 yn0=q0-1-1:=by unfold corr; rw[if_pos hc,if_neg C0,if_pos (.inl A)]; omega
     simp only[sA,sB,seval,t2,t8,t9,t10,t14,t15,t17,tq,tr,tst_hi A,hd,wr,tst_hi Cc]
    case' neg=>
     obtain⟨m1,m2,m3⟩:=Q.m A
     by_cases B:4294967296*(r0'+yn1)+un0<(q0-1)*yn0
     case' neg=>
      have e:corr q0 r0' un0 yn1 yn0=q0-1:=by unfold corr; rw[if_pos hc,if_neg C0,if_neg om]
      simp only[sA,sB,seval,t2,t8,t9,t10,t14,t15,t17,tq,tr,tst_lo A,m1,m2,m3,tst_gt,B]
      exact⟨tt,tt,tt,tt,tt,tt,tt,by rw[e],tt⟩
     have hpos:0<q0-1:=Nat.pos_of_ne_zero fun h=>by rw[h,Nat.zero_mul]at B; omega
     have hd:=dec1 (q:=q0-1) hpos om
     have e:corr q0 r0' un0 yn1 yn0=q0-1-1:=by unfold corr; rw[if_pos hc,if_neg C0,if_pos (.inr B)]; omega
     simp only[sA,sB,seval,t2,t8,t9,t10,t14,t15,t17,tq,tr,tst_lo A,m1,m2,m3,tst_gt,B,hd,wr,tst_hi Cc]
    all_goals exact⟨tt,tt,tt,tt,tt,tt,tt,by rw[e],tt⟩
  refine aw_loop (fun m (T:Env) H'=>T 2=.int .u64 (y1:Int)∧T 8=.int .u64 (s:Int)∧T 9=.int .u64 (yn1:Int)∧T 10=.int .u64 (yn0:Int)∧T 11=.int .u64 (un32:Int)∧T 13=.int .u64 (un1:Int)∧T 14=.int .u64 (un0:Int)∧H=H'∧((m=1∧T 15=.int .u64 (qa:Int)∧T 16=.int .u64 (r0:Int))∨(m=0∧T 15=.int .u64 ((qa-1:Nat):Int)∧T 16=.int .u64 ((r0+yn1:Nat):Int)∧(4294967296≤qa∨4294967296*r0+un1<qa*yn0)∧r0+yn1<4294967296))) 1 ⟨tt,tt,tt,tt,tt,tt,tt,tt,.inl ⟨rfl,tt,tt⟩⟩ ?_
  rintro m T _ ⟨t2,t8,t9,t10,t11,t13,t14,rfl,⟨rfl,tq,tr⟩ | ⟨rfl,tq,tr,hc,hr⟩⟩
  ·have Q:Tst qa r0 un1 yn0:=⟨om,hr0,hun,hy0⟩
   have wr:IntKind.u64.wrap ((r0:Int)+(yn1:Int))=((r0+yn1:Nat):Int):=wadd om
   by_cases A:4294967296≤qa
   case' pos=>
    have hd:=dec1 (q:=qa) om om
    have hco:4294967296≤qa∨4294967296*r0+un1<qa*yn0:=.inl A
    simp only[sA,sB,seval,t2,t8,t9,t10,t11,t13,t14,tq,tr,tst_hi A,hd,wr]
   case' neg=>
    obtain⟨m1,m2,m3⟩:=Q.m A
    by_cases B:4294967296*r0+un1<qa*yn0
    case' neg=>
     have e:corr qa r0 un1 yn1 yn0=qa:=by unfold corr; rw[if_neg om]
     simp only[sA,sB,seval,t2,t8,t9,t10,t11,t13,t14,tq,tr,tst_lo A,m1,m2,m3,tst_gt,B]
     exact⟨tt,tt,tt,tt,tt,tt,tt,by rw[e],tt⟩
    have hpos:0<qa:=Nat.pos_of_ne_zero fun h=>by rw[h,Nat.zero_mul]at B; omega
    have hd:=dec1 (q:=qa) hpos om
    have hco:4294967296≤qa∨4294967296*r0+un1<qa*yn0:=.inr B
    simp only[sA,sB,seval,t2,t8,t9,t10,t11,t13,t14,tq,tr,tst_lo A,m1,m2,m3,tst_gt,B,hd,wr]
   all_goals
    by_cases Cc:4294967296≤r0+yn1
    ·have e:corr qa r0 un1 yn1 yn0=qa-1:=by unfold corr; rw[if_pos hco,if_pos Cc]
     simp only[tst_hi Cc,sA,sB,seval]
     exact⟨tt,tt,tt,tt,tt,tt,tt,by rw[e],tt⟩
    ·simp only[tst_lo Cc,sA,sB,seval]
     exact⟨0,om,tt,tt,tt,tt,tt,tt,tt,tt,.inr ⟨rfl,tt,tt,by first | exact hco | exact .inr trivial,om⟩⟩
  ·have Q:Tst (qa-1) (r0+yn1) un1 yn0:=⟨om,hr,hun,hy0⟩
   have wr:IntKind.u64.wrap (((r0+yn1:Nat):Int)+(yn1:Int))=((r0+yn1+yn1:Nat):Int):=wadd om
   have Cc:4294967296≤r0+yn1+yn1:=om
   have C0:¬4294967296≤r0+yn1:=om
   by_cases A:4294967296≤qa-1
   case' pos=>
    have hd:=dec1 (q:=qa-1) om om
    have e:corr qa r0 un1 yn1 yn0=qa-1-1:=by unfold corr; rw[if_pos hc,if_neg C0,if_pos (.inl A)]; omega
    simp only[sA,sB,seval,t2,t8,t9,t10,t11,t13,t14,tq,tr,tst_hi A,hd,wr,tst_hi Cc]
   case' neg=>
    obtain⟨m1,m2,m3⟩:=Q.m A
    by_cases B:4294967296*(r0+yn1)+un1<(qa-1)*yn0
    case' neg=>
     have e:corr qa r0 un1 yn1 yn0=qa-1:=by unfold corr; rw[if_pos hc,if_neg C0,if_neg om]
     simp only[sA,sB,seval,t2,t8,t9,t10,t11,t13,t14,tq,tr,tst_lo A,m1,m2,m3,tst_gt,B]
     exact⟨tt,tt,tt,tt,tt,tt,tt,by rw[e],tt⟩
    have hpos:0<qa-1:=Nat.pos_of_ne_zero fun h=>by rw[h,Nat.zero_mul]at B; omega
    have hd:=dec1 (q:=qa-1) hpos om
    have e:corr qa r0 un1 yn1 yn0=qa-1-1:=by unfold corr; rw[if_pos hc,if_neg C0,if_pos (.inr B)]; omega
    simp only[sA,sB,seval,t2,t8,t9,t10,t11,t13,t14,tq,tr,tst_lo A,m1,m2,m3,tst_gt,B,hd,wr,tst_hi Cc]
   all_goals exact⟨tt,tt,tt,tt,tt,tt,tt,by rw[e],tt⟩
open Go.Abs Go.Abs.S
open Go.Proofs.Tx (and32 shr32 shl32 shl32w ishl32 ishr32 uw wmul wmulw wadd wsub orU64 lt32_mul halves)
theorem d64_lt{hi lo y:Nat}:(d64 hi lo y).1<18446744073709551616∨hi=0:=by
 unfold d64
 by_cases h:hi=0
 ·exact .inr h
 ·rw[if_neg h]; exact .inl (W_lt _)
theorem d64_lt'{hi lo y:Nat}(hl:lo<18446744073709551616):(d64 hi lo y).1<18446744073709551616:=by
 rcases d64_lt (hi:=hi) (lo:=lo) (y:=y) with h | h
 ·exact h
 ·unfold d64; rw[if_pos h]; exact Nat.lt_of_le_of_lt (Nat.div_le_self _ _) hl
theorem natz{n:Nat}:((n:Int)=0)=(n=0):=by rw[eq_iff_iff]; omega
theorem div_spec{a b:Int}(ha:J64 a)(hb:J64 b){H:AHeap}:ACalls Tryz.prog noNat 63 [.int .i64 a,.int .i64 b] H fun v H'=>v=.int .i64 (fDiv a b)∧H=H':=by
 refine acalls_ofN rfl za63 rfl ?_
 by_cases hb0:b=0
 ·subst hb0
  have hb0:(0:Int)=0:=rfl
  have e:fDiv a 0=(if 0<a then 9223372036854775807 else if a<0 then -9223372036854775808 else 0):=by unfold fDiv; rw[if_pos hb0]
  by_cases h1:0<a
  ·simp only[c63,sA,sB,seval,hb0,h1]; rw[e,if_pos h1]; exact⟨tt,tt⟩
  ·by_cases h2:a<0
   ·simp only[c63,sA,sB,seval,hb0,h1,h2]; rw[e,if_neg h1,if_pos h2]; exact⟨tt,tt⟩
   ·simp only[c63,sA,sB,seval,hb0,h1,h2]; rw[e,if_neg h1,if_neg h2]; exact⟨tt,tt⟩
 ·have hs:=sgN_lt (sames a b)
  simp only[c63,sA,sB,seval,hb0]
  refine (signs_spec).mono ?_
  rintro v _ ⟨rfl,rfl⟩
  simp only[sA,sB,seval]
  refine (size_spec ha).mono ?_
  rintro v _ ⟨rfl,rfl⟩
  simp only[sA,sB,seval]
  refine (size_spec hb).mono ?_
  rintro v _ ⟨rfl,rfl⟩
  have hA:=natAbs_lt ha
  have hB:=natAbs_lt hb
  have hB0:0<b.natAbs:=om
  have e:fDiv a b=told (sames a b) (a.natAbs / 4294967296 / b.natAbs) (d64 (a.natAbs / 4294967296 % b.natAbs) (a.natAbs*4294967296 % 18446744073709551616) b.natAbs).1 (decide ((d64 (a.natAbs / 4294967296 % b.natAbs) (a.natAbs*4294967296 % 18446744073709551616) b.natAbs).2≠0)):=by unfold fDiv; rw[if_neg hb0]
  rw[e]
  generalize a.natAbs=A at *
  generalize b.natAbs=B at *
  have hl:A*4294967296 % 18446744073709551616<18446744073709551616:=Nat.mod_lt _ dD
  simp only[sA,sB,seval,shr32,shl32w,remU64 (a:=A / 4294967296) B hB0]
  refine (div64_spec hB0 (Nat.mod_lt _ hB0) hB hl).mono ?_
  rintro v _ ⟨rfl,rfl⟩
  have hd:=d64_lt' (hi:=A / 4294967296 % B) (y:=B) hl
  generalize d64 (A / 4294967296 % B) (A*4294967296 % 18446744073709551616) B=D at *
  simp only[sA,sB,seval,ext_0,ext_1,quoU64 (a:=A / 4294967296) B hB0 om,hs,natz]
  refine (told_spec (sames a b) hd _).mono ?_
  rintro v _ ⟨rfl,rfl⟩
  simp only[sA,sB,seval]
  refine⟨?_,tt⟩
  congr 2
  simp
theorem or_pow(r k:Nat)(h:2 ^ (k+1) ∣ r):r ||| 2 ^ k=r+2 ^ k:=by
 obtain⟨q,rfl⟩:=h
 have:=or_low (k+1) q (b:=2 ^ k) (Nat.pow_lt_pow_right dD om)
 rw[Nat.mul_comm q]at this
 exact this
theorem sqrt_spec{a:Int}(ha:J64 a){H:AHeap}:ACalls Tryz.prog noNat 104 [.int .i64 a] H fun v H'=>v=.int .i64 (fSqrt a)∧H=H':=by
 refine acalls_ofN rfl za104 rfl ?_
 unfold fSqrt
 by_cases h:a<1
 ·simp only[c104,sA,sB,seval,h]; simp
 obtain⟨n,rfl⟩:∃n:Nat,a=(n:Int):=⟨a.toNat,om⟩
 have hn:n<9223372036854775808:=by unfold J64 at ha; omega
 have w1:=uw (a:=n) om
 simp only[c104,sW,sL,sXs,sXO,sXP,sB,seval,h,w1,shr32,shl32w]
 rw[aw_block,Int.toNat_natCast]
 obtain⟨hi,hhi⟩:∃x,x=n / 4294967296:=⟨_,rfl⟩
 obtain⟨lo,hlo⟩:∃x,x=n*4294967296 % 18446744073709551616:=⟨_,rfl⟩
 have hnl:n*4294967296=hi*18446744073709551616+lo:=om
 rw[← hhi,← hlo]
 refine aw_cut (fun (T:Env) H'=>T 5=.int .u64 (sqGo (n*4294967296) 48 0:Nat)∧H=H') (calls_mono _ _) ?_ ?_
 rotate_left
 ·rintro T _ ⟨t5,rfl⟩
  have hb:=sqGo_le (n*4294967296) 48 0
  have w2:IntKind.i64.wrap ((sqGo (n*4294967296) 48 0:Nat):Int)=((sqGo (n*4294967296) 48 0:Nat):Int):=w64
  simp only[sA,sB,seval,t5,w2]; exact⟨tt,tt⟩
 refine aw_loop (fun m (T:Env) H'=>H=H'∧∃(k r:Nat),m=k∧k≤48∧T 6=.int .u64 ((2 ^ k / 2:Nat):Int)∧T 5=.int .u64 (r:Int)∧T 3=.int .u64 (hi:Int)∧T 4=.int .u64 (lo:Int)∧sqGo (n*4294967296) k r=sqGo (n*4294967296) 48 0∧2 ^ k ∣ r∧r<2 ^ 48) 48 ⟨rfl,48,0,rfl,Nat.le_refl _,tt,tt,tt,tt,rfl,Nat.dvd_zero _,by decide⟩ ?_
 rintro k T _ ⟨rfl,_,r,rfl,hk,t6,t5,t3,t4,hsq,hdv,hr⟩
 cases k with
 | zero=>
  simp only[sA,sB,seval,t6,t5,show ¬(0:Int)<((2 ^ 0 / 2:Nat):Int) from by decide]
  rw[← hsq]; exact⟨tt,tt⟩
 | succ k=>
  have e2:2 ^ (k+1) / 2=2 ^ k:=by rw[Nat.pow_succ]; omega
  have hp:0<2 ^ k:=Nat.pow_pos dD
  have hpl:2 ^ k≤2 ^ 47:=Nat.pow_le_pow_right dD om
  have g1:(0:Int)<((2 ^ k:Nat):Int):=om
  have hr2:r+2 ^ k<2 ^ 48:=by
   obtain⟨q,hq⟩:=hdv
   have h48:2 ^ 48=2 ^ (k+1)*2 ^ (47-k):=by rw[← Nat.pow_add]; congr 1; omega
   have hql:q<2 ^ (47-k):=by
    rw[hq,h48]at hr
    exact Nat.lt_of_mul_lt_mul_left hr
   have h3:2 ^ (k+1)*(q+1)≤2 ^ (k+1)*2 ^ (47-k):=Nat.mul_le_mul_left _ hql
   rw[Nat.mul_add,← h48,← hq,Nat.mul_one,Nat.pow_succ]at h3
   omega
  have o1:aBin .or (.int .u64 (r:Int)) (.int .u64 ((2 ^ k:Nat):Int))=some (.int .u64 ((r+2 ^ k:Nat):Int)):=by
   rw[orU64 om om,or_pow r k hdv]
  rw[e2]at t6
  simp only[sA,sB,seval,t6,t5,g1,o1]
  refine (mul64_spec (x:=r+2 ^ k) (y:=r+2 ^ k) om om).mono ?_
  rintro v _ ⟨rfl,rfl⟩
  have sh:aBin .shr (.int .u64 ((2 ^ k:Nat):Int)) (.int .u64 1)=some (.int .u64 ((2 ^ k / 2:Nat):Int)):=by
   have:=shrN .u64 .u64 (2 ^ k) (b:=1) dD
   rw[Nat.pow_one]at this; exact this
  obtain⟨p,hpd⟩:∃p,p=(r+2 ^ k)*(r+2 ^ k):=⟨_,rfl⟩
  have hsq2:sqGo (n*4294967296) (k+1) r=sqGo (n*4294967296) k (if p≤n*4294967296 then r+2 ^ k else r):=by rw[sqGo,← hpd]
  have hd1:2 ^ k ∣ r:=Nat.dvd_trans (Nat.pow_dvd_pow 2 om) hdv
  rw[← hpd]
  have q1:(((p / 18446744073709551616:Nat):Int)<(hi:Int))=(p / 18446744073709551616<hi):=by rw[eq_iff_iff]; omega
  have q2:(((p / 18446744073709551616:Nat):Int)=(hi:Int))=(p / 18446744073709551616=hi):=by rw[eq_iff_iff]; omega
  have q3:(((p % 18446744073709551616:Nat):Int)≤(lo:Int))=(p % 18446744073709551616≤lo):=by rw[eq_iff_iff]; omega
  by_cases hple:p≤n*4294967296
  ·rw[if_pos hple]at hsq2
   have fin:∃m',m'<k+1∧True:=⟨k,om,trivial⟩
   by_cases A:p / 18446744073709551616<hi
   ·simp only[sA,sB,seval,ext_0,ext_1,q1,A,t3,t4,t6,sh]
    exact⟨k,om,tt,k,r+2 ^ k,rfl,om,tt,tt,tt,tt,hsq2.symm.trans hsq,Nat.dvd_add hd1 (Nat.dvd_refl _),hr2⟩
   ·have B:p / 18446744073709551616=hi:=om
    have C:p % 18446744073709551616≤lo:=om
    have A':=q1.trans (eq_false A)
    have B':=q2.trans (eq_true B)
    have C':=q3.trans (eq_true C)
    simp only[sA,sB,seval,ext_0,ext_1,A',B',C',t3,t4,t6,sh]
    exact⟨k,om,tt,k,r+2 ^ k,rfl,om,tt,tt,tt,tt,hsq2.symm.trans hsq,Nat.dvd_add hd1 (Nat.dvd_refl _),hr2⟩
  ·rw[if_neg hple]at hsq2
   have A:¬p / 18446744073709551616<hi:=om
   by_cases B:p / 18446744073709551616=hi
   ·have C:¬p % 18446744073709551616≤lo:=om
    have A':=q1.trans (eq_false A)
    have B':=q2.trans (eq_true B)
    have C':=q3.trans (eq_false C)
    simp only[sA,sB,seval,ext_0,ext_1,A',B',C',t3,t4,t5,t6,sh]
    exact⟨k,om,tt,k,r,rfl,om,tt,tt,tt,tt,hsq2.symm.trans hsq,hd1,hr⟩
   ·simp only[sA,sB,seval,ext_0,ext_1,q1,q2,A,B,t3,t4,t5,t6,sh]
    exact⟨k,om,tt,k,r,rfl,om,tt,tt,tt,tt,hsq2.symm.trans hsq,hd1,hr⟩
open Go.Abs Go.Abs.S
abbrev v3(x y z:Int):List AVal:=[.int .i64 x,.int .i64 y,.int .i64 z]
theorem row_st{H:AHeap}{b n:Nat}{l l':List AVal}(h:Row H b l)(hn:l.length=n){i:Nat}(hi:i<n){x:AVal}(hx:x.one=true)(e:l.set i x=l') :
  ∃H',oStore 1 H (cellR b n i) x=some H'∧Row H' b l'∧H'.next=H.next∧∀c,c≠b→H'.get c=H.get c:=by
 subst e; exact row_store h hn hi hx
theorem row_stK{H:AHeap}{b n:Nat}{l l':List AVal}(h:Row H b l)(hn:l.length=n){i k:Nat}(hik:i+k≤n){xs:List AVal}(hx:xs.length=k)(ho:xs.all AVal.one=true)(e:l.take i++(xs++l.drop (i+k))=l') :
  ∃H',oStore k H (cellR b n i) (.agg xs)=some H'∧Row H' b l'∧H'.next=H.next∧∀c,c≠b→H'.get c=H.get c:=by
 subst e; exact row_storeK h hn hik hx ho
theorem fin_cc{T:Env}{H:AHeap}(g:Bool)(n i:Nat)(K:AVal→AHeap→Prop):fin [.cell g n i] K .ret T H=OptP (oLoad g n H (T i)) fun v=>K v H:=by
 rw[fin_ret]
 simp only[wRes]
 cases oLoad g n H (T i) with
 | none=>simp[OptP]
 | some v=>simp only[OptP_some]; rfl
theorem ld3{H:AHeap}{b:Nat}{x y z:Int}(r:Row H b (v3 x y z)):oLoad false 1 H (cellR b 3 0)=some (.int .i64 x)∧oLoad false 1 H (cellR b 3 1)=some (.int .i64 y)∧oLoad false 1 H (cellR b 3 2)=some (.int .i64 z)∧oLoad true 3 H (cellR b 3 0)=some (.agg (v3 x y z)):=
 ⟨row_load r rfl rfl,row_load r rfl rfl,row_load r rfl rfl,row_loadN r rfl⟩
theorem bl3(x y z:Int):aBuild [.int .i64 0,.int .i64 0,.int .i64 0] [(0,1,.int .i64 x),(1,1,.int .i64 y),(2,1,.int .i64 z)]=some (.agg (v3 x y z)):=rfl
theorem bl30:aBuild [.int .i64 0,.int .i64 0,.int .i64 0] []=some (.agg (v3 0 0 0)):=rfl
theorem i_cells(k:IntKind)(z:Int):(AVal.int k z).cells=[.int k z]:=_root_.id rfl
theorem aeq_v3(x y z:Int):aeq (.agg (v3 x y z)) (.agg (v3 x y z))=true:=by simp[aeq,aeqs,aeq_int,eqF_eq]
theorem each_spec{f:Nat}(hf:f<1024){F:Int→Int→Int}{caps:List AVal}{v u:V}(hv:v.j)(hu:u.j){H:AHeap}
  (hF:∀{a b:Int} {K:AHeap},Ext H.next H K→J64 a→J64 b→ACalls Tryz.prog noNat f ([.int .i64 a,.int .i64 b]++caps) K fun r K'=>r=.int .i64 (F a b)∧K=K') :
  ACalls Tryz.prog noNat 59 [.agg v.cells,.agg u.cells,.func (.func f) [] caps] H fun r H'=>r=.agg (vmap F v u).cells∧Ext H.next H H':=by
 obtain⟨a,b,c⟩:=v
 obtain⟨x,y,z⟩:=u
 obtain⟨ha,hb,hc⟩:=hv
 obtain⟨hx,hy,hz⟩:=hu
 show ACalls Tryz.prog noNat 59 [.agg (v3 a b c),.agg (v3 x y z),.func (.func f) [] caps] H fun r H'=>r=.agg (v3 (F a x) (F b y) (F c z))∧Ext H.next H H'
 obtain⟨H1,m1,r1,n1,k1⟩:=row_newL H (v3 a b c) (n:=3) rfl
 obtain⟨H2,m2,r2,n2,k2⟩:=row_newL H1 (v3 x y z) (n:=3) rfl
 obtain⟨H3,m3,r3,n3,k3⟩:=row_newL H2 (v3 0 0 0) (n:=3) rfl
 have E3:Ext H.next H H3:=⟨om,fun c hc=>by rw[k3 c om,k2 c om,k1 c om]⟩
 obtain⟨p0,p1,p2,_⟩:=ld3 ((r1.same (k2 _ om)).same (k3 _ om))
 obtain⟨q0,q1,q2,_⟩:=ld3 (r2.same (k3 _ om))
 obtain⟨H4,m4,r4,n4,k4⟩:=row_storeN r3 (n:=3) rfl (xs:=v3 (F a x) (F b y) (F c z)) rfl rfl
 obtain⟨_,_,_,w⟩:=ld3 r4
 refine acalls_ofN rfl za59 rfl ?_
 simp only[c59,sA,sB,seval,cells_agg,m1,m2,m3]
 refine aw_drawC rfl ?_
 simp only[sR,sA,sB,seval,fld0,fldA,p0,q0,hf,List.nil_append]
 refine (hF E3 ha hx).mono ?_
 rintro _ _ ⟨rfl,rfl⟩
 simp only[sR,sA,sB,seval,fld0,fldA,p1,q1,hf,List.nil_append]
 refine (hF E3 hb hy).mono ?_
 rintro _ _ ⟨rfl,rfl⟩
 simp only[sR,sA,sB,seval,fld0,fldA,p2,q2,hf,List.nil_append]
 refine (hF E3 hc hz).mono ?_
 rintro _ _ ⟨rfl,rfl⟩
 simp only[sR,sA,sB,seval,bl3,m4]
 simp only[ck_nil',ck_cons,ckP_load,ckP_nil,ck_end,and_true,true_and,List.map_cons,List.map_nil,sA,sB,seval,fin_cc,OptP_some,w]
 refine⟨?_,⟨om,fun c hc=>by rw[k4 c om,E3.old c hc]⟩⟩
 and_intros <;> first | rfl | exact⟨_,rfl,fun _=>⟨_,by first | exact p1 | exact q1 | exact p2 | exact q2,aeq_int _ _⟩⟩
theorem vadd_spec{v u:V}(hv:v.j)(hu:u.j){H:AHeap}:ACalls Tryz.prog noNat 49 [.agg v.cells,.agg u.cells] H fun r H'=>r=.agg (vAdd v u).cells∧Ext H.next H H':=by
 obtain⟨H1,m1,r1,n1,k1⟩:=row_newL H v.cells (n:=3) rfl
 obtain⟨H2,m2,r2,n2,k2⟩:=row_newL H1 u.cells (n:=3) rfl
 obtain⟨H3,m3,r3,n3,k3⟩:=row_newL H2 (v3 0 0 0) (n:=3) rfl
 obtain⟨_,_,_,p⟩:=ld3 ((r1.same (k2 _ om)).same (k3 _ om))
 obtain⟨_,_,_,q⟩:=ld3 (r2.same (k3 _ om))
 refine acalls_ofN rfl za49 rfl ?_
 simp only[c49,sA,sB,seval,cells_agg,m1,m2,m3,p,q]
 refine (each_spec (v:=v) (u:=u) om (F:=fAdd) hv hu (caps:=[]) fun {_ _ _} _ h k=>add_spec h k).mono ?_
 rintro _ H4 ⟨rfl,E4⟩
 obtain⟨H5,m5,r5,n5,k5⟩:=row_storeN (r3.same (E4.old _ om)) (n:=3) rfl (xs:=(vAdd v u).cells) rfl rfl
 obtain⟨_,_,_,w⟩:=ld3 r5
 have m5':oStore 3 H4 (cellR H2.next 3 0) (.agg (vmap fAdd v u).cells)=some H5:=m5
 simp only[sA,sB,seval,m5',fin_cc,OptP_some,w]
 exact⟨rfl,⟨by have:=E4.next; omega,fun c hc=>by rw[k5 c om,E4.old c om,k3 c om,k2 c om,k1 c om]⟩⟩
theorem vsub_spec{v u:V}(hv:v.j)(hu:u.j){H:AHeap}:ACalls Tryz.prog noNat 54 [.agg v.cells,.agg u.cells] H fun r H'=>r=.agg (vSub v u).cells∧Ext H.next H H':=by
 obtain⟨H1,m1,r1,n1,k1⟩:=row_newL H v.cells (n:=3) rfl
 obtain⟨H2,m2,r2,n2,k2⟩:=row_newL H1 u.cells (n:=3) rfl
 obtain⟨H3,m3,r3,n3,k3⟩:=row_newL H2 (v3 0 0 0) (n:=3) rfl
 obtain⟨_,_,_,p⟩:=ld3 ((r1.same (k2 _ om)).same (k3 _ om))
 obtain⟨_,_,_,q⟩:=ld3 (r2.same (k3 _ om))
 refine acalls_ofN rfl za54 rfl ?_
 simp only[c54,sA,sB,seval,cells_agg,m1,m2,m3,p,q]
 refine (each_spec (v:=v) (u:=u) om (F:=fSub) hv hu (caps:=[]) fun {_ _ _} _ h k=>sub_spec h k).mono ?_
 rintro _ H4 ⟨rfl,E4⟩
 obtain⟨H5,m5,r5,n5,k5⟩:=row_storeN (r3.same (E4.old _ om)) (n:=3) rfl (xs:=(vSub v u).cells) rfl rfl
 obtain⟨_,_,_,w⟩:=ld3 r5
 have m5':oStore 3 H4 (cellR H2.next 3 0) (.agg (vmap fSub v u).cells)=some H5:=m5
 simp only[sA,sB,seval,m5',fin_cc,OptP_some,w]
 exact⟨rfl,⟨by have:=E4.next; omega,fun c hc=>by rw[k5 c om,E4.old c om,k3 c om,k2 c om,k1 c om]⟩⟩
theorem vmul_spec{v u:V}(hv:v.j)(hu:u.j){H:AHeap}:ACalls Tryz.prog noNat 28 [.agg v.cells,.agg u.cells] H fun r H'=>r=.agg (vMul v u).cells∧Ext H.next H H':=by
 obtain⟨H1,m1,r1,n1,k1⟩:=row_newL H v.cells (n:=3) rfl
 obtain⟨H2,m2,r2,n2,k2⟩:=row_newL H1 u.cells (n:=3) rfl
 obtain⟨H3,m3,r3,n3,k3⟩:=row_newL H2 (v3 0 0 0) (n:=3) rfl
 obtain⟨_,_,_,p⟩:=ld3 ((r1.same (k2 _ om)).same (k3 _ om))
 obtain⟨_,_,_,q⟩:=ld3 (r2.same (k3 _ om))
 refine acalls_ofN rfl za28 rfl ?_
 simp only[c28,sA,sB,seval,cells_agg,m1,m2,m3,p,q]
 refine (each_spec (v:=v) (u:=u) om (F:=fMul) hv hu (caps:=[]) fun {_ _ _} _ h k=>mul_spec h k).mono ?_
 rintro _ H4 ⟨rfl,E4⟩
 obtain⟨H5,m5,r5,n5,k5⟩:=row_storeN (r3.same (E4.old _ om)) (n:=3) rfl (xs:=(vMul v u).cells) rfl rfl
 obtain⟨_,_,_,w⟩:=ld3 r5
 have m5':oStore 3 H4 (cellR H2.next 3 0) (.agg (vmap fMul v u).cells)=some H5:=m5
 simp only[sA,sB,seval,m5',fin_cc,OptP_some,w]
 exact⟨rfl,⟨by have:=E4.next; omega,fun c hc=>by rw[k5 c om,E4.old c om,k3 c om,k2 c om,k1 c om]⟩⟩
theorem neg1_spec{a b:Int}(ha:J64 a){H:AHeap}:ACalls Tryz.prog noNat 95 [.int .i64 a,.int .i64 b] H fun r H'=>r=.int .i64 (fNeg a)∧H=H':=by
 refine acalls_ofN rfl za95 rfl ?_
 simp only[c95,sA,sB,seval]
 refine (neg_spec ha).mono ?_
 rintro _ _ ⟨rfl,rfl⟩
 simp only[sA,sB,seval]; exact⟨tt,tt⟩
theorem scale1_spec{a b s:Int}(ha:J64 a)(hs:J64 s){cb:Nat}{H:AHeap}(r:Row H cb [.int .i64 s]):ACalls Tryz.prog noNat 94 [.int .i64 a,.int .i64 b,cellR cb 1 0] H fun r H'=>r=.int .i64 (fMul a s)∧H=H':=by
 refine acalls_ofN rfl za94 rfl ?_
 have l:oLoad false 1 H (cellR cb 1 0)=some (.int .i64 s):=row_load r rfl rfl
 simp only[c94,sA,sB,seval,l]
 refine (mul_spec ha hs).mono ?_
 rintro _ _ ⟨rfl,rfl⟩
 simp only[sA,sB,seval]; exact⟨tt,tt⟩
theorem unit1_spec{a b s:Int}(ha:J64 a)(hs:J64 s){cb:Nat}{H:AHeap}(r:Row H cb [.int .i64 s]):ACalls Tryz.prog noNat 93 [.int .i64 a,.int .i64 b,cellR cb 1 0] H fun r H'=>r=.int .i64 (fDiv a s)∧H=H':=by
 refine acalls_ofN rfl za93 rfl ?_
 have l:oLoad false 1 H (cellR cb 1 0)=some (.int .i64 s):=row_load r rfl rfl
 simp only[c93,sA,sB,seval,l]
 refine (div_spec ha hs).mono ?_
 rintro _ _ ⟨rfl,rfl⟩
 simp only[sA,sB,seval]; exact⟨tt,tt⟩
theorem vneg_spec{v:V}(hv:v.j){H:AHeap}:ACalls Tryz.prog noNat 57 [.agg v.cells] H fun r H'=>r=.agg (vNeg v).cells∧Ext H.next H H':=by
 obtain⟨H1,m1,r1,n1,k1⟩:=row_newL H v.cells (n:=3) rfl
 obtain⟨H2,m2,r2,n2,k2⟩:=row_newL H1 (v3 0 0 0) (n:=3) rfl
 obtain⟨_,_,_,p⟩:=ld3 (r1.same (k2 _ om))
 refine acalls_ofN rfl za57 rfl ?_
 simp only[c57,sA,sB,seval,cells_agg,m1,m2,p]
 refine (each_spec (v:=v) (u:=v) om (F:=fun a _=>fNeg a) hv hv (caps:=[]) fun {_ _ _} _ h _=>neg1_spec h).mono ?_
 rintro _ H4 ⟨rfl,E4⟩
 obtain⟨H5,m5,r5,n5,k5⟩:=row_storeN (r2.same (E4.old _ om)) (n:=3) rfl (xs:=(vNeg v).cells) rfl rfl
 obtain⟨_,_,_,w⟩:=ld3 r5
 have m5':oStore 3 H4 (cellR H1.next 3 0) (.agg (vmap (fun a _=>fNeg a) v v).cells)=some H5:=m5
 simp only[sA,sB,seval,m5',fin_cc,OptP_some,w]
 exact⟨rfl,⟨by have:=E4.next; omega,fun c hc=>by rw[k5 c om,E4.old c om,k2 c om,k1 c om]⟩⟩
theorem vscale_spec{v:V}{s:Int}(hv:v.j)(hs:J64 s){H:AHeap}:ACalls Tryz.prog noNat 55 [.agg v.cells,.int .i64 s] H fun r H'=>r=.agg (vScale v s).cells∧Ext H.next H H':=by
 obtain⟨H1,m1,r1,n1,k1⟩:=row_newL H v.cells (n:=3) rfl
 obtain⟨H2,m2,r2,n2,k2⟩:=row_newL H1 [.int .i64 s] (n:=1) rfl
 obtain⟨H3,m3,r3,n3,k3⟩:=row_newL H2 (v3 0 0 0) (n:=3) rfl
 obtain⟨_,_,_,p⟩:=ld3 ((r1.same (k2 _ om)).same (k3 _ om))
 have q:=r2.same (k3 _ om)
 refine acalls_ofN rfl za55 rfl ?_
 simp only[c55,sA,sB,seval,cells_agg,i_cells,m1,m2,m3,p]
 refine (each_spec (v:=v) (u:=v) om (F:=fun a _=>fMul a s) hv hv (caps:=[cellR H1.next 1 0]) fun {_ _ _} e h _=>scale1_spec h hs (q.same (e.old _ om))).mono ?_
 rintro _ H4 ⟨rfl,E4⟩
 obtain⟨H5,m5,r5,n5,k5⟩:=row_storeN (r3.same (E4.old _ om)) (n:=3) rfl (xs:=(vScale v s).cells) rfl rfl
 obtain⟨_,_,_,w⟩:=ld3 r5
 have m5':oStore 3 H4 (cellR H2.next 3 0) (.agg (vmap (fun a _=>fMul a s) v v).cells)=some H5:=m5
 simp only[sA,sB,seval,m5',fin_cc,OptP_some,w]
 exact⟨rfl,⟨by have:=E4.next; omega,fun c hc=>by rw[k5 c om,E4.old c om,k3 c om,k2 c om,k1 c om]⟩⟩
theorem vdot_spec{v u:V}(hv:v.j)(hu:u.j){H:AHeap}:ACalls Tryz.prog noNat 56 [.agg v.cells,.agg u.cells] H fun r H'=>r=.int .i64 (vDot v u)∧Ext H.next H H':=by
 obtain⟨H1,m1,r1,n1,k1⟩:=row_newL H v.cells (n:=3) rfl
 obtain⟨H2,m2,r2,n2,k2⟩:=row_newL H1 u.cells (n:=3) rfl
 obtain⟨_,_,_,p⟩:=ld3 (r1.same (k2 _ om))
 obtain⟨_,_,_,q⟩:=ld3 r2
 refine acalls_ofN rfl za56 rfl ?_
 simp only[c56,sA,sB,seval,cells_agg,m1,m2,p,q]
 refine (vmul_spec hv hu).mono ?_
 rintro _ H3 ⟨rfl,E3⟩
 have e3:=E3.next
 obtain⟨H4,m4,r4,n4,k4⟩:=row_newL H3 (v3 0 0 0) (n:=3) rfl
 obtain⟨H5,m5,r5,n5,k5⟩:=row_storeN r4 (n:=3) rfl (xs:=(vMul v u).cells) rfl rfl
 obtain⟨l0,l1,l2,_⟩:=ld3 r5
 simp only[sA,sB,seval,m4,m5]
 refine aw_drawC rfl ?_
 simp only[sR,sA,sB,seval,fld0,fldA,l0,l1]
 refine (add_spec (fMul_j ..) (fMul_j ..)).mono ?_
 rintro _ _ ⟨rfl,rfl⟩
 simp only[sR,sA,sB,seval,fld0,fldA,l2]
 refine (add_spec (fAdd_j (fMul_j ..) (fMul_j ..)) (fMul_j ..)).mono ?_
 rintro _ _ ⟨rfl,rfl⟩
 simp only[sR,sA,sB,seval]
 simp only[ck_nil',ck_cons,ckP_load,ckP_nil,ck_end,and_true,true_and,List.map_cons,List.map_nil,sA,sB,seval]
 refine⟨?_,rfl,⟨om,fun c hc=>by rw[k5 c om,k4 c om,E3.old c om,k2 c om,k1 c om]⟩⟩
 and_intros <;> first | rfl | exact⟨_,rfl,fun _=>⟨_,by first | exact l0 | exact l1 | exact l2,aeq_int _ _⟩⟩
theorem vlen_spec{v:V}(hv:v.j){H:AHeap}:ACalls Tryz.prog noNat 92 [.agg v.cells] H fun r H'=>r=.int .i64 (vLen v)∧Ext H.next H H':=by
 obtain⟨H1,m1,r1,n1,k1⟩:=row_newL H v.cells (n:=3) rfl
 obtain⟨_,_,_,p⟩:=ld3 r1
 refine acalls_ofN rfl za92 rfl ?_
 simp only[c92,sA,sB,seval,cells_agg,m1,p]
 refine (vdot_spec hv hv).mono ?_
 rintro _ H2 ⟨rfl,E2⟩
 simp only[sA,sB,seval]
 refine (sqrt_spec (vDot_j v v)).mono ?_
 rintro _ _ ⟨rfl,rfl⟩
 simp only[sA,sB,seval]
 exact⟨rfl,⟨by have:=E2.next; omega,fun c hc=>by rw[E2.old c om,k1 c om]⟩⟩
theorem vunit_spec{v:V}(hv:v.j){H:AHeap}:ACalls Tryz.prog noNat 52 [.agg v.cells] H fun r H'=>r=.agg (vUnit v).cells∧Ext H.next H H':=by
 obtain⟨H1,m1,r1,n1,k1⟩:=row_newL H v.cells (n:=3) rfl
 obtain⟨H2,m2,r2,n2,k2⟩:=row_newL H1 (v3 0 0 0) (n:=3) rfl
 obtain⟨_,_,_,p⟩:=ld3 (r1.same (k2 _ om))
 refine acalls_ofN rfl za52 rfl ?_
 simp only[c52,sA,sB,seval,cells_agg,m1,m2,p]
 refine (vlen_spec hv).mono ?_
 rintro _ H3 ⟨rfl,E3⟩
 have e3:=E3.next
 obtain⟨H4,m4,r4,n4,k4⟩:=row_newL H3 [.int .i64 0] (n:=1) rfl
 obtain⟨H5,m5,r5,n5,k5⟩:=row_st r4 (n:=1) rfl (i:=0) om (x:=.int .i64 (vLen v)) rfl (l':=[.int .i64 (vLen v)]) rfl
 have l5:oLoad false 1 H5 (cellR H3.next 1 0)=some (.int .i64 (vLen v)):=row_load r5 rfl rfl
 have k35:∀c,c<H3.next→H5.get c=H3.get c:=fun c hc=>by rw[k5 c om,k4 c om]
 have old:∀c,c<H.next→H5.get c=H.get c:=fun c hc=>by rw[k35 c om,E3.old c om,k2 c om,k1 c om]
 by_cases hz:vLen v=0
 ·obtain⟨H6,m6,r6,n6,k6⟩:=row_storeN (r2.same (H':=H5) (by rw[k35 _ om,E3.old _ om])) (n:=3) rfl (xs:=v3 0 0 0) rfl rfl
  obtain⟨_,_,_,w⟩:=ld3 r6
  simp only[sA,sB,seval,m4,m5,l5,eq_true hz,bl30,m6,fin_cc,OptP_some,w]
  have e:vUnit v=V0:=by unfold vUnit; rw[if_pos hz]
  rw[e]
  exact⟨rfl,⟨om,fun c hc=>by rw[k6 c om,old c hc]⟩⟩
 ·obtain⟨_,_,_,p5⟩:=ld3 ((r1.same (k2 _ om)).same (H':=H5) (by rw[k35 _ om,E3.old _ om]))
  have hj:J64 (vLen v):=(fSqrt_j _).1
  simp only[sA,sB,seval,m4,m5,l5,hz,p5]
  refine (each_spec (v:=v) (u:=v) om (F:=fun a _=>fDiv a (vLen v)) hv hv (caps:=[cellR H3.next 1 0]) fun {_ _ _} e h _=>unit1_spec h hj (r5.same (e.old _ om))).mono ?_
  rintro _ H6 ⟨rfl,E6⟩
  have e6:=E6.next
  obtain⟨H7,m7,r7,n7,k7⟩:=row_storeN (r2.same (H':=H6) (by rw[E6.old _ om,k35 _ om,E3.old _ om])) (n:=3) rfl (xs:=(vOver v (vLen v)).cells) rfl rfl
  obtain⟨_,_,_,w⟩:=ld3 r7
  have m7':oStore 3 H6 (cellR H1.next 3 0) (.agg (vmap (fun a _=>fDiv a (vLen v)) v v).cells)=some H7:=m7
  simp only[sA,sB,seval,m7',fin_cc,OptP_some,w]
  have e:vUnit v=vOver v (vLen v):=by unfold vUnit; rw[if_neg hz]
  rw[e]
  exact⟨rfl,⟨om,fun c hc=>by rw[k7 c om,E6.old c om,old c hc]⟩⟩
theorem vcross_spec{v u:V}(hv:v.j)(hu:u.j){H:AHeap}:ACalls Tryz.prog noNat 53 [.agg v.cells,.agg u.cells] H fun r H'=>r=.agg (vCross v u).cells∧Ext H.next H H':=by
 obtain⟨a,b,c⟩:=v
 obtain⟨x,y,z⟩:=u
 obtain⟨ha,hb,hc⟩:=hv
 obtain⟨hx,hy,hz⟩:=hu
 show ACalls Tryz.prog noNat 53 [.agg (v3 a b c),.agg (v3 x y z)] H _
 obtain⟨H1,m1,r1,n1,k1⟩:=row_newL H (v3 a b c) (n:=3) rfl
 obtain⟨H2,m2,r2,n2,k2⟩:=row_newL H1 (v3 x y z) (n:=3) rfl
 obtain⟨H3,m3,r3,n3,k3⟩:=row_newL H2 (v3 0 0 0) (n:=3) rfl
 obtain⟨p0,p1,p2,_⟩:=ld3 ((r1.same (k2 _ om)).same (k3 _ om))
 obtain⟨q0,q1,q2,_⟩:=ld3 (r2.same (k3 _ om))
 obtain⟨H4,m4,r4,n4,k4⟩:=row_storeN r3 (n:=3) rfl (xs:=v3 (fSub (fMul b z) (fMul c y)) (fSub (fMul c x) (fMul a z)) (fSub (fMul a y) (fMul b x))) rfl rfl
 obtain⟨_,_,_,w⟩:=ld3 r4
 refine acalls_ofN rfl za53 rfl ?_
 simp only[c53,sA,sB,seval,cells_agg,m1,m2,m3]
 refine aw_drawC rfl ?_
 simp only[sR,sA,sB,seval,fld0,fldA,p1,q2]
 refine (mul_spec hb hz).mono ?_
 rintro _ _ ⟨rfl,rfl⟩
 simp only[sR,sA,sB,seval,fld0,fldA,p2,q1]
 refine (mul_spec hc hy).mono ?_
 rintro _ _ ⟨rfl,rfl⟩
 simp only[sR,sA,sB,seval]
 refine (sub_spec (fMul_j ..) (fMul_j ..)).mono ?_
 rintro _ _ ⟨rfl,rfl⟩
 simp only[sR,sA,sB,seval,fld0,fldA,p2,q0]
 refine (mul_spec hc hx).mono ?_
 rintro _ _ ⟨rfl,rfl⟩
 simp only[sR,sA,sB,seval,fld0,fldA,p0,q2]
 refine (mul_spec ha hz).mono ?_
 rintro _ _ ⟨rfl,rfl⟩
 simp only[sR,sA,sB,seval]
 refine (sub_spec (fMul_j ..) (fMul_j ..)).mono ?_
 rintro _ _ ⟨rfl,rfl⟩
 simp only[sR,sA,sB,seval,fld0,fldA,p0,q1]
 refine (mul_spec ha hy).mono ?_
 rintro _ _ ⟨rfl,rfl⟩
 simp only[sR,sA,sB,seval,fld0,fldA,p1,q0]
 refine (mul_spec hb hx).mono ?_
 rintro _ _ ⟨rfl,rfl⟩
 simp only[sR,sA,sB,seval]
 refine (sub_spec (fMul_j ..) (fMul_j ..)).mono ?_
 rintro _ _ ⟨rfl,rfl⟩
 simp only[sR,sA,sB,seval,bl3,m4]
 simp only[ck_nil',ck_cons,ckP_load,ckP_nil,ck_end,and_true,true_and,List.map_cons,List.map_nil,sA,sB,seval,fin_cc,OptP_some,w]
 refine⟨?_,rfl,⟨om,fun c hc=>by rw[k4 c om,k3 c om,k2 c om,k1 c om]⟩⟩
 and_intros <;> first | rfl | exact⟨_,rfl,fun _=>⟨_,by first | exact p0 | exact p1 | exact q1 | exact p2 | exact q2 | exact q0,aeq_int _ _⟩⟩
theorem vbend_spec{v u:V}(hv:v.j)(hu:u.j){H:AHeap}:ACalls Tryz.prog noNat 103 [.agg v.cells,.agg u.cells] H fun r H'=>r=.agg (vBend v u).cells∧Ext H.next H H':=by
 obtain⟨H1,m1,r1,n1,k1⟩:=row_newL H v.cells (n:=3) rfl
 obtain⟨H2,m2,r2,n2,k2⟩:=row_newL H1 u.cells (n:=3) rfl
 obtain⟨H3,m3,r3,n3,k3⟩:=row_newL H2 (v3 0 0 0) (n:=3) rfl
 have p:∀{K:AHeap},Ext H3.next H3 K→oLoad true 3 K (cellR H.next 3 0)=some (.agg v.cells):=fun e=>(ld3 (((r1.same (k2 _ om)).same (k3 _ om)).same (e.old _ om))).2.2.2
 have q:∀{K:AHeap},Ext H3.next H3 K→oLoad true 3 K (cellR H1.next 3 0)=some (.agg u.cells):=fun e=>(ld3 ((r2.same (k3 _ om)).same (e.old _ om))).2.2.2
 have p3:=p (.refl _ _)
 have q3:=q (.refl _ _)
 refine acalls_ofN rfl za103 rfl ?_
 simp only[c103,sA,sB,seval,cells_agg,m1,m2,m3,p3,q3]
 refine (vdot_spec hv hu).mono ?_
 rintro _ H4 ⟨rfl,E4⟩
 have p4:=p E4
 have q4:=q E4
 simp only[sA,sB,seval]
 refine aw_drawC rfl ?_
 simp only[sR,sA,sB,seval,p4,q4]
 refine (add_spec (vDot_j ..) (vDot_j ..)).mono ?_
 rintro _ _ ⟨rfl,rfl⟩
 simp only[sR,sA,sB,seval]
 refine (vscale_spec hu (fAdd_j (vDot_j ..) (vDot_j ..))).mono ?_
 rintro _ H5 ⟨rfl,E5⟩
 have E45:=E4.trans (E5.less E4.next)
 have p5:=p E45
 simp only[sR,sA,sB,seval]
 refine (vsub_spec hv (vScale_j ..)).mono ?_
 rintro _ H6 ⟨rfl,E6⟩
 have E46:=E45.trans (E6.less E45.next)
 have e6:=E46.next
 obtain⟨H7,m7,r7,n7,k7⟩:=row_storeN (r3.same (H':=H6) (E46.old _ om)) (n:=3) rfl (xs:=(vBend v u).cells) rfl rfl
 obtain⟨_,_,_,w⟩:=ld3 r7
 have m7':oStore 3 H6 (cellR H2.next 3 0) (.agg (vSub v (vScale u (fAdd (vDot v u) (vDot v u)))).cells)=some H7:=m7
 simp only[sR,sA,sB,seval,m7']
 simp only[ck_nil',ck_cons,ckP_load,ckP_nil,ck_end,and_true,true_and,List.map_cons,List.map_nil,sA,sB,seval,fin_cc,OptP_some,w]
 refine⟨?_,rfl,⟨om,fun c hc=>by rw[k7 c om,E46.old c om,k3 c om,k2 c om,k1 c om]⟩⟩
 and_intros <;> first | rfl | exact⟨_,rfl,fun _=>⟨_,by first | exact p4 | exact q4 | exact p5 | exact p E46 | exact q E45,aeq_v3 ..⟩⟩
end Go.Proofs.Tc
