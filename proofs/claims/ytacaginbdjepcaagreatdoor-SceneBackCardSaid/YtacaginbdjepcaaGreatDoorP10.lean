/- Part of a proof (VC3 VD1 VD2 VD3 VD4 VD5 VD6 VD7); no condition. -/
import Derived.Test.YtacaginbdjepcaaGreatDoorProg
import Derived.KernelRfl
import Derived.Test.YtacaginbdjepcaaGreatDoorP7
import Derived.Test.YtacaginbdjepcaaGreatDoorP8
import Derived.Test.YtacaginbdjepcaaGreatDoorP9
set_option linter.unusedSimpArgs false
set_option linter.unusedVariables false
set_option linter.unnecessarySimpa false
namespace Go.Proofs.Wo
open Go.Abs Go.Abs.S
noncomputable section
def c4:cg:=⟨41,zq [zo 1 (.box (.t 0)),zo 2 (.mv (.c (.bool false)))] (zq [zl 8 1,zk 9 .and 8 3,zk 10 .add 9 4,zk 11 .rem 10 5,zk 12 .sub 11 2,zs 1 12] (zq [zo 13 (.mkFunc (.func 10) [] [.t 1]),zm 3 13] (zr [zm 14 3,zo 15 (.callv (.t 14) [.c (.str [98,97,108,108,32,49,48,48,48,48,32,45,49,48,48,48,48,32,48,32,49,48,48,48,48,32,48]),zi 256]),zo 16 (.un .not (.t 15)),zm 17 16,zg 18 (.mv (.t 3)) 17 false,zg 19 (.callv (.t 18) [.c (.str [109,101,115,104,32,109,32,48,32,48,32,48,32,48]),zi 16]) 17 false,zg 20 (.un .not (.t 19)) 17 false,zo 21 (.pick (.t 17) (.c (.bool true)) (.t 20)),zm 22 21,zg 23 (.mv (.t 3)) 22 false,zg 24 (.callv (.t 23) [.c (.str [109,105,114,114,111,114,32,49,32,49,32,49]),zi 63]) 22 false,zg 25 (.un .not (.t 24)) 22 false,zo 26 (.pick (.t 22) (.c (.bool true)) (.t 25))] 26 (zq [zo 2 (.mv (.c (.bool false)))] .ret) .skip (.seq (zq [zo 27 (.build [.str [],.str [],.str [],.str [],.str [],.str [],.str [],.str [],.str [],.str [],.str [],.str [],.str []] [(0,1,.c (.str [115,105,122,101,32,49,48,50,53,32,49])),(1,1,.c (.str [115,105,122,101,32,48,32,49])),(2,1,.c (.str [115,105,122,101,32,49,32,49,10,115,97,109,112,108,101,115,32,54,53])),(3,1,.c (.str [115,105,122,101,32,49,32,49,10,115,97,109,112,108,101,115,32,48])),(4,1,.c (.str [115,105,122,101,32,49,32,49,10,98,111,117,110,99,101,115,32,57])),(5,1,.c (.str [115,105,122,101,32,49,32,49,10,119,105,100,101,32,48])),(6,1,.c (.str [115,105,122,101,32,49,32,49,10,119,105,100,101,32,49,48,48,46,49])),(7,1,.c (.str [115,105,122,101,32,49,32,49,10,115,107,121,32,54,53,32,48,32,48])),(8,1,.c (.str [115,105,122,101,32,49,32,49,10,109,105,114,114,111,114,32,49,46,49,32,48,32,48])),(9,1,.c (.str [115,105,122,101,32,49,32,49,10,101,121,101,32,49,48,48,48,49,32,48,32,48])),(10,1,.c (.str [115,105,122,101,32,49,32,49,10,115,101,101,100,32,49,56,52,52,54,55,52,52,48,55,51,55,48,57,53,53,49,54,49,54])),(11,1,.c (.str [115,105,122,101,32,49,32,49,10,102,111,103,32,49])),(12,1,.c (.str [115,97,109,112,108,101,115,32,49]))]),zo 28 (.mv (zi 0))] (.block 0 (.loop (zq [zk 29 .lss 28 13] (.seq (.cond (.t 29) .skip (.exit 0)) (.seq (.block 1 (zq [zo 30 (.idx 13 1 false (.t 27) (.t 28)),zm 5 30] (zq [zm 32 5,zx 33 7 [.t 32],zm 31 33,ze 34 0 31,ze 35 1 31,zo 6 (.new [zI 0,zI 0,zI 0,zI 0,.int .u64 (.ofNat 0),zI 0,zI 0,zI 0,zI 0,zI 0,zI 0,zI 0,zI 0,zI 0,zI 0,zI 0,zI 0,zI 0,zN,zN,zN]),zo 7 (.new [zI 0,zI 0]),zp (.store 21 (.t 6) (.t 34)),zp (.store 2 (.t 7) (.t 35))] (zq [zf 36 0 7,zl 37 36,zk 38 .neq 37 130] (.cond (.t 38) (zq [zo 2 (.mv (.c (.bool false)))] .ret) .skip))))) (.reg [zk 39 .add 28 1,zm 28 39]))))))) (zq [zx 40 5 [],zm 2 40] .ret))))),[.t 2]⟩
def M7:cg:=⟨37,zq [zo 5 (.mv (.c (.bool false)))] (zq [zm 9 0,zo 10 (.bin .add (.t 9) (.c (.str [10]))),zm 11 1,zl 12 2,zb 13 .add 11 12,zx 14 11 [.t 10,.t 13],zo 15 (.bin .add (.c (.str [115,105,122,101,32,49,48,50,52,32,49,10,115,97,109,112,108,101,115,32,54,52,10,98,111,117,110,99,101,115,32,56,10,119,105,100,101,32,49,48,48,10,103,108,111,119,32,54,52,32,48,32,48,10])) (.t 14)),zm 6 15] (zq [zm 17 6,zx 18 7 [.t 17],zm 16 18,ze 19 0 16,ze 20 1 16,zo 7 (.new [zI 0,zI 0,zI 0,zI 0,.int .u64 (.ofNat 0),zI 0,zI 0,zI 0,zI 0,zI 0,zI 0,zI 0,zI 0,zI 0,zI 0,zI 0,zI 0,zI 0,zN,zN,zN]),zo 8 (.new [zI 0,zI 0]),zp (.store 21 (.t 7) (.t 19)),zp (.store 2 (.t 8) (.t 20))] (zq [zf 21 0 8,zl 22 21,zk 23 .eql 22 0,zl 24 2,zk 25 .leq 24 0,zo 26 (.pf (.eqv false .bool) [.t 23,.t 25]),zm 27 26,zg 28 (.fieldA 0 (.t 8)) 27 true,zg 29 (.load false 1 (.t 28)) 27 true,zg 30 (.bin .neq (.t 29) (zi 0)) 27 true,zg 31 (.mv (.t 30)) 27 true,zg 32 (.load true 21 (.t 7)) 31 false,zg 33 (.call 9 [.t 32]) 31 false,zg 34 (.bin .eql (.t 33) (zi 0)) 31 false,zg 35 (.pick (.t 31) (.c (.bool true)) (.t 34)) 27 true,zo 36 (.pick (.t 27) (.t 35) (.c (.bool false))),zm 5 36] .ret))),[.t 5]⟩
def c9:cg:=⟨126,zq [zo 1 (.box (.t 0)),zo 2 (.mv (zi 0))] (zq [zo 3 (.mv (.f 24))] (zq [zm 11 3,zf 12 0 1,zl 13 12,zo 14 (.callv (.t 11) [.t 13,zi 1,zi 1024]),zm 15 14,zg 16 (.mv (.t 3)) 15 true,zg 17 (.fieldA 1 (.t 1)) 15 true,zg 18 (.load false 1 (.t 17)) 15 true,zg 19 (.callv (.t 16) [.t 18,zi 1,zi 1024]) 15 true,zo 20 (.pick (.t 15) (.t 19) (.c (.bool false))),zm 21 20,zg 22 (.mv (.t 3)) 21 true,zg 23 (.fieldA 2 (.t 1)) 21 true,zg 24 (.load false 1 (.t 23)) 21 true,zg 25 (.callv (.t 22) [.t 24,zi 1,zi 64]) 21 true,zo 26 (.pick (.t 21) (.t 25) (.c (.bool false))),zm 27 26,zg 28 (.mv (.t 3)) 27 true,zg 29 (.fieldA 3 (.t 1)) 27 true,zg 30 (.load false 1 (.t 29)) 27 true,zg 31 (.callv (.t 28) [.t 30,zi 0,zi 8]) 27 true,zo 32 (.pick (.t 27) (.t 31) (.c (.bool false))),zm 33 32,zg 34 (.fieldA 5 (.t 1)) 33 true,zg 35 (.load true 3 (.t 34)) 33 true,zg 36 (.call 25 [.t 35]) 33 true,zo 37 (.pick (.t 33) (.t 36) (.c (.bool false))),zm 38 37,zg 39 (.fieldA 8 (.t 1)) 38 true,zg 40 (.load true 3 (.t 39)) 38 true,zg 41 (.call 25 [.t 40]) 38 true,zo 42 (.pick (.t 38) (.t 41) (.c (.bool false))),zm 43 42,zg 44 (.fieldA 11 (.t 1)) 43 true,zg 45 (.load true 3 (.t 44)) 43 true,zg 46 (.call 25 [.t 45]) 43 true,zo 47 (.pick (.t 43) (.t 46) (.c (.bool false))),zm 48 47,zg 49 (.fieldA 14 (.t 1)) 48 true,zg 50 (.load false 1 (.t 49)) 48 true,zg 51 (.bin .lss (zi 0) (.t 50)) 48 true,zo 52 (.pick (.t 48) (.t 51) (.c (.bool false))),zm 53 52,zg 54 (.fieldA 14 (.t 1)) 53 true,zg 55 (.load false 1 (.t 54)) 53 true,zg 56 (.bin .leq (.t 55) (zi 429496729600)) 53 true,zo 57 (.pick (.t 53) (.t 56) (.c (.bool false))),zm 58 57,zg 59 (.fieldA 15 (.t 1)) 58 true,zg 60 (.load true 3 (.t 59)) 58 true,zg 61 (.call 26 [.t 60,zi 0,zi 274877906944]) 58 true,zo 62 (.pick (.t 58) (.t 61) (.c (.bool false))),zm 63 62,zg 64 (.fieldA 18 (.t 1)) 63 true,zg 65 (.load false 1 (.t 64)) 63 true,zg 66 (.len false (.t 65)) 63 true,zg 67 (.bin .leq (.t 66) (zi 64)) 63 true,zo 68 (.pick (.t 63) (.t 67) (.c (.bool false))),zm 69 68,zg 70 (.fieldA 19 (.t 1)) 69 true,zg 71 (.load false 1 (.t 70)) 69 true,zg 72 (.len false (.t 71)) 69 true,zg 73 (.bin .leq (.t 72) (zi 256)) 69 true,zo 74 (.pick (.t 69) (.t 73) (.c (.bool false))),zm 75 74,zg 76 (.fieldA 20 (.t 1)) 75 true,zg 77 (.load false 1 (.t 76)) 75 true,zg 78 (.len false (.t 77)) 75 true,zg 79 (.bin .leq (.t 78) (zi 16)) 75 true,zo 80 (.pick (.t 75) (.t 79) (.c (.bool false))),zm 4 80] (zr [zm 81 4,zo 82 (.un .not (.t 81))] 82 (zq [zo 2 (.mv (zi 130))] .ret) .skip (.seq (zq [zf 83 18 1,zl 84 83,zh 85 84,zo 86 (.mv (zi 0))] (.block 0 (.loop (zq [zb 87 .lss 86 85] (.seq (.cond (.t 87) .skip (.exit 0)) (.seq (.block 1 (zq [zo 88 (.idxA 6 (.t 84) (.t 86)),zt 89 6 88,zo 6 (.new [zU 0,zI 0,zI 0,zI 0,.str [],.str []]),zp (.store 6 (.t 6) (.t 89))] (zq [zt 90 6 6,zx 91 27 [.t 90],zo 92 (.un .not (.t 91))] (.cond (.t 92) (zq [zo 2 (.mv (zi 130))] .ret) .skip)))) (.reg [zk 93 .add 86 1,zm 86 93]))))))) (.seq (zq [zf 94 19 1,zl 95 94,zh 96 95,zo 97 (.mv (zi 0))] (.block 2 (.loop (zq [zb 98 .lss 97 96] (.seq (.cond (.t 98) .skip (.exit 2)) (.seq (.block 3 (zq [zo 99 (.idxA 5 (.t 95) (.t 97)),zt 100 5 99,zo 8 (.new [zI 0,zI 0,zI 0,zI 0,zI 0]),zp (.store 5 (.t 8) (.t 100))] (zq [zt 101 5 8,zx 102 28 [.t 101],zo 103 (.un .not (.t 102))] (.cond (.t 103) (zq [zo 2 (.mv (zi 130))] .ret) .skip)))) (.reg [zk 104 .add 97 1,zm 97 104]))))))) (.seq (zq [zf 105 20 1,zl 106 105,zh 107 106,zo 108 (.mv (zi 0))] (.block 4 (.loop (zq [zb 109 .lss 108 107] (.seq (.cond (.t 109) .skip (.exit 4)) (.seq (.block 5 (zq [zo 110 (.idxA 5 (.t 106) (.t 108)),zt 111 5 110,zo 10 (.new [.str [],zI 0,zI 0,zI 0,zI 0]),zp (.store 5 (.t 10) (.t 111))] (zq [zf 112 0 10,zl 113 112,zx 114 29 [.t 113],zo 115 (.un .not (.t 114)),zm 116 115,zg 117 (.fieldA 1 (.t 10)) 116 false,zg 118 (.load true 3 (.t 117)) 116 false,zg 119 (.call 25 [.t 118]) 116 false,zg 120 (.un .not (.t 119)) 116 false,zo 121 (.pick (.t 116) (.c (.bool true)) (.t 120))] (.cond (.t 121) (zq [zo 2 (.mv (zi 130))] .ret) .skip)))) (.reg [zk 122 .add 108 1,zm 108 122]))))))) (zr [zt 123 21 1,zx 124 23 [.t 123],zo 125 (.un .not (.t 124))] 125 (zq [zo 2 (.mv (zi 130))] .ret) .skip (zq [zo 2 (.mv (zi 0))] .ret)))))))),[.t 2]⟩
theorem za9:cN Tryz.prog 9=some c9:=by kernel_rfl
def NG:cg:=⟨15,zq [zo 6 (.mv (.c (.bool false)))] (zq [zm 7 1,zm 8 0,zb 9 .leq 7 8,zm 10 9,zg 11 (.mv (.t 0)) 10 true,zg 12 (.mv (.t 2)) 10 true,zg 13 (.bin .leq (.t 11) (.t 12)) 10 true,zo 14 (.pick (.t 10) (.t 13) (.c (.bool false))),zm 6 14] .ret),[.t 6]⟩
theorem OE:cN Tryz.prog 24=some NG:=by kernel_rfl
def c5:cg:=⟨91,zq [zo 0 (.mv (.c (.bool false)))] (zq [zx 14 7 [.c (.str [115,105,122,101,32,50,32,49,10,100,105,102,102,117,115,101,32,49,32,48,46,53,32,48,10,98,97,108,108,32,48,32,48,32,48,32,49,32,48])],zm 13 14,ze 15 0 13,ze 16 1 13,zo 1 (.new [zI 0,zI 0,zI 0,zI 0,.int .u64 (.ofNat 0),zI 0,zI 0,zI 0,zI 0,zI 0,zI 0,zI 0,zI 0,zI 0,zI 0,zI 0,zI 0,zI 0,zN,zN,zN]),zo 2 (.new [zI 0,zI 0]),zp (.store 21 (.t 1) (.t 15)),zp (.store 2 (.t 2) (.t 16))] (zq [zx 18 7 [.c (.str [115,105,122,101,32,50])],zm 17 18,ze 19 0 17,ze 20 1 17,zo 3 (.new [zI 0,zI 0,zI 0,zI 0,.int .u64 (.ofNat 0),zI 0,zI 0,zI 0,zI 0,zI 0,zI 0,zI 0,zI 0,zI 0,zI 0,zI 0,zI 0,zI 0,zN,zN,zN]),zo 4 (.new [zI 0,zI 0]),zp (.store 21 (.t 3) (.t 19)),zp (.store 2 (.t 4) (.t 20))] (zq [zx 22 7 [.c (.str [115,105,122,101,32,50,32,50,10,115,105,122,101,32,50,32,50])],zm 21 22,ze 23 0 21,ze 24 1 21,zo 5 (.new [zI 0,zI 0,zI 0,zI 0,.int .u64 (.ofNat 0),zI 0,zI 0,zI 0,zI 0,zI 0,zI 0,zI 0,zI 0,zI 0,zI 0,zI 0,zI 0,zI 0,zN,zN,zN]),zo 6 (.new [zI 0,zI 0]),zp (.store 21 (.t 5) (.t 23)),zp (.store 2 (.t 6) (.t 24))] (zq [zx 26 7 [.c (.str [115,105,122,101,32,50,32,50,10,98,97,108,108,32,48,32,48,32,48,32,49,32,48])],zm 25 26,ze 27 0 25,ze 28 1 25,zo 7 (.new [zI 0,zI 0,zI 0,zI 0,.int .u64 (.ofNat 0),zI 0,zI 0,zI 0,zI 0,zI 0,zI 0,zI 0,zI 0,zI 0,zI 0,zI 0,zI 0,zI 0,zN,zN,zN]),zo 8 (.new [zI 0,zI 0]),zp (.store 21 (.t 7) (.t 27)),zp (.store 2 (.t 8) (.t 28))] (zq [zx 30 7 [.c (.str [115,105,122,101,32,49,32,49,10,98,97,108,108,32,48,32,48,32,48,32,45,49,32,48])],zm 29 30,ze 31 0 29,ze 32 1 29,zo 9 (.new [zI 0,zI 0,zI 0,zI 0,.int .u64 (.ofNat 0),zI 0,zI 0,zI 0,zI 0,zI 0,zI 0,zI 0,zI 0,zI 0,zI 0,zI 0,zI 0,zI 0,zN,zN,zN]),zo 10 (.new [zI 0,zI 0]),zp (.store 21 (.t 9) (.t 31)),zp (.store 2 (.t 10) (.t 32))] (zq [zt 34 21 1,zx 35 6 [.t 34],zm 33 35,ze 36 0 33,ze 37 1 33,zm 11 36,zm 12 37] (zq [zf 38 0 2,zl 39 38,zk 40 .eql 39 0,zm 41 40,zg 42 (.fieldA 0 (.t 1)) 41 true,zg 43 (.load false 1 (.t 42)) 41 true,zg 44 (.bin .eql (.t 43) (zi 2)) 41 true,zo 45 (.pick (.t 41) (.t 44) (.c (.bool false))),zm 46 45,zg 47 (.fieldA 1 (.t 1)) 46 true,zg 48 (.load false 1 (.t 47)) 46 true,zg 49 (.bin .eql (.t 48) (zi 1)) 46 true,zo 50 (.pick (.t 46) (.t 49) (.c (.bool false))),zm 51 50,zg 52 (.fieldA 18 (.t 1)) 51 true,zg 53 (.load false 1 (.t 52)) 51 true,zg 54 (.len false (.t 53)) 51 true,zg 55 (.bin .eql (.t 54) (zi 1)) 51 true,zo 56 (.pick (.t 51) (.t 55) (.c (.bool false))),zm 57 56,zg 58 (.fieldA 19 (.t 1)) 57 true,zg 59 (.load false 1 (.t 58)) 57 true,zg 60 (.len false (.t 59)) 57 true,zg 61 (.bin .eql (.t 60) (zi 1)) 57 true,zo 62 (.pick (.t 57) (.t 61) (.c (.bool false))),zm 63 62,zg 64 (.load true 2 (.t 4)) 63 true,zg 65 (.build [zI 0,zI 0] [(0,1,zi 130),(1,1,zi 1)]) 63 true,zg 66 (.pf (.eqS false [(0,.int),(1,.int)]) [.t 64,.t 65]) 63 true,zo 67 (.pick (.t 63) (.t 66) (.c (.bool false))),zm 68 67,zg 69 (.load true 2 (.t 6)) 68 true,zg 70 (.build [zI 0,zI 0] [(0,1,zi 130),(1,1,zi 2)]) 68 true,zg 71 (.pf (.eqS false [(0,.int),(1,.int)]) [.t 69,.t 70]) 68 true,zo 72 (.pick (.t 68) (.t 71) (.c (.bool false))),zm 73 72,zg 74 (.load true 2 (.t 8)) 73 true,zg 75 (.build [zI 0,zI 0] [(0,1,zi 130)]) 73 true,zg 76 (.pf (.eqS false [(0,.int),(1,.int)]) [.t 74,.t 75]) 73 true,zo 77 (.pick (.t 73) (.t 76) (.c (.bool false))),zm 78 77,zg 79 (.load true 2 (.t 10)) 78 true,zg 80 (.build [zI 0,zI 0] [(0,1,zi 130),(1,1,zi 2)]) 78 true,zg 81 (.pf (.eqS false [(0,.int),(1,.int)]) [.t 79,.t 80]) 78 true,zo 82 (.pick (.t 78) (.t 81) (.c (.bool false))),zm 83 82,zg 84 (.mv (.t 12)) 83 true,zg 85 (.bin .eql (.t 84) (zi 0)) 83 true,zo 86 (.pick (.t 83) (.t 85) (.c (.bool false))),zm 87 86,zg 88 (.mv (.t 11)) 87 true,zg 89 (.call 12 [.t 88,.c (.str [115,105,122,101,32,50,32,49,10,115,97,109,112,108,101,115,32,49,10,98,111,117,110,99,101,115,32,50,10,115,101,101,100,32,48,10,101,121,101,32,48,32,48,32,45,52,10])]) 87 true,zo 90 (.pick (.t 87) (.t 89) (.c (.bool false))),zm 0 90] .ret))))))),[.t 0]⟩
theorem za5:cN Tryz.prog 5=some c5:=by kernel_rfl
def c6:cg:=⟨139,zq [zo 1 (.box (.t 0)),zo 2 (.mv (.c (.str []))),zo 3 (.mv (zi 0))] (.seq (zq [zt 12 21 1,zx 13 9 [.t 12],zm 4 13] (zq [zm 14 4,zk 15 .neq 14 0] (.cond (.t 15) (zq [zm 16 4,zo 2 (.mv (.c (.str []))),zm 3 16] .ret) .skip))) (zq [zo 17 (.build [zN] []),zo 18 (.box (.t 17)),zm 5 18] (.seq (.draw [zm 19 5,zf 20 0 1,zl 21 20,zx 22 14 [.t 21],zf 23 1 1,zl 24 23,zx 25 14 [.t 24],zo 26 (.buildSl 3 [.str []] [(0,1,.c (.str [115,105,122,101])),(1,1,.t 22),(2,1,.t 25)]),zx 27 13 [.t 19,.t 26]] [[],[],[],[],[],[3],[],[],[]]) (zq [zm 28 5,zf 29 2 1,zl 30 29,zx 31 14 [.t 30],zo 32 (.buildSl 2 [.str []] [(0,1,.c (.str [115,97,109,112,108,101,115])),(1,1,.t 31)]),zx 33 13 [.t 28,.t 32]] (zq [zm 34 5,zf 35 3 1,zl 36 35,zx 37 14 [.t 36],zo 38 (.buildSl 2 [.str []] [(0,1,.c (.str [98,111,117,110,99,101,115])),(1,1,.t 37)]),zx 39 13 [.t 34,.t 38]] (zq [zm 40 5,zf 41 4 1,zl 42 41,zx 43 15 [.t 42,zi 10],zo 44 (.buildSl 2 [.str []] [(0,1,.c (.str [115,101,101,100])),(1,1,.t 43)]),zx 45 13 [.t 40,.t 44]] (zq [zm 46 5,zf 47 5 1,zt 48 3 47,zx 49 16 [.t 48],zo 50 (.buildSl 2 [.str []] [(0,1,.c (.str [101,121,101])),(1,1,.t 49)]),zx 51 13 [.t 46,.t 50]] (zq [zm 52 5,zf 53 8 1,zt 54 3 53,zx 55 16 [.t 54],zo 56 (.buildSl 2 [.str []] [(0,1,.c (.str [97,116])),(1,1,.t 55)]),zx 57 13 [.t 52,.t 56]] (zq [zm 58 5,zf 59 11 1,zt 60 3 59,zx 61 16 [.t 60],zo 62 (.buildSl 2 [.str []] [(0,1,.c (.str [117,112])),(1,1,.t 61)]),zx 63 13 [.t 58,.t 62]] (zq [zm 64 5,zf 65 14 1,zl 66 65,zx 67 17 [.t 66],zo 68 (.buildSl 2 [.str []] [(0,1,.c (.str [119,105,100,101])),(1,1,.t 67)]),zx 69 13 [.t 64,.t 68]] (zq [zm 70 5,zf 71 15 1,zt 72 3 71,zx 73 16 [.t 72],zo 74 (.buildSl 2 [.str []] [(0,1,.c (.str [115,107,121])),(1,1,.t 73)]),zx 75 13 [.t 70,.t 74]] (.seq (zq [zf 76 18 1,zl 77 76,zh 78 77,zo 79 (.mv (zi 0))] (.block 0 (.loop (zq [zb 80 .lss 79 78] (.seq (.cond (.t 80) .skip (.exit 0)) (.seq (.block 1 (zq [zo 81 (.idxA 6 (.t 77) (.t 79)),zt 82 6 81,zo 7 (.new [zU 0,zI 0,zI 0,zI 0,.str [],.str []]),zp (.store 6 (.t 7) (.t 82))] (.reg [zm 83 5,zt 84 6 7,zx 85 18 [.t 83,.t 84]]))) (.reg [zk 86 .add 79 1,zm 79 86]))))))) (.seq (zq [zf 87 19 1,zl 88 87,zh 89 88,zo 90 (.mv (zi 0))] (.block 2 (.loop (zq [zb 91 .lss 90 89] (.seq (.cond (.t 91) .skip (.exit 2)) (.seq (.block 3 (zq [zo 92 (.idxA 5 (.t 88) (.t 90)),zt 93 5 92,zo 9 (.new [zI 0,zI 0,zI 0,zI 0,zI 0]),zp (.store 5 (.t 9) (.t 93))] (.draw [zm 94 5,zf 95 0 9,zf 96 0 95,zt 97 3 96,zx 98 16 [.t 97],zf 99 0 9,zf 100 3 99,zl 101 100,zx 102 17 [.t 101],zf 103 4 9,zl 104 103,zx 105 14 [.t 104],zo 106 (.buildSl 4 [.str []] [(0,1,.c (.str [98,97,108,108])),(1,1,.t 98),(2,1,.t 102),(3,1,.t 105)]),zx 107 13 [.t 94,.t 106]] [[],[],[],[],[],[],[],[4],[],[],[4,8],[],[],[]]))) (.reg [zk 108 .add 90 1,zm 90 108]))))))) (.seq (zq [zf 109 20 1,zl 110 109,zh 111 110,zo 112 (.mv (zi 0))] (.block 4 (.loop (zq [zb 113 .lss 112 111] (.seq (.cond (.t 113) .skip (.exit 4)) (.seq (.block 5 (zq [zo 114 (.idxA 5 (.t 110) (.t 112)),zt 115 5 114,zo 11 (.new [.str [],zI 0,zI 0,zI 0,zI 0]),zp (.store 5 (.t 11) (.t 115))] (.draw [zm 116 5,zf 117 0 11,zl 118 117,zf 119 1 11,zt 120 3 119,zx 121 16 [.t 120],zf 122 4 11,zl 123 122,zx 124 14 [.t 123],zo 125 (.buildSl 4 [.str []] [(0,1,.c (.str [109,101,115,104])),(1,1,.t 118),(2,1,.t 121),(3,1,.t 124)]),zx 126 13 [.t 116,.t 125]] [[],[],[8,9],[],[],[],[],[5],[],[],[]]))) (.reg [zk 127 .add 112 1,zm 112 127]))))))) (zr [zm 128 5,zc 129 128,zf 130 0 129,zl 131 130,zh 132 131,zk 133 .gtr 132 16384] 133 (zq [zo 2 (.mv (.c (.str []))),zo 3 (.mv (zi 3))] .ret) .skip (zq [zm 134 5,zc 135 134,zf 136 0 135,zl 137 136,zo 138 (.convBS (.t 137)),zm 2 138,zo 3 (.mv (zi 0))] .ret)))))))))))))))),[.t 2,.t 3]⟩
theorem za6:cN Tryz.prog 6=some c6:=by kernel_rfl
def LE:cg:=⟨5,zq [zo 2 (.mv (.c (.str [])))] (zq [zm 3 0,zx 4 37 [.t 3],zm 2 4] .ret),[.t 2]⟩
theorem OO:cN Tryz.prog 14=some LE:=by kernel_rfl
def c37:cg:=⟨5,zq [zo 2 (.mv (.c (.str [])))] (zq [zm 3 0,zx 4 71 [.t 3,zi 10],zm 2 4] .ret),[.t 2]⟩
theorem Ox:cN Tryz.prog 37=some c37:=by kernel_rfl
def O6:cg:=⟨54,zq [zo 4 (.mv (.c (.str [])))] (zr [zm 10 1,zk 11 .eql 10 10] 11 (zr [zm 12 0,zo 13 (.bin .leq (zi 0) (.t 12)),zm 14 13,zg 15 (.mv (.t 0)) 14 true,zg 16 (.bin .lss (.t 15) (zi 100)) 14 true,zo 17 (.pick (.t 14) (.t 16) (.c (.bool false)))] 17 (zq [zm 18 0,zx 19 72 [.t 18],zm 4 19] .ret) .skip (zq [zo 5 (.new [zU 0,zU 0,zU 0,zU 0,zU 0,zU 0,zU 0,zU 0,zU 0,zU 0,zU 0,zU 0,zU 0,zU 0,zU 0,zU 0,zU 0,zU 0,zU 0,zU 0,zU 0,zU 0,zU 0,zU 0])] (zq [zm 20 0,zv 21 .u64 20,zm 6 21] (zr [zm 22 0,zk 23 .lss 22 0] 23 (.reg [zm 24 6,zo 25 (.un .neg (.t 24)),zm 6 25]) .skip (zq [zm 26 6,zx 27 73 [.t 26],zm 7 27] (zq [zm 28 7,zo 29 (.bin .add (zi 1) (.t 28)),zo 30 (.slA 24 1 (.t 5) (some (zi 1)) (some (.t 29)) none),zm 31 6,zx 32 74 [.t 30,.t 31]] (zr [zm 33 0,zk 34 .lss 33 0] 34 (zq [zo 35 (.idxArr 24 1 (.t 5) (zi 0)),zp (.store 1 (.t 35) (zu 45))] (zq [zm 36 7,zo 37 (.bin .add (zi 1) (.t 36)),zo 38 (.slA 24 1 (.t 5) none (some (.t 37)) none),zo 39 (.convBS (.t 38)),zm 4 39] .ret)) .skip (zq [zm 40 7,zo 41 (.bin .add (zi 1) (.t 40)),zo 42 (.slA 24 1 (.t 5) (some (zi 1)) (some (.t 41)) none),zo 43 (.convBS (.t 42)),zm 4 43] .ret)))))))) .skip (zq [zm 45 0,zv 46 .u64 45,zm 47 1,zm 48 0,zk 49 .lss 48 0,zx 50 75 [zn,.t 46,.t 47,.t 49,.c (.bool false)],zm 44 50,ze 51 0 44,ze 52 1 44,zm 8 51,zm 9 52] (zq [zm 53 9,zm 4 53] .ret))),[.t 4]⟩
theorem N1:cN Tryz.prog 71=some O6:=by kernel_rfl
def LF:cg:=⟨23,.seq (.draw [zm 4 0,zm 5 0,zc 6 5,zf 7 0 6,zl 8 7,zm 9 1,zx 10 36 [.t 9,.c (.str [32])],zy 11 8 10,zc 12 4,zf 13 0 12,zs 13 11] [[],[],[],[],[7],[],[],[],[],[],[]]) (.reg [zm 14 0,zm 15 0,zc 16 15,zf 17 0 16,zl 18 17,zo 19 (.buildSl 1 [zU 0] [(0,1,zu 10)]),zy 20 18 19,zc 21 14,zf 22 0 21,zs 22 20]),[]⟩
theorem OP:cN Tryz.prog 13=some LF:=by kernel_rfl
def LD:cg:=⟨8,zq [zo 4 (.mv (.c (.str [])))] (zq [zm 5 0,zm 6 1,zx 7 38 [.t 5,.t 6],zm 4 7] .ret),[.t 4]⟩
theorem ON:cN Tryz.prog 15=some LD:=by kernel_rfl
def Pf:cg:=⟨32,zq [zo 4 (.mv (.c (.str [])))] (zr [zm 9 1,zk 10 .eql 9 10] 10 (zr [zm 11 0,zo 12 (.bin .lss (.t 11) (.c (.int .u64 (.ofNat 100))))] 12 (zq [zm 13 0,zv 14 .i64 13,zx 15 72 [.t 14],zm 4 15] .ret) .skip (zq [zo 5 (.new [zU 0,zU 0,zU 0,zU 0,zU 0,zU 0,zU 0,zU 0,zU 0,zU 0,zU 0,zU 0,zU 0,zU 0,zU 0,zU 0,zU 0,zU 0,zU 0,zU 0,zU 0,zU 0,zU 0,zU 0])] (zq [zm 16 0,zx 17 73 [.t 16],zm 6 17] (zq [zm 18 6,zo 19 (.slA 24 1 (.t 5) none (some (.t 18)) none),zm 20 0,zx 21 74 [.t 19,.t 20]] (zq [zm 22 6,zo 23 (.slA 24 1 (.t 5) none (some (.t 22)) none),zo 24 (.convBS (.t 23)),zm 4 24] .ret))))) .skip (zq [zm 26 0,zm 27 1,zx 28 75 [zn,.t 26,.t 27,.c (.bool false),.c (.bool false)],zm 25 28,ze 29 0 25,ze 30 1 25,zm 7 29,zm 8 30] (zq [zm 31 8,zm 4 31] .ret))),[.t 4]⟩
theorem Ow:cN Tryz.prog 38=some Pf:=by kernel_rfl
def LC:cg:=⟨16,zq [zo 1 (.box (.t 0)),zo 2 (.mv (.c (.str [])))] (.seq (.draw [zf 3 0 1,zl 4 3,zx 5 17 [.t 4],zo 6 (.bin .add (.t 5) (.c (.str [32]))),zf 7 1 1,zl 8 7,zx 9 17 [.t 8],zb 10 .add 6 9,zo 11 (.bin .add (.t 10) (.c (.str [32]))),zf 12 2 1,zl 13 12,zx 14 17 [.t 13],zb 15 .add 11 14,zm 2 15] [[],[],[],[],[],[2],[],[],[],[],[2,6],[],[],[]]) .ret),[.t 2]⟩
theorem OM:cN Tryz.prog 16=some LC:=by kernel_rfl
def LB:cg:=⟨47,zq [zo 3 (.box (.t 1))] (zq [zf 4 0 3,zl 5 4] (.block 0 (zq [zo 7 (.bin .eql (.t 5) (zu 1)),zm 6 7] (.cond (.t 6) (.reg [zm 8 0,zf 9 1 3,zt 10 3 9,zx 11 16 [.t 10],zo 12 (.buildSl 2 [.str []] [(0,1,.c (.str [100,105,102,102,117,115,101])),(1,1,.t 11)]),zx 13 13 [.t 8,.t 12]]) (zq [zo 15 (.bin .eql (.t 5) (zu 2)),zm 14 15] (.cond (.t 14) (.reg [zm 16 0,zf 17 1 3,zt 18 3 17,zx 19 16 [.t 18],zo 20 (.buildSl 2 [.str []] [(0,1,.c (.str [109,105,114,114,111,114])),(1,1,.t 19)]),zx 21 13 [.t 16,.t 20]]) (zq [zo 23 (.bin .eql (.t 5) (zu 3)),zm 22 23] (.cond (.t 22) (.reg [zm 24 0,zf 25 1 3,zt 26 3 25,zx 27 16 [.t 26],zo 28 (.buildSl 2 [.str []] [(0,1,.c (.str [103,108,111,119])),(1,1,.t 27)]),zx 29 13 [.t 24,.t 28]]) (zq [zo 31 (.bin .eql (.t 5) (zu 4)),zm 30 31] (.cond (.t 30) (zq [zf 32 5 3,zl 33 32,zo 34 (.bin .eql (.t 33) (.c (.str [])))] (.cond (.t 34) (.reg [zm 35 0,zf 36 4 3,zl 37 36,zo 38 (.buildSl 2 [.str []] [(0,1,.c (.str [115,104,97,100,101,114])),(1,1,.t 37)]),zx 39 13 [.t 35,.t 38]]) (.reg [zm 40 0,zf 41 4 3,zl 42 41,zf 43 5 3,zl 44 43,zo 45 (.buildSl 3 [.str []] [(0,1,.c (.str [115,104,97,100,101,114])),(1,1,.t 42),(2,1,.t 44)]),zx 46 13 [.t 40,.t 45]]))) .skip)))))))))),[]⟩
theorem OK:cN Tryz.prog 18=some LB:=by kernel_rfl
def c3:cg:=⟨155,zq [zo 2 (.box (.t 0)),zo 4 (.mv (.c (.bool false)))] (zr [zf 17 18 2,zl 18 17,zh 19 18,zf 20 19 2,zl 21 20,zh 22 21,zb 23 .add 19 22,zf 24 20 2,zl 25 24,zh 26 25,zb 27 .add 23 26,zk 28 .gtr 27 400,zm 29 28,zg 30 (.mv (.t 1)) 29 false,zg 31 (.len true (.t 30)) 29 false,zg 32 (.bin .gtr (.t 31) (zi 4000)) 29 false,zo 33 (.pick (.t 29) (.c (.bool true)) (.t 32))] 33 (zq [zx 34 5 [],zm 4 34] .ret) .skip (.seq (zq [zt 36 21 2,zx 37 6 [.t 36],zm 35 37,ze 38 0 35,ze 39 1 35,zm 5 38,zm 6 39] (zq [zm 40 6,zk 41 .eql 40 0] (.cond (.t 41) (zq [zm 43 5,zx 44 7 [.t 43],zm 42 44,ze 45 0 42,ze 46 1 42,zo 7 (.new [zI 0,zI 0,zI 0,zI 0,.int .u64 (.ofNat 0),zI 0,zI 0,zI 0,zI 0,zI 0,zI 0,zI 0,zI 0,zI 0,zI 0,zI 0,zI 0,zI 0,zN,zN,zN]),zo 8 (.new [zI 0,zI 0]),zp (.store 21 (.t 7) (.t 45)),zp (.store 2 (.t 8) (.t 46))] (zq [zf 47 0 8,zl 48 47,zk 49 .neq 48 0,zm 50 49,zg 51 (.load true 21 (.t 2)) 50 false,zg 52 (.load true 21 (.t 7)) 50 false,zg 53 (.call 8 [.t 51,.t 52]) 50 false,zg 54 (.un .not (.t 53)) 50 false,zo 55 (.pick (.t 50) (.c (.bool true)) (.t 54))] (.cond (.t 55) (zq [zo 4 (.mv (.c (.bool false)))] .ret) .skip))) (zq [zm 56 6,zk 57 .neq 56 130,zm 58 57,zg 59 (.mv (.t 6)) 58 true,zg 60 (.bin .neq (.t 59) (zi 3)) 58 true,zo 61 (.pick (.t 58) (.t 60) (.c (.bool false)))] (.cond (.t 61) (zq [zo 4 (.mv (.c (.bool false)))] .ret) .skip))))) (zq [zm 63 1,zx 64 7 [.t 63],zm 62 64,ze 65 0 62,ze 66 1 62,zo 9 (.new [zI 0,zI 0,zI 0,zI 0,.int .u64 (.ofNat 0),zI 0,zI 0,zI 0,zI 0,zI 0,zI 0,zI 0,zI 0,zI 0,zI 0,zI 0,zI 0,zI 0,zN,zN,zN]),zo 10 (.new [zI 0,zI 0]),zp (.store 21 (.t 9) (.t 65)),zp (.store 2 (.t 10) (.t 66))] (zq [zm 68 1,zo 69 (.bin .add (.c (.str [35,32,102,105,114,115,116,10,9,32,13,10])) (.t 68)),zx 70 7 [.t 69],zm 67 70,ze 71 0 67,ze 72 1 67,zo 11 (.new [zI 0,zI 0,zI 0,zI 0,.int .u64 (.ofNat 0),zI 0,zI 0,zI 0,zI 0,zI 0,zI 0,zI 0,zI 0,zI 0,zI 0,zI 0,zI 0,zI 0,zN,zN,zN]),zo 12 (.new [zI 0,zI 0]),zp (.store 21 (.t 11) (.t 71)),zp (.store 2 (.t 12) (.t 72))] (zr [zf 73 0 10,zl 74 73,zk 75 .neq 74 0] 75 (zq [zf 76 0 10,zl 77 76,zf 78 0 12,zl 79 78,zb 80 .eql 77 79,zm 81 80,zg 82 (.fieldA 1 (.t 10)) 81 true,zg 83 (.load false 1 (.t 82)) 81 true,zg 84 (.bin .eql (.t 83) (zi 0)) 81 true,zg 85 (.fieldA 1 (.t 12)) 81 true,zg 86 (.load false 1 (.t 85)) 81 true,zg 87 (.bin .eql (.t 86) (zi 0)) 81 true,zg 88 (.pf (.eqv false .bool) [.t 84,.t 87]) 81 true,zo 89 (.pick (.t 81) (.t 88) (.c (.bool false))),zm 90 89,zg 91 (.fieldA 1 (.t 10)) 90 true,zg 92 (.load false 1 (.t 91)) 90 true,zg 93 (.bin .eql (.t 92) (zi 0)) 90 true,zg 94 (.mv (.t 93)) 90 true,zg 95 (.fieldA 1 (.t 12)) 94 false,zg 96 (.load false 1 (.t 95)) 94 false,zg 97 (.fieldA 1 (.t 10)) 94 false,zg 98 (.load false 1 (.t 97)) 94 false,zg 99 (.bin .add (.t 98) (zi 2)) 94 false,zg 100 (.bin .eql (.t 96) (.t 99)) 94 false,zg 101 (.pick (.t 94) (.c (.bool true)) (.t 100)) 90 true,zo 102 (.pick (.t 90) (.t 101) (.c (.bool false))),zm 103 102,zg 104 (.call 5 []) 103 true,zo 105 (.pick (.t 103) (.t 104) (.c (.bool false))),zm 4 105] .ret) .skip (zq [zt 107 21 9,zx 108 6 [.t 107],zm 106 108,ze 109 0 106,ze 110 1 106,zm 13 109,zm 14 110] (zr [zt 111 21 9,zx 112 9 [.t 111],zk 113 .neq 112 0,zm 114 113,zg 115 (.fieldA 0 (.t 12)) 114 false,zg 116 (.load false 1 (.t 115)) 114 false,zg 117 (.bin .neq (.t 116) (zi 0)) 114 false,zo 118 (.pick (.t 114) (.c (.bool true)) (.t 117)),zm 119 118,zg 120 (.load true 21 (.t 9)) 119 false,zg 121 (.load true 21 (.t 11)) 119 false,zg 122 (.call 8 [.t 120,.t 121]) 119 false,zg 123 (.un .not (.t 122)) 119 false,zo 124 (.pick (.t 119) (.c (.bool true)) (.t 123)),zm 125 124,zg 126 (.mv (.t 14)) 125 false,zg 127 (.bin .neq (.t 126) (zi 0)) 125 false,zo 128 (.pick (.t 125) (.c (.bool true)) (.t 127))] 128 (zq [zm 129 14,zk 130 .eql 129 3,zm 131 130,zg 132 (.fieldA 0 (.t 12)) 131 true,zg 133 (.load false 1 (.t 132)) 131 true,zg 134 (.bin .eql (.t 133) (zi 0)) 131 true,zo 135 (.pick (.t 131) (.t 134) (.c (.bool false))),zm 136 135,zg 137 (.call 5 []) 136 true,zo 138 (.pick (.t 136) (.t 137) (.c (.bool false))),zm 4 138] .ret) .skip (zq [zm 140 13,zx 141 7 [.t 140],zm 139 141,ze 142 0 139,ze 143 1 139,zo 15 (.new [zI 0,zI 0,zI 0,zI 0,.int .u64 (.ofNat 0),zI 0,zI 0,zI 0,zI 0,zI 0,zI 0,zI 0,zI 0,zI 0,zI 0,zI 0,zI 0,zI 0,zN,zN,zN]),zo 16 (.new [zI 0,zI 0]),zp (.store 21 (.t 15) (.t 142)),zp (.store 2 (.t 16) (.t 143))] (zq [zf 144 0 16,zl 145 144,zk 146 .eql 145 0,zm 147 146,zg 148 (.load true 21 (.t 9)) 147 true,zg 149 (.load true 21 (.t 15)) 147 true,zg 150 (.call 8 [.t 148,.t 149]) 147 true,zo 151 (.pick (.t 147) (.t 150) (.c (.bool false))),zm 152 151,zg 153 (.call 5 []) 152 true,zo 154 (.pick (.t 152) (.t 153) (.c (.bool false))),zm 4 154] .ret))))))))),[.t 4]⟩
theorem za3:cN Tryz.prog 3=some c3:=by kernel_rfl
def c8:cg:=⟨157,zq [zo 2 (.box (.t 0)),zo 3 (.box (.t 1)),zo 4 (.mv (.c (.bool false)))] (zr [zf 8 0 2,zl 9 8,zf 10 0 3,zl 11 10,zb 12 .neq 9 11,zm 13 12,zg 14 (.fieldA 1 (.t 2)) 13 false,zg 15 (.load false 1 (.t 14)) 13 false,zg 16 (.fieldA 1 (.t 3)) 13 false,zg 17 (.load false 1 (.t 16)) 13 false,zg 18 (.bin .neq (.t 15) (.t 17)) 13 false,zo 19 (.pick (.t 13) (.c (.bool true)) (.t 18)),zm 20 19,zg 21 (.fieldA 2 (.t 2)) 20 false,zg 22 (.load false 1 (.t 21)) 20 false,zg 23 (.fieldA 2 (.t 3)) 20 false,zg 24 (.load false 1 (.t 23)) 20 false,zg 25 (.bin .neq (.t 22) (.t 24)) 20 false,zo 26 (.pick (.t 20) (.c (.bool true)) (.t 25)),zm 27 26,zg 28 (.fieldA 3 (.t 2)) 27 false,zg 29 (.load false 1 (.t 28)) 27 false,zg 30 (.fieldA 3 (.t 3)) 27 false,zg 31 (.load false 1 (.t 30)) 27 false,zg 32 (.bin .neq (.t 29) (.t 31)) 27 false,zo 33 (.pick (.t 27) (.c (.bool true)) (.t 32)),zm 34 33,zg 35 (.fieldA 4 (.t 2)) 34 false,zg 36 (.load false 1 (.t 35)) 34 false,zg 37 (.fieldA 4 (.t 3)) 34 false,zg 38 (.load false 1 (.t 37)) 34 false,zg 39 (.bin .neq (.t 36) (.t 38)) 34 false,zo 40 (.pick (.t 34) (.c (.bool true)) (.t 39)),zm 41 40,zg 42 (.fieldA 5 (.t 2)) 41 false,zg 43 (.load true 3 (.t 42)) 41 false,zg 44 (.fieldA 5 (.t 3)) 41 false,zg 45 (.load true 3 (.t 44)) 41 false,zg 46 (.pf (.eqS true [(0,.int),(1,.int),(2,.int)]) [.t 43,.t 45]) 41 false,zo 47 (.pick (.t 41) (.c (.bool true)) (.t 46)),zm 48 47,zg 49 (.fieldA 8 (.t 2)) 48 false,zg 50 (.load true 3 (.t 49)) 48 false,zg 51 (.fieldA 8 (.t 3)) 48 false,zg 52 (.load true 3 (.t 51)) 48 false,zg 53 (.pf (.eqS true [(0,.int),(1,.int),(2,.int)]) [.t 50,.t 52]) 48 false,zo 54 (.pick (.t 48) (.c (.bool true)) (.t 53)),zm 55 54,zg 56 (.fieldA 11 (.t 2)) 55 false,zg 57 (.load true 3 (.t 56)) 55 false,zg 58 (.fieldA 11 (.t 3)) 55 false,zg 59 (.load true 3 (.t 58)) 55 false,zg 60 (.pf (.eqS true [(0,.int),(1,.int),(2,.int)]) [.t 57,.t 59]) 55 false,zo 61 (.pick (.t 55) (.c (.bool true)) (.t 60)),zm 62 61,zg 63 (.fieldA 14 (.t 2)) 62 false,zg 64 (.load false 1 (.t 63)) 62 false,zg 65 (.fieldA 14 (.t 3)) 62 false,zg 66 (.load false 1 (.t 65)) 62 false,zg 67 (.bin .neq (.t 64) (.t 66)) 62 false,zo 68 (.pick (.t 62) (.c (.bool true)) (.t 67)),zm 69 68,zg 70 (.fieldA 15 (.t 2)) 69 false,zg 71 (.load true 3 (.t 70)) 69 false,zg 72 (.fieldA 15 (.t 3)) 69 false,zg 73 (.load true 3 (.t 72)) 69 false,zg 74 (.pf (.eqS true [(0,.int),(1,.int),(2,.int)]) [.t 71,.t 73]) 69 false,zo 75 (.pick (.t 69) (.c (.bool true)) (.t 74)),zm 76 75,zg 77 (.fieldA 18 (.t 2)) 76 false,zg 78 (.load false 1 (.t 77)) 76 false,zg 79 (.len false (.t 78)) 76 false,zg 80 (.fieldA 18 (.t 3)) 76 false,zg 81 (.load false 1 (.t 80)) 76 false,zg 82 (.len false (.t 81)) 76 false,zg 83 (.bin .neq (.t 79) (.t 82)) 76 false,zo 84 (.pick (.t 76) (.c (.bool true)) (.t 83)),zm 85 84,zg 86 (.fieldA 19 (.t 2)) 85 false,zg 87 (.load false 1 (.t 86)) 85 false,zg 88 (.len false (.t 87)) 85 false,zg 89 (.fieldA 19 (.t 3)) 85 false,zg 90 (.load false 1 (.t 89)) 85 false,zg 91 (.len false (.t 90)) 85 false,zg 92 (.bin .neq (.t 88) (.t 91)) 85 false,zo 93 (.pick (.t 85) (.c (.bool true)) (.t 92)),zm 94 93,zg 95 (.fieldA 20 (.t 2)) 94 false,zg 96 (.load false 1 (.t 95)) 94 false,zg 97 (.len false (.t 96)) 94 false,zg 98 (.fieldA 20 (.t 3)) 94 false,zg 99 (.load false 1 (.t 98)) 94 false,zg 100 (.len false (.t 99)) 94 false,zg 101 (.bin .neq (.t 97) (.t 100)) 94 false,zo 102 (.pick (.t 94) (.c (.bool true)) (.t 101))] 102 (zq [zo 4 (.mv (.c (.bool false)))] .ret) .skip (.seq (zq [zf 103 18 2,zl 104 103,zh 105 104,zo 106 (.mv (zi 0))] (.block 0 (.loop (zq [zb 107 .lss 106 105] (.seq (.cond (.t 107) .skip (.exit 0)) (.seq (.block 1 (zq [zm 108 106,zm 5 108] (zq [zf 109 18 2,zl 110 109,zm 111 5,zo 112 (.idxA 6 (.t 110) (.t 111)),zt 113 6 112,zf 114 18 3,zl 115 114,zm 116 5,zo 117 (.idxA 6 (.t 115) (.t 116)),zt 118 6 117,zo 119 (.pf (.eqS true [(0,.int),(1,.int),(2,.int),(3,.int),(4,.str),(5,.str)]) [.t 113,.t 118])] (.cond (.t 119) (zq [zo 4 (.mv (.c (.bool false)))] .ret) .skip)))) (.reg [zk 120 .add 106 1,zm 106 120]))))))) (.seq (zq [zf 121 19 2,zl 122 121,zh 123 122,zo 124 (.mv (zi 0))] (.block 2 (.loop (zq [zb 125 .lss 124 123] (.seq (.cond (.t 125) .skip (.exit 2)) (.seq (.block 3 (zq [zm 126 124,zm 6 126] (zq [zf 127 19 2,zl 128 127,zm 129 6,zo 130 (.idxA 5 (.t 128) (.t 129)),zt 131 5 130,zf 132 19 3,zl 133 132,zm 134 6,zo 135 (.idxA 5 (.t 133) (.t 134)),zt 136 5 135,zo 137 (.pf (.eqS true [(0,.int),(1,.int),(2,.int),(3,.int),(4,.int)]) [.t 131,.t 136])] (.cond (.t 137) (zq [zo 4 (.mv (.c (.bool false)))] .ret) .skip)))) (.reg [zk 138 .add 124 1,zm 124 138]))))))) (.seq (zq [zf 139 20 2,zl 140 139,zh 141 140,zo 142 (.mv (zi 0))] (.block 4 (.loop (zq [zb 143 .lss 142 141] (.seq (.cond (.t 143) .skip (.exit 4)) (.seq (.block 5 (zq [zm 144 142,zm 7 144] (zq [zf 145 20 2,zl 146 145,zm 147 7,zo 148 (.idxA 5 (.t 146) (.t 147)),zt 149 5 148,zf 150 20 3,zl 151 150,zm 152 7,zo 153 (.idxA 5 (.t 151) (.t 152)),zt 154 5 153,zo 155 (.pf (.eqS true [(0,.str),(1,.int),(2,.int),(3,.int),(4,.int)]) [.t 149,.t 154])] (.cond (.t 155) (zq [zo 4 (.mv (.c (.bool false)))] .ret) .skip)))) (.reg [zk 156 .add 142 1,zm 142 156]))))))) (zq [zo 4 (.mv (.c (.bool true)))] .ret))))),[.t 4]⟩
theorem za8:cN Tryz.prog 8=some c8:=by kernel_rfl
end
open Go.Abs Go.Abs.S
def fk(v:Vc):List af:=[.int .i64 v.x,.int .i64 v.y,.int .i64 v.z]
def iD(m:Mt):List af:=[.int .u8 (m.k:Int),.int .i64 m.c.x,.int .i64 m.c.y,.int .i64 m.c.z,.str m.sh,.str m.tx]
def oz(b:Rd):List af:=[.int .i64 b.c.x,.int .i64 b.c.y,.int .i64 b.c.z,.int .i64 b.r,.int .i64 b.m]
def rx(u:Us):List af:=[.str u.n,.int .i64 u.p.x,.int .i64 u.p.y,.int .i64 u.p.z,.int .i64 u.m]
theorem an(n i:Nat){H:ae}{b:Nat}{l:List af}(h:Row H b l)(hn:l.length=n){x:af}(hi:l[i]?=some x):bi false 1 H (aj b n i)=some x:=iN h hn hi
theorem aH(n i k:Nat){H:ae}{b:Nat}{l:List af}(h:Row H b l)(hn:l.length=n){xs:List af}(hik:i+k<=n)(e:(l.drop i).take k=xs):bi true k H (aj b n i)=some (.agg xs):=by subst e; exact nz h hn hik
theorem _root_.Go.Abs.S.Row.up{n:Nat}{H H':ae}{b:Nat}{l:List af}(h:Row H b l)(e:bg n H H')(hb:b<n):Row H' b l:=h.same (e.old b hb)
theorem dY{H H':ae}(hn:H'.next=H.next+1)(k:∀c,c≠H.next->H'.get c=H.get c):bg H.next H H':=⟨om,fun b hb=>k b om⟩
theorem ql{H:ae}{b1 b2:Nat}{x lo hi:Int}(r1:Row H b1 [.int .i64 lo])(r2:Row H b2 [.int .i64 hi]) :
  aq Tryz.prog aG 66 [.int .i64 x,aj b1 1 0,aj b2 1 0] H fun v H'=>v=.bool (lT x lo hi)/\H=H':=by
 refine ai rfl N2 rfl ?_
 have l1:=an 1 0 r1 rfl rfl
 have l2:=an 1 0 r2 rfl rfl
 by_cases c1:lo<=x
 ·by_cases c2:x<=hi
  ·simp only[NC,sA,sB,seval,l1,l2,c1,c2]; exact⟨by simp[lT,c1,c2],tt⟩
  ·simp only[NC,sA,sB,seval,l1,l2,c1,c2]; exact⟨by simp[lT,c2],tt⟩
 ·simp only[NC,sA,sB,seval,l1,l2,c1]; exact⟨by simp[lT,c1],tt⟩
theorem hY{H:ae}{v:Vc}{lo hi:Int}:aq Tryz.prog aG 26 [.agg (fk v),.int .i64 lo,.int .i64 hi] H fun r H'=>r=.bool (vE v lo hi)/\bg H.next H H':=by
 refine ai rfl OC rfl ?_
 obtain⟨H1,m1,r1,n1,k1⟩:=aP H (fk v) (n:=3) rfl
 obtain⟨H2,m2,r2,n2,k2⟩:=aP H1 [.int .i64 lo] (n:=1) rfl
 obtain⟨H3,m3,r3,n3,k3⟩:=aP H2 [.int .i64 hi] (n:=1) rfl
 have q1:Row H3 H.next (fk v):=(r1.same (k2 _ om)).same (k3 _ om)
 have q2:Row H3 H1.next [.int .i64 lo]:=r2.same (k3 _ om)
 have e:bg H.next H H3:=⟨om,fun b hb=>by rw[k3 b om,k2 b om,k1 b om]⟩
 have l0:=an 3 0 q1 rfl rfl
 have l1:=an 3 1 q1 rfl rfl
 have l2:=an 3 2 q1 rfl rfl
 have ca:(af.agg (fk v)).cells=fk v:=rfl
 have c1:(af.int .i64 lo).cells=[.int .i64 lo]:=rfl
 have c2:(af.int .i64 hi).cells=[.int .i64 hi]:=rfl
 simp only[c26,sA,sB,seval,ca,c1,c2,m1,m2,m3,aF,l0]
 refine (ql q2 r3).mono ?_
 rintro _ _ ⟨rfl,rfl⟩
 unfold vE
 cases h0:lT v.x lo hi with
 | false=>simp only[sA,sB,seval]; exact⟨rfl,e⟩
 | true=>
  simp only[sA,sB,seval,aF,l1]
  refine (ql q2 r3).mono ?_
  rintro _ _ ⟨rfl,rfl⟩
  cases h1:lT v.y lo hi with
  | false=>simp only[sA,sB,seval]; exact⟨rfl,e⟩
  | true=>
   simp only[sA,sB,seval,aF,l2]
   refine (ql q2 r3).mono ?_
   rintro _ _ ⟨rfl,rfl⟩
   simp only[sA,sB,seval]
   exact⟨rfl,e⟩
theorem eW{H:ae}{v:Vc}:aq Tryz.prog aG 25 [.agg (fk v)] H fun r H'=>r=.bool (gZ v)/\bg H.next H H':=by
 refine ai rfl OD rfl ?_
 obtain⟨H1,m1,r1,n1,k1⟩:=aP H (fk v) (n:=3) rfl
 have ca:(af.agg (fk v)).cells=fk v:=rfl
 have l0:=aH 3 0 3 r1 rfl (xs:=fk v) om rfl
 simp only[c25,sA,sB,seval,ca,m1,l0]
 refine (hY (v:=v)).mono ?_
 rintro _ H2 ⟨rfl,e⟩
 simp only[sA,sB,seval]
 exact⟨rfl,(dY n1 k1).trans (e.less om)⟩
theorem cK{c:UInt8}:jV c=true↔(((97<=c.toNat/\c.toNat<=122)∨(65<=c.toNat/\c.toNat<=90))∨((48<=c.toNat/\c.toNat<=57)∨(c.toNat=95∨(c.toNat=45∨c.toNat=46)))):=by
 simp only[jV,Bool.or_eq_true,Pu,PE]
theorem kF{H:ae}{s:Bs}:aq Tryz.prog aG 29 [.str s] H fun r H'=>r=.bool (eS s)/\H=H':=by
 refine ai rfl Oz rfl ?_
 by_cases c1:s.length<1
 ·have c1':(s.length:Int)<1:=om
  simp only[NF,sA,sB,seval,c1']
  exact⟨by simp only[eS,decide_eq_false (show ¬1<=s.length by omega),Bool.false_and],tt⟩
 have c1':¬(s.length:Int)<1:=om
 by_cases c2:40<s.length
 ·have c2':(40:Int)<(s.length:Int):=om
  simp only[NF,sA,sB,seval,c1',c2']
  exact⟨by simp only[eS,decide_eq_false (show ¬s.length<=40 by omega),Bool.false_and,Bool.and_false],tt⟩
 have c2':¬(40:Int)<(s.length:Int):=om
 have e0:eS s=s.all jV:=by simp only[eS,decide_eq_true (show 1<=s.length by omega),decide_eq_true (show s.length<=40 by omega),Bool.true_and]
 simp only[NF,sA,sB,seval,c1',c2']
 refine bM (fun m (T:bN) H'=>∃i:Nat,H=H'/\i<=s.length/\m=s.length-i/\(s.take i).all jV=true/\T 0=.str s/\T 15=.int .i64 (s.length:Int)/\T 16=.int .i64 (i:Int)) s.length
  ⟨0,rfl,om,om,rfl,by simp only[sA,sB,seval],by simp only[sA,sB,seval],by simp only[sA,sB,seval]⟩ ?_
 rintro m T _ ⟨i,rfl,hi,rfl,ha,g0,g15,g16⟩
 by_cases hlt:i<s.length
 ·have hlt':(i:Int)<(s.length:Int):=om
  obtain⟨c,hc⟩:=aM hlt
  have w1:=cE i om
  have hat:(s.take (i+1)).all jV=jV c:=by
   rw[List.take_add_one,hc,List.all_append,ha]; simp
  have hc255:=c.toNat_lt
  have hno:jV c=false->s.all jV=false:=by
   intro h
   have:=List.take_append_drop (i+1) s
   rw[<- this,List.all_append,hat,h,Bool.false_and]
  have hR:(c.toNat<45)∨(c.toNat=45)∨(c.toNat=46)∨(c.toNat=47)∨(48<=c.toNat/\c.toNat<=57)∨(58<=c.toNat/\c.toNat<=64)∨(65<=c.toNat/\c.toNat<=90)∨(91<=c.toNat/\c.toNat<=94)∨(c.toNat=95)∨(c.toNat=96)∨(97<=c.toNat/\c.toNat<=122)∨(123<=c.toNat):=om
  rcases hR with h | h | h | h | h | h | h | h | h | h | h | h
  ·have f0:¬(97:Int)<=(c.toNat:Int):=om
   have f1:(c.toNat:Int)<=122:=om
   have f2:¬(65:Int)<=(c.toNat:Int):=om
   have f3:(c.toNat:Int)<=90:=om
   have f4:(c.toNat:Int)<48:=om
   have f5:¬(57:Int)<(c.toNat:Int):=om
   have f6:¬(c.toNat:Int)=95:=om
   have f7:¬(c.toNat:Int)=45:=om
   have f8:¬(c.toNat:Int)=46:=om
   simp only[sA,sB,seval,g0,g15,g16,hlt',bt hc,w1,f0,f1,f2,f3,f4,f5,f6,f7,f8]
   exact⟨by rw[e0,hno (Bool.eq_false_iff.2 fun h'=>by have:=cK.1 h'; omega)],tt⟩
  ·have f0:¬(97:Int)<=(c.toNat:Int):=om
   have f1:(c.toNat:Int)<=122:=om
   have f2:¬(65:Int)<=(c.toNat:Int):=om
   have f3:(c.toNat:Int)<=90:=om
   have f4:(c.toNat:Int)<48:=om
   have f5:¬(57:Int)<(c.toNat:Int):=om
   have f6:¬(c.toNat:Int)=95:=om
   have f7:(c.toNat:Int)=45:=om
   have f8:¬(c.toNat:Int)=46:=om
   simp only[sA,sB,seval,g0,g15,g16,hlt',bt hc,w1,f0,f1,f2,f3,f4,f5,f6,f7,f8]
   exact⟨_,om,i+1,tt,om,rfl,by rw[hat]; exact cK.2 om,tt,tt,tt⟩
  ·have f0:¬(97:Int)<=(c.toNat:Int):=om
   have f1:(c.toNat:Int)<=122:=om
   have f2:¬(65:Int)<=(c.toNat:Int):=om
   have f3:(c.toNat:Int)<=90:=om
   have f4:(c.toNat:Int)<48:=om
   have f5:¬(57:Int)<(c.toNat:Int):=om
   have f6:¬(c.toNat:Int)=95:=om
   have f7:¬(c.toNat:Int)=45:=om
   have f8:(c.toNat:Int)=46:=om
   simp only[sA,sB,seval,g0,g15,g16,hlt',bt hc,w1,f0,f1,f2,f3,f4,f5,f6,f7,f8]
   exact⟨_,om,i+1,tt,om,rfl,by rw[hat]; exact cK.2 om,tt,tt,tt⟩
  ·have f0:¬(97:Int)<=(c.toNat:Int):=om
   have f1:(c.toNat:Int)<=122:=om
   have f2:¬(65:Int)<=(c.toNat:Int):=om
   have f3:(c.toNat:Int)<=90:=om
   have f4:(c.toNat:Int)<48:=om
   have f5:¬(57:Int)<(c.toNat:Int):=om
   have f6:¬(c.toNat:Int)=95:=om
   have f7:¬(c.toNat:Int)=45:=om
   have f8:¬(c.toNat:Int)=46:=om
   simp only[sA,sB,seval,g0,g15,g16,hlt',bt hc,w1,f0,f1,f2,f3,f4,f5,f6,f7,f8]
   exact⟨by rw[e0,hno (Bool.eq_false_iff.2 fun h'=>by have:=cK.1 h'; omega)],tt⟩
  ·have f0:¬(97:Int)<=(c.toNat:Int):=om
   have f1:(c.toNat:Int)<=122:=om
   have f2:¬(65:Int)<=(c.toNat:Int):=om
   have f3:(c.toNat:Int)<=90:=om
   have f4:¬(c.toNat:Int)<48:=om
   have f5:¬(57:Int)<(c.toNat:Int):=om
   have f6:¬(c.toNat:Int)=95:=om
   have f7:¬(c.toNat:Int)=45:=om
   have f8:¬(c.toNat:Int)=46:=om
   simp only[sA,sB,seval,g0,g15,g16,hlt',bt hc,w1,f0,f1,f2,f3,f4,f5,f6,f7,f8]
   exact⟨_,om,i+1,tt,om,rfl,by rw[hat]; exact cK.2 om,tt,tt,tt⟩
  ·have f0:¬(97:Int)<=(c.toNat:Int):=om
   have f1:(c.toNat:Int)<=122:=om
   have f2:¬(65:Int)<=(c.toNat:Int):=om
   have f3:(c.toNat:Int)<=90:=om
   have f4:¬(c.toNat:Int)<48:=om
   have f5:(57:Int)<(c.toNat:Int):=om
   have f6:¬(c.toNat:Int)=95:=om
   have f7:¬(c.toNat:Int)=45:=om
   have f8:¬(c.toNat:Int)=46:=om
   simp only[sA,sB,seval,g0,g15,g16,hlt',bt hc,w1,f0,f1,f2,f3,f4,f5,f6,f7,f8]
   exact⟨by rw[e0,hno (Bool.eq_false_iff.2 fun h'=>by have:=cK.1 h'; omega)],tt⟩
  ·have f0:¬(97:Int)<=(c.toNat:Int):=om
   have f1:(c.toNat:Int)<=122:=om
   have f2:(65:Int)<=(c.toNat:Int):=om
   have f3:(c.toNat:Int)<=90:=om
   have f4:¬(c.toNat:Int)<48:=om
   have f5:(57:Int)<(c.toNat:Int):=om
   have f6:¬(c.toNat:Int)=95:=om
   have f7:¬(c.toNat:Int)=45:=om
   have f8:¬(c.toNat:Int)=46:=om
   simp only[sA,sB,seval,g0,g15,g16,hlt',bt hc,w1,f0,f1,f2,f3,f4,f5,f6,f7,f8]
   exact⟨_,om,i+1,tt,om,rfl,by rw[hat]; exact cK.2 om,tt,tt,tt⟩
  ·have f0:¬(97:Int)<=(c.toNat:Int):=om
   have f1:(c.toNat:Int)<=122:=om
   have f2:(65:Int)<=(c.toNat:Int):=om
   have f3:¬(c.toNat:Int)<=90:=om
   have f4:¬(c.toNat:Int)<48:=om
   have f5:(57:Int)<(c.toNat:Int):=om
   have f6:¬(c.toNat:Int)=95:=om
   have f7:¬(c.toNat:Int)=45:=om
   have f8:¬(c.toNat:Int)=46:=om
   simp only[sA,sB,seval,g0,g15,g16,hlt',bt hc,w1,f0,f1,f2,f3,f4,f5,f6,f7,f8]
   exact⟨by rw[e0,hno (Bool.eq_false_iff.2 fun h'=>by have:=cK.1 h'; omega)],tt⟩
  ·have f0:¬(97:Int)<=(c.toNat:Int):=om
   have f1:(c.toNat:Int)<=122:=om
   have f2:(65:Int)<=(c.toNat:Int):=om
   have f3:¬(c.toNat:Int)<=90:=om
   have f4:¬(c.toNat:Int)<48:=om
   have f5:(57:Int)<(c.toNat:Int):=om
   have f6:(c.toNat:Int)=95:=om
   have f7:¬(c.toNat:Int)=45:=om
   have f8:¬(c.toNat:Int)=46:=om
   simp only[sA,sB,seval,g0,g15,g16,hlt',bt hc,w1,f0,f1,f2,f3,f4,f5,f6,f7,f8]
   exact⟨_,om,i+1,tt,om,rfl,by rw[hat]; exact cK.2 om,tt,tt,tt⟩
  ·have f0:¬(97:Int)<=(c.toNat:Int):=om
   have f1:(c.toNat:Int)<=122:=om
   have f2:(65:Int)<=(c.toNat:Int):=om
   have f3:¬(c.toNat:Int)<=90:=om
   have f4:¬(c.toNat:Int)<48:=om
   have f5:(57:Int)<(c.toNat:Int):=om
   have f6:¬(c.toNat:Int)=95:=om
   have f7:¬(c.toNat:Int)=45:=om
   have f8:¬(c.toNat:Int)=46:=om
   simp only[sA,sB,seval,g0,g15,g16,hlt',bt hc,w1,f0,f1,f2,f3,f4,f5,f6,f7,f8]
   exact⟨by rw[e0,hno (Bool.eq_false_iff.2 fun h'=>by have:=cK.1 h'; omega)],tt⟩
  ·have f0:(97:Int)<=(c.toNat:Int):=om
   have f1:(c.toNat:Int)<=122:=om
   have f2:(65:Int)<=(c.toNat:Int):=om
   have f3:¬(c.toNat:Int)<=90:=om
   have f4:¬(c.toNat:Int)<48:=om
   have f5:(57:Int)<(c.toNat:Int):=om
   have f6:¬(c.toNat:Int)=95:=om
   have f7:¬(c.toNat:Int)=45:=om
   have f8:¬(c.toNat:Int)=46:=om
   simp only[sA,sB,seval,g0,g15,g16,hlt',bt hc,w1,f0,f1,f2,f3,f4,f5,f6,f7,f8]
   exact⟨_,om,i+1,tt,om,rfl,by rw[hat]; exact cK.2 om,tt,tt,tt⟩
  ·have f0:(97:Int)<=(c.toNat:Int):=om
   have f1:¬(c.toNat:Int)<=122:=om
   have f2:(65:Int)<=(c.toNat:Int):=om
   have f3:¬(c.toNat:Int)<=90:=om
   have f4:¬(c.toNat:Int)<48:=om
   have f5:(57:Int)<(c.toNat:Int):=om
   have f6:¬(c.toNat:Int)=95:=om
   have f7:¬(c.toNat:Int)=45:=om
   have f8:¬(c.toNat:Int)=46:=om
   simp only[sA,sB,seval,g0,g15,g16,hlt',bt hc,w1,f0,f1,f2,f3,f4,f5,f6,f7,f8]
   exact⟨by rw[e0,hno (Bool.eq_false_iff.2 fun h'=>by have:=cK.1 h'; omega)],tt⟩
 ·have hlt':¬(i:Int)<(s.length:Int):=om
  simp only[sA,sB,seval,g15,g16,hlt']
  rw[List.take_of_length_le om]at ha
  exact⟨by rw[e0,ha],tt⟩
open Go.Abs Go.Abs.S
theorem Lk(v w:Vc):iu (.eqS false [(0,.int),(1,.int),(2,.int)]) [.agg (fk v),.agg (fk w)]=some (.bool (decide (v.x=w.x)&&(decide (v.y=w.y)&&decide (v.z=w.z)))):=by
 have e:∀a b:Int,(a==b)=decide (a=b):=fun a b=>by by_cases h:a=b <;> simp[h]
 by_cases h1:v.x=w.x <;> by_cases h2:v.y=w.y <;> by_cases h3:v.z=w.z <;> simp[iu,fk,mZ,cV,HB,xf,xd,fB,e,h1,h2,h3]
theorem GL:cj [.int .i64 0,.int .i64 0,.int .i64 0] []=some (.agg (fk ⟨0,0,0⟩)):=rfl
theorem Bp{m:Mt}(h:m.k=1∨m.k=2):gF m=(decide (m.sh=[])&&(decide (m.tx=[])&&vE m.c 0 4294967296)):=by rw[gF,if_pos h]
theorem FM{m:Mt}(h:m.k=3):gF m=(decide (m.sh=[])&&(decide (m.tx=[])&&vE m.c 0 274877906944)):=by rw[gF,if_neg om,if_pos h]
theorem FL{m:Mt}(h:m.k=4):gF m=(Mh m.c&&(eS m.sh&&(decide (m.tx=[])||eS m.tx))):=by rw[gF,if_neg om,if_neg om,if_pos h]
theorem Bo{m:Mt}(h:¬(m.k=1∨m.k=2))(h3:m.k≠3)(h4:m.k≠4):gF m=false:=by rw[gF,if_neg h,if_neg h3,if_neg h4]
theorem wH{H:ae}{m:Mt}:aq Tryz.prog aG 27 [.agg (iD m)] H fun r H'=>r=.bool (gF m)/\bg H.next H H':=by
 refine ai rfl OB rfl ?_
 obtain⟨H1,m1,r1,n1,k1⟩:=aP H (iD m) (n:=6) rfl
 have e:=dY n1 k1
 have ca:(af.agg (iD m)).cells=iD m:=rfl
 have l0:=an 6 0 r1 rfl rfl
 have l4:=an 6 4 r1 rfl rfl
 have l5:=an 6 5 r1 rfl rfl
 have lv:=aH 6 1 3 r1 rfl (xs:=fk m.c) om rfl
 have col:∀{lo hi:Int} {K:af->ae->Prop},(∀H',bg H.next H H'->K (.bool (vE m.c lo hi)) H')->aq Tryz.prog aG 26 [.agg (fk m.c),.int .i64 lo,.int .i64 hi] H1 K:=fun h=>(hY (v:=m.c)).mono fun r H' ⟨a,b⟩=>by subst a; exact h H' (e.trans (b.less om))
 by_cases k12:m.k=1∨m.k=2
 ·rw[Bp k12]
  have hk:(((m.k:Nat):Int)=1/\¬((m.k:Nat):Int)=2)∨(¬((m.k:Nat):Int)=1/\((m.k:Nat):Int)=2):=om
  rcases hk with⟨a1,a2⟩ | ⟨a1,a2⟩
  ·by_cases c1:m.sh=[]
   ·by_cases c2:m.tx=[]
    ·simp only[DU,sA,sB,seval,ca,m1,aF,l0,a1,l4,l5,lv,c1,c2]
     refine col fun H' e'=>?_
     simp only[sA,sB,seval]; exact⟨tt,e'⟩
    ·simp only[DU,sA,sB,seval,ca,m1,aF,l0,a1,l4,l5,lv,c1,c2]
     exact⟨tt,e⟩
   ·simp only[DU,sA,sB,seval,ca,m1,aF,l0,a1,l4,l5,lv,c1]
    exact⟨tt,e⟩
  ·by_cases c1:m.sh=[]
   ·by_cases c2:m.tx=[]
    ·simp only[DU,sA,sB,seval,ca,m1,aF,l0,a1,a2,l4,l5,lv,c1,c2]
     refine col fun H' e'=>?_
     simp only[sA,sB,seval]; exact⟨tt,e'⟩
    ·simp only[DU,sA,sB,seval,ca,m1,aF,l0,a1,a2,l4,l5,lv,c1,c2]
     exact⟨tt,e⟩
   ·simp only[DU,sA,sB,seval,ca,m1,aF,l0,a1,a2,l4,l5,lv,c1]
    exact⟨tt,e⟩
 have a1:¬((m.k:Nat):Int)=1:=om
 have a2:¬((m.k:Nat):Int)=2:=om
 by_cases k3:m.k=3
 ·rw[FM k3]
  have a3:((m.k:Nat):Int)=3:=om
  by_cases c1:m.sh=[]
  ·by_cases c2:m.tx=[]
   ·simp only[DU,sA,sB,seval,ca,m1,aF,l0,a1,a2,a3,l4,l5,lv,c1,c2]
    refine col fun H' e'=>?_
    simp only[sA,sB,seval]; exact⟨tt,e'⟩
   ·simp only[DU,sA,sB,seval,ca,m1,aF,l0,a1,a2,a3,l4,l5,lv,c1,c2]
    exact⟨tt,e⟩
  ·simp only[DU,sA,sB,seval,ca,m1,aF,l0,a1,a2,a3,l4,l5,lv,c1]
   exact⟨tt,e⟩
 have a3:¬((m.k:Nat):Int)=3:=om
 by_cases k4:m.k=4
 ·rw[FL k4]
  have a4:((m.k:Nat):Int)=4:=om
  have ev:iu (.eqS false [(0,.int),(1,.int),(2,.int)]) [.agg (fk m.c),.agg (fk ⟨0,0,0⟩)]=some (.bool (Mh m.c)):=Lk _ _
  simp only[DU,sA,sB,seval,ca,m1,aF,l0,a1,a2,a3,a4,lv,GL,ev]
  cases hv:Mh m.c with
  | false=>simp only[sA,sB,seval]; exact⟨tt,e⟩
  | true=>
   simp only[sA,sB,seval,aF,l4]
   refine kF.mono ?_
   rintro _ _ ⟨rfl,rfl⟩
   cases hn:eS m.sh with
   | false=>simp only[sA,sB,seval]; exact⟨tt,e⟩
   | true=>
    by_cases c2:m.tx=[]
    ·simp only[sA,sB,seval,aF,l5,c2]; exact⟨tt,e⟩
    ·simp only[sA,sB,seval,aF,l5,c2]
     refine kF.mono ?_
     rintro _ _ ⟨rfl,rfl⟩
     simp only[sA,sB,seval]; exact⟨by simp[c2],e⟩
 ·rw[Bo k12 k3 k4]
  have a4:¬((m.k:Nat):Int)=4:=om
  simp only[DU,sA,sB,seval,ca,m1,aF,l0,a1,a2,a3,a4]
  exact⟨tt,e⟩
theorem wi{H:ae}{b:Rd}:aq Tryz.prog aG 28 [.agg (oz b)] H fun r H'=>r=.bool (lj b)/\bg H.next H H':=by
 refine ai rfl OA rfl ?_
 obtain⟨H1,m1,r1,n1,k1⟩:=aP H (oz b) (n:=5) rfl
 have e:=dY n1 k1
 have ca:(af.agg (oz b)).cells=oz b:=rfl
 have lv:=aH 5 0 3 r1 rfl (xs:=fk b.c) om rfl
 simp only[c28,sA,sB,seval,ca,m1,aF,lv]
 refine (eW (v:=b.c)).mono ?_
 rintro _ H2 ⟨rfl,e2⟩
 have l3:=an 5 3 (r1.up e2 om) rfl rfl
 have e':=e.trans (e2.less om)
 unfold lj
 cases hf:gZ b.c with
 | false=>simp only[sA,sB,seval]; exact⟨tt,e'⟩
 | true=>
  by_cases c1:0<b.r
  ·by_cases c2:b.r<=42949672960000
   ·simp only[sA,sB,seval,aF,l3,c1,c2]; exact⟨tt,e'⟩
   ·simp only[sA,sB,seval,aF,l3,c1,c2]; exact⟨tt,e'⟩
  ·simp only[sA,sB,seval,aF,l3,c1]; exact⟨tt,e'⟩
def dH(s:Sc)(vm vb vu:af):List af:=[.int .i64 s.w,.int .i64 s.h,.int .i64 s.sm,.int .i64 s.bo,.int .u64 (s.seed:Int),.int .i64 s.eye.x,.int .i64 s.eye.y,.int .i64 s.eye.z,.int .i64 s.at_.x,.int .i64 s.at_.y,.int .i64 s.at_.z,.int .i64 s.up.x,.int .i64 s.up.y,.int .i64 s.up.z,.int .i64 s.wide,.int .i64 s.sky.x,.int .i64 s.sky.y,.int .i64 s.sky.z,vm,vb,vu]
structure fV(P:Nat->Prop)(H:ae)(s:Sc)(vm vb vu:af):Prop where
 m:gW P H 6 vm s.ms.length (s.ms.flatMap iD)
 b:gW P H 5 vb s.bs.length (s.bs.flatMap oz)
 u:gW P H 5 vu s.us.length (s.us.flatMap rx)
theorem fV.mono{P Q:Nat->Prop}{H H':ae}{s:Sc}{vm vb vu:af}(h:fV P H s vm vb vu)(q:∀b,P b->Q b/\H'.get b=H.get b):fV Q H' s vm vb vu:=⟨h.m.mono q,h.b.mono q,h.u.mono q⟩
theorem fV.up{n:Nat}{H H':ae}{s:Sc}{vm vb vu:af}(h:fV (·<n) H s vm vb vu)(e:bg n H H'):fV (·<n) H' s vm vb vu:=h.mono fun b hb=>⟨hb,e.old b hb⟩
theorem wU{H:ae}{b:Nat}{s:Sc}{vm vb vu:af}{k:Nat}(r:Row H b (dH s vm vb vu))(hm:gd false vm=some (.int .i64 (k:Int))){x:Int} :
  aq Tryz.prog aG 65 [.int .i64 x,aj b 21 0] H fun v H'=>v=.bool (lG k x)/\H=H':=by
 refine ai rfl N3 rfl ?_
 have l1:=an 21 18 r rfl rfl
 by_cases c1:0<=x
 ·by_cases c2:x<k
  ·simp only[ND,sA,sB,seval,aF,l1,hm,c1,c2]; exact⟨by simp[lG,c1,c2],tt⟩
  ·simp only[ND,sA,sB,seval,aF,l1,hm,c1,c2]; exact⟨by simp[lG,c2],tt⟩
 ·simp only[ND,sA,sB,seval,c1]; exact⟨by simp[lG,c1],tt⟩
theorem ti{H:ae}{s:Sc}{vm vb vu:af}(I:fV (·<H.next) H s vm vb vu)(hb:s.bs.length<=4611686018427387904)(hu:s.us.length<=4611686018427387904) :
  aq Tryz.prog aG 23 [.agg (dH s vm vb vu)] H fun r H'=>r=.bool (rP s)/\bg H.next H H':=by
 refine ai rfl OG rfl ?_
 obtain⟨H1,m1,r1,n1,k1⟩:=aP H (dH s vm vb vu) (n:=21) rfl
 have e1:=dY n1 k1
 have ca:(af.agg (dH s vm vb vu)).cells=dH s vm vb vu:=rfl
 have l19:=an 21 19 r1 rfl rfl
 have lb:=I.b.len
 have lm:=I.m.len
 have lu:=I.u.len
 have rb:∀x:Rd,(oz x).length=5:=fun _=>rfl
 have ru:∀x:Us,(rx x).length=5:=fun _=>rfl
 simp only[c23,sA,sB,seval,ca,m1,aF,l19,lb]
 refine fH (fun (T:bN) H'=>bg (H.next+1) H1 H'/\s.bs.all (fun b=>lG s.ms.length b.m)=true/\T 1=aj H.next 21 0/\T 3=.func (.func 65) [] [aj H.next 21 0]) (bP _ _) ?_ ?_
 ·refine bM (fun m (T:bN) H'=>∃i:Nat,bg (H.next+1) H1 H'/\i<=s.bs.length/\m=s.bs.length-i/\(s.bs.take i).all (fun b=>lG s.ms.length b.m)=true/\T 1=aj H.next 21 0/\T 3=.func (.func 65) [] [aj H.next 21 0]/\T 10=vb/\T 11=.int .i64 (s.bs.length:Int)/\T 12=.int .i64 (i:Int)) s.bs.length
   ⟨0,bg.refl _ _,om,om,rfl,by simp only[sA,sB,seval],by simp only[sA,sB,seval],by simp only[sA,sB,seval],by simp only[sA,sB,seval],by simp only[sA,sB,seval]⟩ ?_
  rintro m T H2 ⟨i,e2,hi,rfl,ha,g1,g3,g10,g11,g12⟩
  by_cases hlt:i<s.bs.length
  ·have hlt':(i:Int)<(s.bs.length:Int):=om
   obtain⟨x,hx⟩:=aM hlt
   have w1:=cE i om
   have I2:=I.up (e1.trans (e2.less om))
   have ix:=I2.b.idx hlt
   have lx:=I2.b.loadE rb hx
   obtain⟨H3,m3,r3,n3,k3⟩:=aP H2 [.int .i64 0,.int .i64 0,.int .i64 0,.int .i64 0,.int .i64 0] (n:=5) rfl
   obtain⟨H4,m4,r4,n4,k4⟩:=bC (n:=5) r3 rfl (xs:=oz x) rfl rfl
   have hn2:=e2.next
   have e4:bg (H.next+1) H1 H4:=⟨om,fun b hb=>by rw[k4 b om,k3 b om,e2.old b hb]⟩
   have rr:Row H4 H.next (dH s vm vb vu):=r1.up e4 om
   have l4:=an 5 4 r4 rfl rfl
   simp only[sA,sB,seval,g10,g11,g12,g3,hlt',ix,lx,m3,m4,aF,l4]
   refine (wU rr lm).mono ?_
   rintro _ _ ⟨rfl,rfl⟩
   cases hh:lG s.ms.length x.m with
   | false=>
    simp only[sA,sB,seval]
    exact⟨by simp only[rP,lO (p:=fun b:Rd=>lG s.ms.length b.m) hx hh,Bool.false_and],e1.trans (e4.less om)⟩
   | true=>
    simp only[sA,sB,seval,g12,w1]
    exact⟨_,om,i+1,e4,om,rfl,by rw[jd hx ha]; exact hh,g1,g3,g10,g11,tt⟩
  ·have hlt':¬(i:Int)<(s.bs.length:Int):=om
   simp only[sA,sB,seval,g11,g12,hlt']
   rw[List.take_of_length_le om]at ha
   exact⟨e2,ha,g1,g3⟩
 rintro T H2 ⟨e2,ha,g1,g3⟩
 have hn2:=e2.next
 have rr:=r1.up e2 om
 have l20:=an 21 20 rr rfl rfl
 simp only[sA,sB,seval,g1,aF,l20,lu]
 refine bM (fun m (T:bN) H'=>∃i:Nat,bg (H.next+1) H1 H'/\i<=s.us.length/\m=s.us.length-i/\(s.us.take i).all (fun b=>lG s.ms.length b.m)=true/\T 3=.func (.func 65) [] [aj H.next 21 0]/\T 23=vu/\T 24=.int .i64 (s.us.length:Int)/\T 25=.int .i64 (i:Int)) s.us.length
  ⟨0,e2,om,om,rfl,by simp only[sA,sB,seval,g3],by simp only[sA,sB,seval],by simp only[sA,sB,seval],by simp only[sA,sB,seval]⟩ ?_
 rintro m T H2 ⟨i,e2,hi,rfl,hau,g3,g10,g11,g12⟩
 by_cases hlt:i<s.us.length
 ·have hlt':(i:Int)<(s.us.length:Int):=om
  obtain⟨x,hx⟩:=aM hlt
  have w1:=cE i om
  have I2:=I.up (e1.trans (e2.less om))
  have ix:=I2.u.idx hlt
  have lx:=I2.u.loadE ru hx
  obtain⟨H3,m3,r3,n3,k3⟩:=aP H2 [.str [],.int .i64 0,.int .i64 0,.int .i64 0,.int .i64 0] (n:=5) rfl
  obtain⟨H4,m4,r4,n4,k4⟩:=bC (n:=5) r3 rfl (xs:=rx x) rfl rfl
  have hn2:=e2.next
  have e4:bg (H.next+1) H1 H4:=⟨om,fun b hb=>by rw[k4 b om,k3 b om,e2.old b hb]⟩
  have rr:Row H4 H.next (dH s vm vb vu):=r1.up e4 om
  have l4:=an 5 4 r4 rfl rfl
  simp only[sA,sB,seval,g10,g11,g12,g3,hlt',ix,lx,m3,m4,aF,l4]
  refine (wU rr lm).mono ?_
  rintro _ _ ⟨rfl,rfl⟩
  cases hh:lG s.ms.length x.m with
  | false=>
   simp only[sA,sB,seval]
   exact⟨by simp only[rP,lO (p:=fun b:Us=>lG s.ms.length b.m) hx hh,Bool.and_false],e1.trans (e4.less om)⟩
  | true=>
   simp only[sA,sB,seval,g12,w1]
   exact⟨_,om,i+1,e4,om,rfl,by rw[jd hx hau]; exact hh,g3,g10,g11,tt⟩
 ·have hlt':¬(i:Int)<(s.us.length:Int):=om
  simp only[sA,sB,seval,g11,g12,hlt']
  rw[List.take_of_length_le om]at hau
  exact⟨by simp only[rP,ha,hau,Bool.and_self],e1.trans (e2.less om)⟩
open Go.Abs Go.Abs.S
theorem kO{H:ae}{x lo hi:Int}:aq Tryz.prog aG 24 [.int .i64 x,.int .i64 lo,.int .i64 hi] H fun v H'=>v=.bool (lT x lo hi)/\H=H':=by
 refine ai rfl OE rfl ?_
 by_cases c1:lo<=x
 ·by_cases c2:x<=hi
  ·simp only[NG,sA,sB,seval,c1,c2]; exact⟨by simp[lT,c1,c2],tt⟩
  ·simp only[NG,sA,sB,seval,c1,c2]; exact⟨by simp[lT,c2],tt⟩
 ·simp only[NG,sA,sB,seval,c1]; exact⟨by simp[lT,c1],tt⟩
def IU(b:Bool):af:=.int .i64 (bif b then 0 else 130)
theorem lB{α:Type}{l:List α}{i:Nat}{x:α}(h:l[i]?=some x):x∈l:=Pz h
set_option maxHeartbeats 1000000 in
theorem xA{H:ae}{s:Sc}{vm vb vu:af}(I:fV (·<H.next) H s vm vb vu) :
  aq Tryz.prog aG 9 [.agg (dH s vm vb vu)] H fun r H'=>r=IU (fG s)/\bg H.next H H':=by
 refine ai rfl za9 rfl ?_
 obtain⟨H1,m1,r1,n1,k1⟩:=aP H (dH s vm vb vu) (n:=21) rfl
 have e1:=dY n1 k1
 have ca:(af.agg (dH s vm vb vu)).cells=dH s vm vb vu:=rfl
 have lb:=I.b.len
 have lm:=I.m.len
 have lu:=I.u.len
 have rm:∀x:Mt,(iD x).length=6:=fun _=>rfl
 have rb:∀x:Rd,(oz x).length=5:=fun _=>rfl
 have ru:∀x:Us,(rx x).length=5:=fun _=>rfl
 have L1:=an 21 0 r1 rfl rfl
 have L2:=an 21 1 r1 rfl rfl
 have L3:=an 21 2 r1 rfl rfl
 have L4:=an 21 3 r1 rfl rfl
 have L5:=aH 21 5 3 r1 rfl (xs:=fk s.eye) om rfl
 unfold fG oE kV
 simp only[c9,sA,sB,seval,ca,m1,aF,L1]
 refine kO.mono ?_
 rintro _ _ ⟨rfl,rfl⟩
 cases h1:lT s.w 1 1024
 ·simp only[sA,sB,seval]; exact⟨rfl,e1⟩
 simp only[sA,sB,seval,aF,L2]
 refine kO.mono ?_
 rintro _ _ ⟨rfl,rfl⟩
 cases h2:lT s.h 1 1024
 ·simp only[sA,sB,seval]; exact⟨rfl,e1⟩
 simp only[sA,sB,seval,aF,L3]
 refine kO.mono ?_
 rintro _ _ ⟨rfl,rfl⟩
 cases h3:lT s.sm 1 64
 ·simp only[sA,sB,seval]; exact⟨rfl,e1⟩
 simp only[sA,sB,seval,aF,L4]
 refine kO.mono ?_
 rintro _ _ ⟨rfl,rfl⟩
 cases h4:lT s.bo 0 8
 ·simp only[sA,sB,seval]; exact⟨rfl,e1⟩
 simp only[sA,sB,seval,aF,L5]
 refine (eW (v:=s.eye)).mono ?_
 rintro _ K1 ⟨rfl,x1⟩
 have r2:=r1.up x1 om
 have L6:=aH 21 8 3 r2 rfl (xs:=fk s.at_) om rfl
 cases h5:gZ s.eye
 ·simp only[sA,sB,seval]; exact⟨rfl,e1.trans (x1.less om)⟩
 simp only[sA,sB,seval,aF,L6]
 refine (eW (v:=s.at_)).mono ?_
 rintro _ K2 ⟨rfl,x2⟩
 have x2:=x1.trans (x2.less x1.next)
 have r2:=r1.up x2 om
 have L7:=aH 21 11 3 r2 rfl (xs:=fk s.up) om rfl
 cases h6:gZ s.at_
 ·simp only[sA,sB,seval]; exact⟨rfl,e1.trans (x2.less om)⟩
 simp only[sA,sB,seval,aF,L7]
 refine (eW (v:=s.up)).mono ?_
 rintro _ K3 ⟨rfl,x3⟩
 have x3:=x2.trans (x3.less x2.next)
 have r3:=r1.up x3 om
 have L8:=an 21 14 r3 rfl rfl
 cases h7:gZ s.up
 ·simp only[sA,sB,seval]; exact⟨rfl,e1.trans (x3.less om)⟩
 by_cases h8:0<s.wide
 rotate_left
 ·simp only[sA,sB,seval,aF,L8,h8]; exact⟨tt,e1.trans (x3.less om)⟩
 by_cases h9:s.wide<=429496729600
 rotate_left
 ·simp only[sA,sB,seval,aF,L8,h8,h9]; exact⟨tt,e1.trans (x3.less om)⟩
 have L9:=aH 21 15 3 r3 rfl (xs:=fk s.sky) om rfl
 simp only[sA,sB,seval,aF,L8,h8,h9,L9]
 refine (hY (v:=s.sky)).mono ?_
 rintro _ K4 ⟨rfl,x4⟩
 have x4:=x3.trans (x4.less x3.next)
 have r4:=r1.up x4 om
 have L10:=an 21 18 r4 rfl rfl
 have L11:=an 21 19 r4 rfl rfl
 have L12:=an 21 20 r4 rfl rfl
 have q4:=e1.trans (x4.less om)
 cases h10:vE s.sky 0 274877906944
 ·simp only[sA,sB,seval]; exact⟨rfl,q4⟩
 by_cases h11:s.ms.length<=64
 rotate_left
 ·have h11':¬(s.ms.length:Int)<=64:=om
  simp only[sA,sB,seval,aF,L10,lm,h11',h11]; exact⟨tt,q4⟩
 have h11':(s.ms.length:Int)<=64:=om
 by_cases h12:s.bs.length<=256
 rotate_left
 ·have h12':¬(s.bs.length:Int)<=256:=om
  simp only[sA,sB,seval,aF,L10,L11,lm,lb,h11',h12',h11,h12]; exact⟨tt,q4⟩
 have h12':(s.bs.length:Int)<=256:=om
 by_cases h13:s.us.length<=16
 rotate_left
 ·have h13':¬(s.us.length:Int)<=16:=om
  simp only[sA,sB,seval,aF,L10,L11,L12,lm,lb,lu,h11',h12',h13',h11,h12,h13]; exact⟨tt,q4⟩
 have h13':(s.us.length:Int)<=16:=om
 simp only[sA,sB,seval,aF,L10,L11,L12,lm,lb,lu,h11',h12',h13',h11,h12,h13]
 refine fH (fun (T:bN) H'=>bg (H.next+1) H1 H'/\s.ms.all gF=true/\T 1=aj H.next 21 0) (bP _ _) ?_ ?_
 ·refine bM (fun m (T:bN) H'=>∃i:Nat,bg (H.next+1) H1 H'/\i<=s.ms.length/\m=s.ms.length-i/\(s.ms.take i).all gF=true/\T 1=aj H.next 21 0/\T 84=vm/\T 85=.int .i64 (s.ms.length:Int)/\T 86=.int .i64 (i:Int)) s.ms.length
   ⟨0,n1 ▸ x4,om,om,rfl,by simp only[sA,sB,seval],by simp only[sA,sB,seval],by simp only[sA,sB,seval],by simp only[sA,sB,seval]⟩ ?_
  rintro m T H2 ⟨i,e2,hi,rfl,ha,g1,g10,g11,g12⟩
  by_cases hlt:i<s.ms.length
  ·have hlt':(i:Int)<(s.ms.length:Int):=om
   obtain⟨x,hx⟩:=aM hlt
   have w1:=cE i om
   have I2:=I.up (e1.trans (e2.less om))
   have ix:=I2.m.idx hlt
   have lx:=I2.m.loadE rm hx
   obtain⟨H3,m3,r3,n3,k3⟩:=aP H2 [.int .u8 0,.int .i64 0,.int .i64 0,.int .i64 0,.str [],.str []] (n:=6) rfl
   obtain⟨H4,m4,r4,n4,k4⟩:=bC (n:=6) r3 rfl (xs:=iD x) rfl rfl
   have hn2:=e2.next
   have e4:bg (H.next+1) H1 H4:=⟨om,fun b hb=>by rw[k4 b om,k3 b om,e2.old b hb]⟩
   have l4:=aH 6 0 6 r4 rfl (xs:=iD x) om rfl
   simp only[sA,sB,seval,g10,g11,g12,hlt',ix,lx,m3,m4,aF,l4]
   refine wH.mono ?_
   rintro _ H5 ⟨rfl,e5⟩
   have e5:=e4.trans (e5.less e4.next |>.less om)
   cases hh:gF x with
   | false=>
    simp only[sA,sB,seval]
    exact⟨by rw[lO hx hh]; rfl,e1.trans (e5.less om)⟩
   | true=>
    simp only[sA,sB,seval,g12,w1]
    exact⟨_,om,i+1,e5,om,rfl,by rw[jd hx ha]; exact hh,g1,g10,g11,tt⟩
  ·have hlt':¬(i:Int)<(s.ms.length:Int):=om
   simp only[sA,sB,seval,g11,g12,hlt']
   rw[List.take_of_length_le om]at ha
   exact⟨e2,ha,g1⟩
 rintro T H2 ⟨y2,hma,g1⟩
 have hn2:=y2.next
 have rr:=r1.up y2 om
 have l19:=an 21 19 rr rfl rfl
 simp only[sA,sB,seval,g1,aF,l19,lb]
 refine fH (fun (T:bN) H'=>bg (H.next+1) H1 H'/\s.bs.all lj=true/\T 1=aj H.next 21 0) (bP _ _) ?_ ?_
 ·refine bM (fun m (T:bN) H'=>∃i:Nat,bg (H.next+1) H1 H'/\i<=s.bs.length/\m=s.bs.length-i/\(s.bs.take i).all lj=true/\T 1=aj H.next 21 0/\T 95=vb/\T 96=.int .i64 (s.bs.length:Int)/\T 97=.int .i64 (i:Int)) s.bs.length
   ⟨0,y2,om,om,rfl,by simp only[sA,sB,seval,g1],by simp only[sA,sB,seval],by simp only[sA,sB,seval],by simp only[sA,sB,seval]⟩ ?_
  rintro m T H2 ⟨i,e2,hi,rfl,ha,g1,g10,g11,g12⟩
  by_cases hlt:i<s.bs.length
  ·have hlt':(i:Int)<(s.bs.length:Int):=om
   obtain⟨x,hx⟩:=aM hlt
   have w1:=cE i om
   have I2:=I.up (e1.trans (e2.less om))
   have ix:=I2.b.idx hlt
   have lx:=I2.b.loadE rb hx
   obtain⟨H3,m3,r3,n3,k3⟩:=aP H2 [.int .i64 0,.int .i64 0,.int .i64 0,.int .i64 0,.int .i64 0] (n:=5) rfl
   obtain⟨H4,m4,r4,n4,k4⟩:=bC (n:=5) r3 rfl (xs:=oz x) rfl rfl
   have hn2:=e2.next
   have e4:bg (H.next+1) H1 H4:=⟨om,fun b hb=>by rw[k4 b om,k3 b om,e2.old b hb]⟩
   have l4:=aH 5 0 5 r4 rfl (xs:=oz x) om rfl
   simp only[sA,sB,seval,g10,g11,g12,hlt',ix,lx,m3,m4,aF,l4]
   refine (wi (b:=x)).mono ?_
   rintro _ H5 ⟨rfl,e5⟩
   have e5:=e4.trans (e5.less om)
   cases hh:lj x with
   | false=>
    simp only[sA,sB,seval]
    exact⟨by rw[hma,lO hx hh]; rfl,e1.trans (e5.less om)⟩
   | true=>
    simp only[sA,sB,seval,g12,w1]
    exact⟨_,om,i+1,e5,om,rfl,by rw[jd hx ha]; exact hh,g1,g10,g11,tt⟩
  ·have hlt':¬(i:Int)<(s.bs.length:Int):=om
   simp only[sA,sB,seval,g11,g12,hlt']
   rw[List.take_of_length_le om]at ha
   exact⟨e2,ha,g1⟩
 clear y2 hn2 rr l19
 rintro T H2 ⟨y2,hba,g1⟩
 have hn2:=y2.next
 have rr:=r1.up y2 om
 have l20:=an 21 20 rr rfl rfl
 simp only[sA,sB,seval,g1,aF,l20,lu]
 refine fH (fun (T:bN) H'=>bg (H.next+1) H1 H'/\s.us.all jk=true/\T 1=aj H.next 21 0) (bP _ _) ?_ ?_
 ·refine bM (fun m (T:bN) H'=>∃i:Nat,bg (H.next+1) H1 H'/\i<=s.us.length/\m=s.us.length-i/\(s.us.take i).all jk=true/\T 1=aj H.next 21 0/\T 106=vu/\T 107=.int .i64 (s.us.length:Int)/\T 108=.int .i64 (i:Int)) s.us.length
   ⟨0,y2,om,om,rfl,by simp only[sA,sB,seval,g1],by simp only[sA,sB,seval],by simp only[sA,sB,seval],by simp only[sA,sB,seval]⟩ ?_
  rintro m T H2 ⟨i,e2,hi,rfl,ha,g1,g10,g11,g12⟩
  by_cases hlt:i<s.us.length
  ·have hlt':(i:Int)<(s.us.length:Int):=om
   obtain⟨x,hx⟩:=aM hlt
   have w1:=cE i om
   have I2:=I.up (e1.trans (e2.less om))
   have ix:=I2.u.idx hlt
   have lx:=I2.u.loadE ru hx
   obtain⟨H3,m3,r3,n3,k3⟩:=aP H2 [.str [],.int .i64 0,.int .i64 0,.int .i64 0,.int .i64 0] (n:=5) rfl
   obtain⟨H4,m4,r4,n4,k4⟩:=bC (n:=5) r3 rfl (xs:=rx x) rfl rfl
   have hn2:=e2.next
   have e4:bg (H.next+1) H1 H4:=⟨om,fun b hb=>by rw[k4 b om,k3 b om,e2.old b hb]⟩
   have l4:=an 5 0 r4 rfl rfl
   have l5:=aH 5 1 3 r4 rfl (xs:=fk x.p) om rfl
   simp only[sA,sB,seval,g10,g11,g12,hlt',ix,lx,m3,m4,aF,l4]
   refine kF.mono ?_
   rintro _ _ ⟨rfl,rfl⟩
   cases hn:eS x.n with
   | false=>
    simp only[sA,sB,seval]
    have hu:jk x=false:=by simp only[jk,hn,Bool.false_and]
    exact⟨by rw[hma,hba,lO hx hu]; rfl,e1.trans (e4.less om)⟩
   | true=>
    simp only[sA,sB,seval,aF,l5]
    refine (eW (v:=x.p)).mono ?_
    rintro _ H5 ⟨rfl,e5⟩
    have e5:=e4.trans (e5.less om)
    cases hf:gZ x.p with
    | false=>
     simp only[sA,sB,seval]
     have hu:jk x=false:=by simp only[jk,hf,Bool.and_false]
     exact⟨by rw[hma,hba,lO hx hu]; rfl,e1.trans (e5.less om)⟩
    | true=>
     simp only[sA,sB,seval,g12,w1]
     exact⟨_,om,i+1,e5,om,rfl,by rw[jd hx ha]; simp only[jk,hn,hf,Bool.and_self],g1,g10,g11,tt⟩
  ·have hlt':¬(i:Int)<(s.us.length:Int):=om
   simp only[sA,sB,seval,g11,g12,hlt']
   rw[List.take_of_length_le om]at ha
   exact⟨e2,ha,g1⟩
 clear y2 hn2 rr l20
 rintro T H2 ⟨y2,hua,g1⟩
 have hn2:=y2.next
 have rr:=r1.up y2 om
 have l0:=aH 21 0 21 rr rfl (xs:=dH s vm vb vu) om rfl
 have I2:=(I.up (e1.trans (y2.less om))).mono (Q:=(·<H2.next)) fun b hb=>⟨om,rfl⟩
 simp only[sA,sB,seval,g1,l0]
 refine (ti I2 om om).mono ?_
 rintro _ H3 ⟨rfl,e3⟩
 have e3:=e1.trans ((y2.trans (e3.less om)).less om)
 rw[hma,hba,hua]
 cases ha:rP s
 ·simp only[sA,sB,seval]; exact⟨rfl,e3⟩
 ·simp only[sA,sB,seval]; exact⟨rfl,e3⟩
open Go.Abs Go.Abs.S
structure Fp(pb:Nat)(H H':ae):Prop where
 next:H.next<=H'.next
 old:∀c,c<H.next->c≠pb->H'.get c=H.get c
theorem Fp.refl(pb:Nat)(H:ae):Fp pb H H:=⟨Nat.le_refl _,fun _ _ _=>rfl⟩
theorem Fp.trans{pb:Nat}{H H' H2:ae}(a:Fp pb H H')(b:Fp pb H' H2):Fp pb H H2:=
 ⟨Nat.le_trans a.next b.next,fun c h1 h2=>by rw[b.old c (PH h1 a.next) h2,a.old c h1 h2]⟩
theorem Fp.of_ext{pb:Nat}{H H':ae}(e:bg H.next H H'):Fp pb H H':=⟨e.next,fun c h _=>e.old c h⟩
theorem Fp.of_set{pb:Nat}{H H':ae}(hn:H'.next=H.next)(k:∀c,c≠pb->H'.get c=H.get c):Fp pb H H':=⟨om,fun c _ h=>k c h⟩
def lJ:Option Nat->af
 | some n=>.tuple [.int .u64 (((if n<18446744073709551616 then n else 18446744073709551615):Nat):Int),.bool (decide (n<18446744073709551616)),.bool true]
 | none=>.tuple [.int .u64 0,.bool false,.bool false]
theorem u9{c:UInt8}:eF c=true↔48<=c.toNat/\c.toNat<=57:=by simp only[eF,Pu,PE]
set_option maxRecDepth 20000 in
theorem qz{s:Bs}(hs:s.length<=4611686018427387904){H:ae}:aq Tryz.prog aG 77 [.str s] H fun v H'=>v=lJ (fE s)/\H=H':=by
 refine ai rfl NV rfl ?_
 simp only[c77,sA,sB,seval]
 refine fH (fun (T:bN) H'=>H=H'/\s.all eF=true/\T 0=.str s/\T 2=.int .u64 ((dg s % 18446744073709551616:Nat):Int)/\T 3=.bool (decide (dg s<18446744073709551616))) (bP _ _) ?_ ?_
 ·refine bM (fun m (T:bN) H'=>∃i:Nat,H=H'/\i<=s.length/\m=s.length-i/\(s.take i).all eF=true/\T 0=.str s/\T 2=.int .u64 ((dg (s.take i) % 18446744073709551616:Nat):Int)/\T 3=.bool (decide (dg (s.take i)<18446744073709551616))/\T 8=.int .i64 (s.length:Int)/\T 9=.int .i64 (i:Int)) s.length
   ⟨0,rfl,om,om,rfl,by simp only[sA,sB,seval],by simp only[sA,sB,seval]; rfl,by simp only[sA,sB,seval]; rfl,by simp only[sA,sB,seval],by simp only[sA,sB,seval]⟩ ?_
  rintro m T _ ⟨i,rfl,hi,rfl,ha,g0,g2,g3,g8,g9⟩
  by_cases hlt:i<s.length
  ·have hlt':(i:Int)<(s.length:Int):=om
   obtain⟨c,hc⟩:=aM hlt
   have w1:=cE i om
   have hat:=jd hc ha
   have hno:eF c=false->fE s=none:=fun h=>by
    rw[fE,if_neg]
    rintro ⟨_,h2⟩
    rw[lO hc h]at h2; simp at h2
   by_cases c1:c.toNat<48
   ·have c1':(c.toNat:Int)<48:=om
    simp only[sA,sB,seval,g0,g8,g9,hlt',bt hc,c1']
    exact⟨by rw[hno (Bool.eq_false_iff.2 fun h=>by have:=u9.1 h; omega)]; rfl,tt⟩
   have c1':¬(c.toNat:Int)<48:=om
   by_cases c2:57<c.toNat
   ·have c2':(57:Int)<(c.toNat:Int):=om
    simp only[sA,sB,seval,g0,g8,g9,hlt',bt hc,c1',c2']
    exact⟨by rw[hno (Bool.eq_false_iff.2 fun h=>by have:=u9.1 h; omega)]; rfl,tt⟩
   have c2':¬(57:Int)<(c.toNat:Int):=om
   have hd:eF c=true:=u9.2 om
   have hv:dg (s.take (i+1))=dg (s.take i)*10+dv c:=by rw[List.take_add_one,hc]; exact vK _ _
   have hdv:dv c<=9:=by simp only[dv]; omega
   have e1:IntKind.u8.wrap ((c.toNat:Int)-48)=((dv c:Nat):Int):=by rw[dN om om]; simp only[dv]; omega
   have e2:IntKind.u64.wrap ((dv c:Nat):Int)=((dv c:Nat):Int):=jH om om
   have e3:IntKind.u64.wrap (18446744073709551615-((dv c:Nat):Int))=((18446744073709551615-dv c:Nat):Int):=by rw[jH om om]; omega
   have e4:=Fo (a:=18446744073709551615-dv c) 10 om om
   simp only[Int.cast_ofNat_Int]at e4
   generalize hn:dg (s.take i)=n at *
   have e5:IntKind.u64.wrap (((n % 18446744073709551616:Nat):Int)*10)=((n*10 % 18446744073709551616:Nat):Int):=by
    have:=AB .u64 (by simp) (n % 18446744073709551616*10)
    rw[show ((n % 18446744073709551616:Nat):Int)*10=((n % 18446744073709551616*10:Nat):Int) by omega,this]
    show ((n % 18446744073709551616*10 % 18446744073709551616:Nat):Int)=_
    omega
   have e6:IntKind.u64.wrap (((n*10 % 18446744073709551616:Nat):Int)+((dv c:Nat):Int))=(((n*10+dv c) % 18446744073709551616:Nat):Int):=by
    have:=AB .u64 (by simp) (n*10 % 18446744073709551616+dv c)
    rw[show ((n*10 % 18446744073709551616:Nat):Int)+((dv c:Nat):Int)=((n*10 % 18446744073709551616+dv c:Nat):Int) by omega,this]
    show (((n*10 % 18446744073709551616+dv c) % 18446744073709551616:Nat):Int)=_
    omega
   by_cases c3:n<18446744073709551616
   ·have e7:n % 18446744073709551616=n:=Nat.mod_eq_of_lt c3
    by_cases c4:n*10+dv c<18446744073709551616
    ·have c4':((n % 18446744073709551616:Nat):Int)<=(((18446744073709551615-dv c) / 10:Nat):Int):=om
     simp only[sA,sB,seval,g0,g2,g3,g8,g9,hlt',bt hc,c1',c2',e1,e2,c3,e3,e4,c4',e5,e6,w1]
     exact⟨_,om,i+1,tt,om,rfl,by rw[hat]; exact hd,tt,by rw[hv],by rw[hv,decide_eq_true c4],tt,tt⟩
    ·have c4':¬((n % 18446744073709551616:Nat):Int)<=(((18446744073709551615-dv c) / 10:Nat):Int):=om
     simp only[sA,sB,seval,g0,g2,g3,g8,g9,hlt',bt hc,c1',c2',e1,e2,c3,e3,e4,c4',e5,e6,w1]
     exact⟨_,om,i+1,tt,om,rfl,by rw[hat]; exact hd,tt,by rw[hv],by rw[hv,decide_eq_false c4],tt,tt⟩
   ·simp only[sA,sB,seval,g0,g2,g3,g8,g9,hlt',bt hc,c1',c2',e1,e2,c3,e5,e6,w1]
    exact⟨_,om,i+1,tt,om,rfl,by rw[hat]; exact hd,tt,by rw[hv],by rw[hv,decide_eq_false om],tt,tt⟩
  ·have hlt':¬(i:Int)<(s.length:Int):=om
   simp only[sA,sB,seval,g8,g9,hlt']
   rw[List.take_of_length_le om]at ha g2 g3
   exact⟨tt,ha,g0,g2,g3⟩
 rintro T _ ⟨rfl,ha,g0,g2,g3⟩
 by_cases h0:s=[]
 ·subst h0
  simp only[sA,sB,seval,g0]
  exact⟨rfl,tt⟩
 have hc:fE s=some (dg s):=by rw[fE,if_pos ⟨h0,ha⟩]
 rw[hc]
 by_cases c3:dg s<18446744073709551616
 ·simp only[sA,sB,seval,g0,h0,g2,g3,c3]
  exact⟨by simp only[lJ,c3,if_true,decide_true,Nat.mod_eq_of_lt c3],tt⟩
 ·simp only[sA,sB,seval,g0,h0,g2,g3,c3]
  exact⟨by simp only[lJ,c3,if_false,decide_false]; rfl,tt⟩
def KL:Option Int->af
 | some n=>.tuple [.int .i64 n,.bool true]
 | none=>.tuple [.int .i64 0,.bool false]
theorem HZ{s:Bs}{n:Nat}(h:eo s=some n):n<9223372036854775808:=by
 unfold eo at h
 split at h <;> first | (simp at h; done) | skip
 rename_i hs
 simp only[sJ]at h
 have:=BB (pi (wG hs.1).2)
 omega
theorem MI{s:Bs}:(∃r,s=45::r/\pre s [45]=true)∨((∀r,s≠45::r)/\pre s [45]=false):=by
 rcases s with _ | ⟨c,r⟩
 ·exact .inr ⟨by simp,by decide⟩
 ·by_cases h:c=45
  ·subst h; exact .inl ⟨r,rfl,by simp[pre]⟩
  ·refine .inr ⟨fun r' he=>h (List.cons.inj he).1,?_⟩
   simp only[pre,List.take_succ_cons,Pv,Pw,List.take_zero]
   exact decide_eq_false fun he=>h (List.cons.inj he).1
theorem KK{s:Bs}(hs:s.length<=4611686018427387904){H:ae}:aq Tryz.prog aG 78 [.str s] H fun v H'=>v=KL (fX s)/\bg H.next H H':=by
 refine ai rfl NU rfl ?_
 simp only[c78,sA,sB,seval]
 have hp:∀(s:Bs) {H:ae},aq Tryz.prog aG 35 [.str s,.str [45]] H fun v H'=>v=.bool (pre s [45])/\H=H':=fun s H=>sO rfl s [45]
 have key:∀{K:af->ae->Prop},K (.tuple [.str (if pre s [45]=true then s.drop 1 else s),.bool (pre s [45])]) H->aq Tryz.prog aG 93 [.str s,.str [45]] H K:=by
  intro K hK
  refine ai rfl NL rfl ?_
  simp only[c93,sA,sB,seval]
  refine ai rfl Mu rfl ?_
  simp only[M6,sA,sB,seval]
  refine (hp s).mono ?_
  rintro _ _ ⟨rfl,rfl⟩
  cases h:pre s [45] with
  | false=>
   rw[h]at hK
   simp only[sA,sB,seval,bK,bJ]
   exact hK
  | true=>
   rw[h]at hK
   have hl:1<=s.length:=by
    rcases s with _ | ⟨c,r⟩
    ·simp[pre]at h
    ·simp
   have e1:=oW (s:=s) (l:=1) hl
   have hl1:((List.length [(45:UInt8)]:Nat):Int)=1:=rfl
   simp only[Int.cast_ofNat_Int]at e1
   simp only[sA,sB,seval,hl1,e1,bK,bJ]
   exact hK
 refine key ?_
 rcases MI (s:=s) with⟨r,rfl,h⟩ | ⟨hne,h⟩
 ·simp only[h,sA,sB,seval,bK,bJ]
  refine (oB rfl rfl rfl rfl rfl rfl rfl rfl rfl (s:=r) (by simp at hs; omega)).mono ?_
  rintro _ H1 ⟨rfl,e⟩
  cases hn:eo r with
  | none=>
   have w:DV .neg (.int .i64 0)=some (.int .i64 0):=rfl
   simp only[CA,sA,sB,seval,w,bK,bJ]
   refine⟨by simp only[fX,hn,Option.map_none]; rfl,e⟩
  | some n=>
   have hlt:=HZ hn
   have w:DV .neg (.int .i64 (n:Int))=some (.int .i64 (-(n:Int))):=by
    rw[Ex,aV om om,Int.zero_sub]
   simp only[CA,sA,sB,seval,w,bK,bJ]
   refine⟨by simp only[fX,hn,Option.map_some]; rfl,e⟩
 ·have e0:fX s=(eo s).map fun (n:Nat)=>(n:Int):=Bm hne
  simp only[h,sA,sB,seval,bK,bJ]
  refine (oB rfl rfl rfl rfl rfl rfl rfl rfl rfl (s:=s) hs).mono ?_
  rintro _ H1 ⟨rfl,e⟩
  rw[e0]
  cases hn:eo s with
  | none=>simp only[CA,sA,sB,seval,bK,bJ]; exact⟨rfl,e⟩
  | some n=>simp only[CA,sA,sB,seval,bK,bJ]; exact⟨rfl,e⟩
open Go.Abs Go.Abs.S
def fg(f:Bs->Option Int):List Bs->Option (List Int)
 | []=>some []
 | a::l=>match f a with
  | none=>none
  | some x=>(fg f l).map (x::·)
theorem nX{f:Bs->Option Int}:∀{l:List Bs} {ns:List Int} {a:Bs} {x:Int},fg f l=some ns->f a=some x->fg f (l++[a])=some (ns++[x])
 | [],ns,a,x,h,h2=>by
  simp only[fg,sJ]at h
  subst h
  simp only[List.nil_append,fg,h2,Option.map_some]
 | b::l,ns,a,x,h,h2=>by
  simp only[fg]at h
  split at h <;> first | (simp at h; done) | skip
  rename_i y hy
  obtain⟨m,hm,rfl⟩:=Option.map_eq_some_iff.1 h
  simp only[PM,fg,hy,nX hm h2,Option.map_some]
theorem nY{f:Bs->Option Int}:∀{l:List Bs} {a:Bs},a∈l->f a=none->fg f l=none
 | [],a,h,_=>by simp at h
 | b::l,a,h,h2=>by
  simp only[fg]
  rcases List.mem_cons.1 h with rfl | h
  ·rw[h2]
  ·split
   ·rfl
   ·rw[nY h h2]; rfl
abbrev Wl(P:Nat->Prop)(H:ae)(v:af)(ws:List Bs):Prop:=gW P H 1 v ws.length (bX ws)
theorem KG{H:ae}{a:Ad}{n:Nat}{xs:List af}(h:aT H a n=some xs):xs.length=n:=by
 obtain⟨l,low,ro,h1,h2,h3,h4,rfl⟩:=jm h
 rw[PO,PN]; omega
theorem gW.load1{P:Nat->Prop}{H:ae}{k:Nat}{v:af}{C:List af}(h:gW P H 1 v k C){i:Nat}{x:af}(hi:C[i]?=some x):bi false 1 H (nC 1 v i)=some x:=by
 rcases h with⟨_,rfl,rfl⟩ | ⟨a,r,rfl,_,h3⟩
 ·simp at hi
 ·have hlt:=(Ps.1 hi).1
  have hl:C.length=1*k:=KG h3
  obtain⟨y,q1,q2⟩:=Fk h3 (i:=i) om
  rw[hi]at q1
  simp only[sJ]at q1
  subst q1
  simp only[bi,nC,Nat.mul_one,q2,cond_false]
def wy(b n o k:Nat):List af:=(List.range k).map fun j=>aj b n (o+j)
theorem Be{b n o k i:Nat}(h:i<k):(wy b n o k)[i]?=some (aj b n (o+i)):=by
 simp only[wy,List.getElem?_map,List.getElem?_range h,Option.map_some]
def mh(C:List af)(o:Nat)(ns:List Int):List af:=C.take o++(wR ns++C.drop (o+ns.length))
theorem wv(C:List af)(o:Nat):mh C o []=C:=by simp[mh,wR]
theorem iO{C:List af}{o:Nat}{ns:List Int}(h:o+ns.length<=C.length):(mh C o ns).length=C.length:=by
 simp only[mh,lA,PO,PN,wQ]; omega
theorem sM{C:List af}{o:Nat}{ns:List Int}{x:Int}(h:o+ns.length<C.length):(mh C o ns).set (o+ns.length) (.int .i64 x)=mh C o (ns++[x]):=by
 obtain⟨y,hy⟩:∃y,C[o+ns.length]?=some y:=⟨_,Pr h⟩
 have h1:(C.take o).length=o:=by rw[PO]; omega
 have h2:(C.take o++wR ns).length=o+ns.length:=by rw[lA,h1,wQ]
 rw[mh,iY hy,<- PG,<- h2,List.set_append,if_neg om,Nat.sub_self,List.set_cons_zero,h2,mh,Dd]
 simp only[PG,PM,List.nil_append,lA,Pv,Pw,Nat.zero_add,Nat.add_assoc]
def Po(f:Bs->Option Int)(ws:List Bs)(b n o k:Nat)(C:List af)(H:ae)(v:af)(H':ae):Prop:=
 Fp b H H'/\∃C',Row H' b C'/\C'.length=n/\((v=.bool true/\ws.length=k/\∃ns,fg f ws=some ns/\C'=mh C o ns)∨(v=.bool false/\(ws.length=k->fg f ws=none)))
theorem jp{P Q:Nat->Prop}{vl vt:af}{ws:List Bs}{b n o k:Nat}{C:List af}{H:ae}(hl:Wl P H vl ws)(hP:∀c,P c->c<H.next/\c≠b)(ht:gW Q H 1 vt k (wy b n o k))(hQ:∀c,Q c->c<H.next/\c≠b)
  (r:Row H b C) (hC:C.length=n) (ho:o+k<=n) (hw:∀w∈ws,w.length<=4611686018427387904) (hb:b<H.next) (hk:k<=100):aq Tryz.prog aG 51 [vl,vt] H (Po fX ws b n o k C H):=by
 refine ai rfl Og rfl ?_
 have ll:=hl.len
 have lt:=ht.len
 by_cases hlen:ws.length=k
 rotate_left
 ·have hlen':¬(ws.length:Int)=(k:Int):=om
  simp only[Pb,sA,sB,seval,ll,lt,hlen']
  exact⟨Fp.refl _ _,C,r,hC,.inr ⟨tt,fun h=>absurd h hlen⟩⟩
 have hlen':(ws.length:Int)=(k:Int):=om
 simp only[Pb,sA,sB,seval,ll,lt,hlen']
 refine bM (fun m (T:bN) H'=>∃(i:Nat) (ns:List Int),Fp b H H'/\i<=k/\m=k-i/\fg fX (ws.take i)=some ns/\ns.length=i/\Row H' b (mh C o ns)/\T 1=vt/\T 14=vl/\T 15=.int .i64 (k:Int)/\T 16=.int .i64 (i:Int)) k
  ⟨0,[],Fp.refl _ _,om,om,rfl,rfl,by rw[wv]; exact r,by simp only[sA,sB,seval],by simp only[sA,sB,seval],by simp only[sA,sB,seval],by simp only[sA,sB,seval]⟩ ?_
 rintro m T H1 ⟨i,ns,f1,hi,rfl,ha,hnl,r1,g1,g14,g15,g16⟩
 have hn1:=f1.next
 by_cases hlt:i<k
 ·have hlt':(i:Int)<(k:Int):=om
  obtain⟨w,hwi⟩:=aM (show i<ws.length by omega)
  have w1:=cE i om
  have hl1:=hl.mono (Q:=P) fun c hc=>⟨hc,f1.old c (hP c hc).1 (hP c hc).2⟩
  have ix:=hl1.idx (show i<ws.length by omega)
  have lx:=hl1.load1 (ei hwi)
  simp only[sA,sB,seval,g1,g14,g15,g16,hlt',ix,lx]
  refine (KK (hw w (Pz hwi))).mono ?_
  rintro _ H2 ⟨rfl,e2⟩
  have r2:=r1.up e2 om
  have f2:=f1.trans (Fp.of_ext (pb:=b) e2)
  cases hx:fX w with
  | none=>
   simp only[KL,sA,sB,seval,bK,bJ]
   exact⟨f2,_,r2,by rw[iO om,hC],.inr ⟨rfl,fun _=>nY (Pz hwi) hx⟩⟩
  | some x=>
   have ht2:=ht.mono (Q:=Q) fun c hc=>⟨hc,f2.old c (hQ c hc).1 (hQ c hc).2⟩
   have ix2:=ht2.idx hlt
   have lx2:=ht2.load1 (Be hlt)
   obtain⟨H3,m3,r3,n3,k3⟩:=bA r2 (by rw[iO om,hC]) (i:=o+ns.length) (n:=n) om (x:=.int .i64 x) rfl
   rw[hnl]at m3
   rw[sM om]at r3
   simp only[KL,sA,sB,seval,bK,bJ,g1,ix2,lx2,aI,m3,g16,w1]
   exact⟨_,om,i+1,ns++[x],f2.trans (Fp.of_set n3 k3),om,rfl,by rw[List.take_add_one,hwi]; exact nX ha hx,by rw[lA,hnl]; rfl,r3,tt,g14,g15,tt⟩
 ·have hlt':¬(i:Int)<(k:Int):=om
  simp only[sA,sB,seval,g14,g15,g16,hlt']
  rw[List.take_of_length_le om]at ha
  exact⟨f1,_,r1,by rw[iO om,hC],.inl ⟨tt,hlen,ns,ha,rfl⟩⟩
theorem oJ{P Q:Nat->Prop}{vl vt:af}{ws:List Bs}{b n o k lo hi:Nat}{C:List af}{H:ae}(hl:Wl P H vl ws)(hP:∀c,P c->c<H.next/\c≠b)(ht:gW Q H 1 vt k (wy b n o k))(hQ:∀c,Q c->c<H.next/\c≠b)
  (r:Row H b C) (hC:C.length=n) (ho:o+k<=n) (hw:∀w∈ws,w.length<=4611686018427387904) (hb:b<H.next) (hk:k<=100) (hhi:hi<=1000000):aq Tryz.prog aG 41 [vl,.int .u64 (lo:Int),.int .u64 (hi:Int),vt] H (Po (fj lo hi) ws b n o k C H):=by
 refine ai rfl Ot rfl ?_
 have ll:=hl.len
 have lt:=ht.len
 by_cases hlen:ws.length=k
 rotate_left
 ·have hlen':¬(ws.length:Int)=(k:Int):=om
  simp only[Pe,sA,sB,seval,ll,lt,hlen']
  exact⟨Fp.refl _ _,C,r,hC,.inr ⟨tt,fun h=>absurd h hlen⟩⟩
 have hlen':(ws.length:Int)=(k:Int):=om
 simp only[Pe,sA,sB,seval,ll,lt,hlen']
 refine bM (fun m (T:bN) H'=>∃(i:Nat) (ns:List Int),Fp b H H'/\i<=k/\m=k-i/\fg (fj lo hi) (ws.take i)=some ns/\ns.length=i/\Row H' b (mh C o ns)/\T 1=.int .u64 (lo:Int)/\T 2=.int .u64 (hi:Int)/\T 3=vt/\T 19=vl/\T 20=.int .i64 (k:Int)/\T 21=.int .i64 (i:Int)) k
  ⟨0,[],Fp.refl _ _,om,om,rfl,rfl,by rw[wv]; exact r,by simp only[sA,sB,seval],by simp only[sA,sB,seval],by simp only[sA,sB,seval],by simp only[sA,sB,seval],by simp only[sA,sB,seval],by simp only[sA,sB,seval]⟩ ?_
 rintro m T H1 ⟨i,ns,f1,hi',rfl,ha,hnl,r1,g1,g2,g3,g19,g20,g21⟩
 have hn1:=f1.next
 by_cases hlt:i<k
 ·have hlt':(i:Int)<(k:Int):=om
  obtain⟨w,hwi⟩:=aM (show i<ws.length by omega)
  have w1:=cE i om
  have hl1:=hl.mono (Q:=P) fun c hc=>⟨hc,f1.old c (hP c hc).1 (hP c hc).2⟩
  have ix:=hl1.idx (show i<ws.length by omega)
  have lx:=hl1.load1 (ei hwi)
  simp only[sA,sB,seval,g1,g2,g3,g19,g20,g21,hlt',ix,lx]
  refine (qz (hw w (Pz hwi))).mono ?_
  rintro _ _ ⟨rfl,rfl⟩
  have stop:fj lo hi w=none->Po (fj lo hi) ws b n o k C H (.bool false) H1:=fun hx=>⟨f1,_,r1,by rw[iO om,hC],.inr ⟨rfl,fun _=>nY (Pz hwi) hx⟩⟩
  cases hx:fE w with
  | none=>
   simp only[lJ,sA,sB,seval,bK,bJ,gb]
   exact stop (by simp only[fj,hx])
  | some x=>
   by_cases c1:x<lo
   ·have c1':(((if x<18446744073709551616 then x else 18446744073709551615):Nat):Int)<(lo:Int)∨¬lo<=hi:=by
     split <;> omega
    by_cases c0:(((if x<18446744073709551616 then x else 18446744073709551615):Nat):Int)<(lo:Int)
    ·simp only[lJ,sA,sB,seval,bK,bJ,gb,g1,g2,c0]
     exact stop (by simp only[fj,hx]; rw[if_neg om])
    ·have c2:(hi:Int)<(((if x<18446744073709551616 then x else 18446744073709551615):Nat):Int):=by split at c0 <;> split <;> omega
     simp only[lJ,sA,sB,seval,bK,bJ,gb,g1,g2,c0,c2]
     exact stop (by simp only[fj,hx]; rw[if_neg om])
   by_cases c2:hi<x
   ·have c2':(hi:Int)<(((if x<18446744073709551616 then x else 18446744073709551615):Nat):Int):=by split <;> omega
    by_cases c0:(((if x<18446744073709551616 then x else 18446744073709551615):Nat):Int)<(lo:Int)
    ·simp only[lJ,sA,sB,seval,bK,bJ,gb,g1,g2,c0]
     exact stop (by simp only[fj,hx]; rw[if_neg om])
    ·simp only[lJ,sA,sB,seval,bK,bJ,gb,g1,g2,c0,c2']
     exact stop (by simp only[fj,hx]; rw[if_neg om])
   have hs:(if x<18446744073709551616 then x else 18446744073709551615)=x:=if_pos om
   have c1':¬(x:Int)<(lo:Int):=om
   have c2':¬(hi:Int)<(x:Int):=om
   have hcx:fj lo hi w=some (x:Int):=by simp only[fj,hx]; rw[if_pos om]
   have ht2:=ht.mono (Q:=Q) fun c hc=>⟨hc,f1.old c (hQ c hc).1 (hQ c hc).2⟩
   have ix2:=ht2.idx hlt
   have lx2:=ht2.load1 (Be hlt)
   have wx:IntKind.i64.wrap (x:Int)=(x:Int):=aV om om
   obtain⟨H3,m3,r3,n3,k3⟩:=bA r1 (by rw[iO om,hC]) (i:=o+ns.length) (n:=n) om (x:=.int .i64 (x:Int)) rfl
   rw[hnl]at m3
   rw[sM om]at r3
   simp only[lJ,sA,sB,seval,bK,bJ,gb,hs,g1,g2,g3,c1',c2',ix2,lx2,aI,wx,m3,g21,w1]
   exact⟨_,om,i+1,ns++[(x:Int)],f1.trans (Fp.of_set n3 k3),om,rfl,by rw[List.take_add_one,hwi]; exact nX ha hcx,by rw[lA,hnl]; rfl,r3,tt,tt,tt,g19,g20,tt⟩
 ·have hlt':¬(i:Int)<(k:Int):=om
  simp only[sA,sB,seval,g19,g20,g21,hlt']
  rw[List.take_of_length_le om]at ha
  exact⟨f1,_,r1,by rw[iO om,hC],.inl ⟨tt,hlen,ns,ha,rfl⟩⟩
open Go.Abs Go.Abs.S
theorem Cx{ws:List Bs}{ns:List Int}(hl:ws.length=3)(h:fg fX ws=some ns):∃v:Vc,ns=[v.x,v.y,v.z]/\gw ws=some v:=by
 obtain⟨a,b,c,rfl⟩:∃a b c,ws=[a,b,c]:=by
  rcases ws with _ | ⟨a,_ | ⟨b,_ | ⟨c,_ | ⟨d,r⟩⟩⟩⟩ <;> simp at hl
  exact⟨a,b,c,rfl⟩
 simp only[fg]at h
 split at h <;> first | (simp at h; done) | skip
 rename_i x hx
 split at h <;> first | (simp at h; done) | skip
 rename_i y hy
 split at h <;> first | (simp at h; done) | skip
 rename_i z hz
 simp only[Option.map_some,sJ]at h
 subst h
 exact⟨⟨x,y,z⟩,rfl,by simp only[gw,hx,hy,hz]⟩
theorem Cy{ws:List Bs}(h:ws.length=3->fg fX ws=none):gw ws=none:=by
 unfold gw
 split
 ·rename_i a b c
  have h:=h rfl
  simp only[fg]at h
  split
  ·rfl
  ·rename_i x hx
   rw[hx]at h
   simp only at h
   split
   ·rfl
   ·rename_i y hy
    rw[hy]at h
    simp only at h
    split
    ·rfl
    ·rename_i z hz
     rw[hz]at h
     simp at h
 ·rfl
theorem I7(H:ae)(b n i j k:Nat):cf 3 [.ptr none] H [(0,1,aj b n i),(1,1,aj b n j),(2,1,aj b n k)]=some (kB H.next 3 (.known 3),H.push (.cells [aj b n i,aj b n j,aj b n k] 0 false)):=rfl
theorem vn(H:ae)(b n i:Nat):cf 1 [.ptr none] H [(0,1,aj b n i)]=some (kB H.next 1 (.known 1),H.push (.cells [aj b n i] 0 false)):=rfl
theorem I8(H:ae)(b n i j:Nat):cf 2 [.ptr none] H [(0,1,aj b n i),(1,1,aj b n j)]=some (kB H.next 2 (.known 2),H.push (.cells [aj b n i,aj b n j] 0 false)):=rfl
theorem I6(H:ae)(b n i j k l:Nat):cf 4 [.ptr none] H [(0,1,aj b n i),(1,1,aj b n j),(2,1,aj b n k),(3,1,aj b n l)]=some (kB H.next 4 (.known 4),H.push (.cells [aj b n i,aj b n j,aj b n k,aj b n l] 0 false)):=rfl
theorem mL(b:Nat)(H:ae)(o:dz):Fp b H (H.push o):=⟨by rw[aR]; omega,fun c hc _=>aU hc⟩
theorem mj{H:ae}{b n o k:Nat}(l:List af)(hl:l=wy b n o k):gW (·=H.next) (H.push (.cells l 0 false)) 1 (kB H.next k (.known k)) k (wy b n o k):=by
 subst hl
 have hk:(wy b n o k).length=k:=by simp[wy]
 exact gW.row (jM H _) hk om rfl
def Pk(o':Option Vc)(b n o:Nat)(C:List af)(H:ae)(v:af)(H':ae):Prop:=
 Fp b H H'/\∃C',Row H' b C'/\C'.length=n/\((∃x,o'=some x/\v=.bool true/\C'=mh C o [x.x,x.y,x.z])∨(o'=none/\v=.bool false))
theorem pC{P:Nat->Prop}{vl:af}{ws:List Bs}{b n o:Nat}{C:List af}{H:ae}(hl:Wl P H vl ws)(hP:∀c,P c->c<H.next/\c≠b)
  (r:Row H b C) (hC:C.length=n) (ho:o+3<=n) (hw:∀w∈ws,w.length<=4611686018427387904) (hb:b<H.next):aq Tryz.prog aG 47 [vl,aj b n o] H (Pk (gw ws) b n o C H):=by
 refine ai rfl Ok rfl ?_
 simp only[c47,sA,sB,seval,aI,aF,I7]
 have f0:=mL b H (.cells [aj b n (o+0),aj b n (o+1),aj b n (o+2)] 0 false)
 have ht:=mj (H:=H) (b:=b) (n:=n) (o:=o) (k:=3) [aj b n (o+0),aj b n (o+1),aj b n (o+2)] rfl
 rw[Nat.add_zero]at f0 ht
 refine (jp (Q:=(·=H.next)) (hl.mono (Q:=P) fun c hc=>⟨hc,f0.old c (hP c hc).1 (hP c hc).2⟩) (fun c hc=>⟨by rw[aR]; have:=(hP c hc).1; omega,(hP c hc).2⟩) ht (fun c hc=>⟨by rw[aR]; omega,om⟩)
  (r.same (aU hb)) hC ho hw (by rw[aR]; omega) om).mono ?_
 rintro v H' ⟨f,C',r',hC',h⟩
 simp only[sA,sB,seval]
 refine⟨f0.trans f,C',r',hC',?_⟩
 rcases h with⟨rfl,h1,ns,h2,rfl⟩ | ⟨rfl,h1⟩
 ·obtain⟨x,rfl,hx⟩:=Cx h1 h2
  exact .inl ⟨x,hx,rfl,rfl⟩
 ·exact .inr ⟨Cy h1,rfl⟩
def pR(ws:List Bs):Option Nat:=match ws with
 | [a]=>match fE a with
  | some n=>if n<18446744073709551616 then some n else none
  | none=>none
 | _=>none
theorem CI{P:Nat->Prop}{vl:af}{ws:List Bs}{b n o:Nat}{C:List af}{H:ae}(hl:Wl P H vl ws)(hP:∀c,P c->c<H.next/\c≠b)
  (r:Row H b C) (hC:C.length=n) (ho:o<n) (hw:∀w∈ws,w.length<=4611686018427387904):aq Tryz.prog aG 45 [vl,aj b n o] H fun v H'=>Fp b H H'/\∃C',Row H' b C'/\C'.length=n/\((∃x:Nat,pR ws=some x/\v=.bool true/\C'=C.set o (.int .u64 (x:Int)))∨(pR ws=none/\v=.bool false)):=by
 refine ai rfl Om rfl ?_
 have ll:=hl.len
 rcases ws with _ | ⟨a,_ | ⟨d,ws⟩⟩
 ·have e:((List.length ([]:List Bs):Nat):Int)=0:=rfl
  simp only[NE,sA,sB,seval,ll,e]
  exact⟨Fp.refl _ _,C,r,hC,.inr ⟨rfl,tt⟩⟩
 ·have e:((List.length [a]:Nat):Int)=1:=rfl
  have ix:=hl.idx (i:=0) (by simp)
  have lx:=hl.load1 (ei (l:=[a]) (i:=0) rfl)
  simp only[Int.cast_ofNat_Int]at ix
  simp only[NE,sA,sB,seval,ll,e,ix,lx]
  refine (qz (hw a (by simp))).mono ?_
  rintro _ _ ⟨rfl,rfl⟩
  cases hx:fE a with
  | none=>
   obtain⟨H1,m1,r1,n1,k1⟩:=bA r hC (i:=o) ho (x:=.int .u64 0) rfl
   simp only[lJ,sA,sB,seval,bK,bJ,gb,aI,m1]
   exact⟨Fp.of_set n1 k1,_,r1,by rw[List.length_set,hC],.inr ⟨by simp only[pR,hx],tt⟩⟩
  | some x=>
   by_cases hlt:x<18446744073709551616
   ·obtain⟨H1,m1,r1,n1,k1⟩:=bA r hC (i:=o) ho (x:=.int .u64 (x:Int)) rfl
    simp only[lJ,sA,sB,seval,bK,bJ,gb,aI,hlt,m1]
    exact⟨Fp.of_set n1 k1,_,r1,by rw[List.length_set,hC],.inl ⟨x,by simp only[pR,hx]; rw[if_pos hlt],tt,rfl⟩⟩
   ·obtain⟨H1,m1,r1,n1,k1⟩:=bA r hC (i:=o) ho (x:=.int .u64 ((18446744073709551615:Nat):Int)) rfl
    simp only[Int.cast_ofNat_Int]at m1
    simp only[lJ,sA,sB,seval,bK,bJ,gb,aI,hlt,m1]
    exact⟨Fp.of_set n1 k1,_,r1,by rw[List.length_set,hC],.inr ⟨by simp only[pR,hx]; rw[if_neg hlt],tt⟩⟩
 ·have e:¬((List.length (a::d::ws):Nat):Int)=1:=by simp only[Pv]; omega
  simp only[NE,sA,sB,seval,ll,e]
  exact⟨Fp.refl _ _,C,r,hC,.inr ⟨rfl,tt⟩⟩
theorem pX{s:Bs}{b n o:Nat}{C:List af}{H:ae}(r:Row H b C)(hC:C.length=n)(ho:o<n)(hs:s.length<=4611686018427387904) :
  aq Tryz.prog aG 81 [.str s,aj b n o] H fun v H'=>Fp b H H'/\∃C',Row H' b C'/\C'.length=n/\((∃x:Int,jo s=some x/\v=.bool true/\C'=C.set o (.int .i64 x))∨(jo s=none/\v=.bool false)):=by
 refine ai rfl NR rfl ?_
 simp only[c81,sA,sB,seval]
 refine (qz hs).mono ?_
 rintro _ _ ⟨rfl,rfl⟩
 cases hx:fE s with
 | none=>
  simp only[lJ,sA,sB,seval,bK,bJ,gb]
  exact⟨Fp.refl _ _,C,r,hC,.inr ⟨by simp only[jo,fj,hx],tt⟩⟩
 | some x=>
  by_cases hlt:x<=1073741824
  ·have hs:(if x<18446744073709551616 then x else 18446744073709551615)=x:=if_pos om
   have c2:¬(1073741824:Int)<(x:Int):=om
   have wx:IntKind.i64.wrap (x:Int)=(x:Int):=aV om om
   obtain⟨H1,m1,r1,n1,k1⟩:=bA r hC (i:=o) ho (x:=.int .i64 (x:Int)) rfl
   simp only[lJ,sA,sB,seval,bK,bJ,gb,hs,c2,wx,aI,m1]
   exact⟨Fp.of_set n1 k1,_,r1,by rw[List.length_set,hC],.inl ⟨x,by simp only[jo,fj,hx]; rw[if_pos ⟨Nat.zero_le _,hlt⟩],tt,rfl⟩⟩
  ·have c2:(1073741824:Int)<(((if x<18446744073709551616 then x else 18446744073709551615):Nat):Int):=by split <;> omega
   simp only[lJ,sA,sB,seval,bK,bJ,gb,c2]
   exact⟨Fp.refl _ _,C,r,hC,.inr ⟨by simp only[jo,fj,hx]; rw[if_neg om],tt⟩⟩
open Go.Abs Go.Abs.S
def ux(r:Nat):Bool:=decide (r=9)||(decide (r=13)||decide (r=32))
def nu(s:Bs)(pos:Nat):Option (Nat×Nat):=match uG s pos with
 | Option.none=>Option.none
 | some c=>bif Nat.ble 128 c.toNat then some (Utf8.decode (aE s) pos) else some (c.toNat,1)
def iJ(s:Bs):Nat->Nat->Option Nat->List (Nat×Nat)->Option Nat×List (Nat×Nat)
 | 0,_,b,l=>(b,l)
 | f+1,pos,b,l=>match nu s pos with
  | Option.none=>(b,l)
  | some (r,n)=>if ux r then (match b with
    | some i=>iJ s f (pos+n) Option.none (l++[(i,pos)])
    | Option.none=>iJ s f (pos+n) Option.none l)
   else (match b with
    | some i=>iJ s f (pos+n) (some i) l
    | Option.none=>iJ s f (pos+n) (some pos) l)
def co(s:Bs):List (Nat×Nat):=match iJ s (s.length+1) 0 Option.none [] with
 | (some i,l)=>l++[(i,s.length)]
 | (Option.none,l)=>l
theorem Ae(s:ByteArray)(pos:Nat):1<=(Utf8.decode s pos).2:=by
 simp only[Utf8.decode]
 repeat' split
 all_goals simp
theorem sC{s:Bs}{pos:Nat}:nu s pos=none↔s.length<=pos:=by
 unfold nu
 rw[mB]
 cases h:s[pos]? with
 | none=>simp[List.getElem?_eq_none_iff.1 h]
 | some c=>
  have hlt:=(Ps.1 h).1
  have:¬s.length<=pos:=om
  cases hb:Nat.ble 128 c.toNat <;> simp[hb] <;> omega
theorem we{s:Bs}{pos r n:Nat}(h:nu s pos=some (r,n)):1<=n/\pos<s.length:=by
 constructor
 ·unfold nu at h
  split at h
  ·simp at h
  ·rename_i c _
   cases hb:Nat.ble 128 c.toNat with
   | true=>
    rw[hb]at h
    simp only[cond_true,sJ]at h
    have:=Ae (aE s) pos
    rw[h]at this; exact this
   | false=>
    rw[hb]at h
    simp only[cond_false,sJ,pJ]at h
    omega
 ·by_cases hl:s.length<=pos
  ·rw[sC.2 hl]at h; simp at h
  ·omega
def Ny(b:Nat):af:=.ptr (some ⟨b,0,0⟩)
theorem Fm(H:ae)(s:Bs):mY .strRange H [.str s]=some (Ny H.next,H.push (.iter s 0)):=_root_.id rfl
theorem FD{H:ae}{b:Nat}{s:Bs}{pos:Nat}(h:H.get b=some (.iter s pos))(hr:nu s pos=none):mY .strNext H [Ny b]=some (.tuple [.bool false],H):=by
 unfold nu at hr
 show ra H [.ptr (some ⟨b,0,0⟩)]=_
 unfold ra
 simp only[h]
 cases hn:uG s pos with
 | none=>rfl
 | some c=>
  rw[hn]at hr
  cases hb:Nat.ble 128 c.toNat <;> simp[hb]at hr
theorem CQ{H:ae}{b:Nat}{s:Bs}{pos r n:Nat}(h:H.get b=some (.iter s pos))(hr:nu s pos=some (r,n)):mY .strNext H [Ny b]=some (.tuple [.bool true,.int .i64 (pos:Int),.int .i32 (r:Int)],H.set b (.iter s (pos+n))):=by
 unfold nu at hr
 show ra H [.ptr (some ⟨b,0,0⟩)]=_
 unfold ra
 simp only[h]
 cases hn:uG s pos with
 | none=>rw[hn]at hr; simp at hr
 | some c=>
  rw[hn]at hr
  cases hb:Nat.ble 128 c.toNat with
  | true=>
   simp only[hb,cond_true,sJ]at hr
   simp only[hb,cond_true,hr]
   rfl
  | false=>
   simp only[hb,cond_false,sJ,pJ]at hr
   obtain⟨rfl,rfl⟩:=hr
   simp only[hb,cond_false]
   rfl
theorem Kr{i:Nat}(h:i<2 ^ 63):∃z:Int,DV .xor (.int .i64 (i:Int))=some (.int .i64 z)/\z<0:=by
 refine⟨_,rfl,?_⟩
 have e:(BitVec.ofInt IntKind.i64.bits (if IntKind.i64.signed then -1 else IntKind.i64.max) ^^^ BitVec.ofInt IntKind.i64.bits (i:Int)).toNat=2 ^ 64-1-i:=by
  show (BitVec.ofInt 64 (-1) ^^^ BitVec.ofInt 64 (i:Int)).toNat=_
  have h1:BitVec.ofInt 64 (-1)=BitVec.allOnes 64:=by decide
  rw[h1,BitVec.allOnes_xor,BitVec.toNat_not,iT,Nat.mod_eq_of_lt om]
 rw[e,IntKind.wrap_i64]
 omega
theorem EZ(r:Nat){H:ae}:aq Tryz.prog aG 64 [.int .i32 (r:Int)] H fun v H'=>v=.bool (ux r)/\H=H':=by
 refine ai rfl N4 rfl ?_
 have e:ux r=(decide ((r:Int)=9)||(decide ((r:Int)=13)||decide ((r:Int)=32))):=by
  rw[Bool.eq_iff_iff]; simp only[ux,Bool.or_eq_true,PE]; omega
 rw[e]
 by_cases h1:(r:Int)=9 <;> by_cases h2:(r:Int)=13 <;> by_cases h3:(r:Int)=32
 all_goals first
  | (exfalso; omega)
  | (simp only [c64, sA, sB, seval, h1, h2, h3]
     exact ⟨by simp, tt⟩)
theorem pQ{α:Type}(a b:List α)(x y:α):(a++x::b).set a.length y=a++y::b:=by simp
def DS(l:List (Nat×Nat)):List af:=l.flatMap fun p=>[.int .i64 (p.1:Int),.int .i64 (p.2:Int)]
theorem v7(l:List (Nat×Nat))(p:Nat×Nat):DS (l++[p])=DS l++[.int .i64 (p.1:Int),.int .i64 (p.2:Int)]:=by simp[DS]
theorem Kw{l:List (Nat×Nat)}{i:Nat}{p:Nat×Nat}(h:l[i]?=some p):((DS l).drop (i*2)).take 2=[.int .i64 (p.1:Int),.int .i64 (p.2:Int)]:=by
 induction l generalizing i with
 | nil=>simp at h
 | cons q l ih=>
  cases i with
  | zero=>simp at h; subst h; simp[DS]
  | succ i=>
   have:=ih (by simpa using h)
   have e:(i+1)*2=i*2+2:=om
   rw[e]
   simpa[DS] using this
def ea(s:Bs)(p:Nat×Nat):Bs:=(s.drop p.1).take (p.2-p.1)
theorem IR(s:Bs)(hs:s.length<=1000000){H:ae}:aq Tryz.prog aG 63 [.str s,.func (.func 64) [] []] H fun v H'=>(∃b,v=kB b (co s).length (.known (co s).length)/\Row H' b (bX ((co s).map (ea s)))/\H.next<=b/\b<H'.next)/\(co s).length<=s.length+1/\bg H.next H H':=by
 refine ai rfl N5 rfl ?_
 obtain⟨v0,H0,m0,G0,E0,k0,B0⟩:=rz.make (m:=2) (bytes:=16) (cap:=32) (z:=[.int .i64 0,.int .i64 0]) H rfl om om (Nat.zero_le _)
 have m0':gO 16 [.int .i64 0,.int .i64 0] H (.int .i64 0) (.int .i64 32)=some (v0,H0):=m0
 simp only[c63,sA,sB,seval,m0',Fm]
 have G1:rz 2 0 (H0.push (.iter s 0)) v0 [] 0:=G0.same (by rw[aR]; omega) (G0.blk.mono fun b hb=>aU hb)
 refine fH (fun (T:bN) H'=>∃(l:List (Nat×Nat)) (b:Option Nat) (z:Int),T 0=.str s/\T 6=.int .i64 z/\(match b with | some i=>z=(i:Int)/\i<=s.length | none=>z<0)/\rz 2 0 H' (T 5) (DS l) l.length/\ed (T 5) (H.next<=·)/\(∀p∈l,p.1<=p.2/\p.2<=s.length)/\l.length<=s.length/\iJ s (s.length+1) 0 none []=(b,l)/\bg H.next H H') (bP _ _) ?_ ?_
 ·refine bM (fun q (T:bN) H'=>∃(l:List (Nat×Nat)) (b:Option Nat) (z:Int) (pos f:Nat),q=s.length-pos/\s.length+1<=f+pos/\T 0=.str s/\T 1=.func (.func 64) [] []/\T 6=.int .i64 z/\T 14=Ny H0.next/\H'.get H0.next=some (.iter s pos)/\H0.next<H'.next/\ed (T 5) (H0.next≠·)/\ed (T 5) (H.next<=·)/\(match b with | some i=>z=(i:Int)/\i<=pos/\i<=s.length | none=>z<0)/\rz 2 0 H' (T 5) (DS l) l.length/\(∀p∈l,p.1<=p.2/\p.2<=s.length)/\l.length<=pos/\l.length<=s.length/\iJ s f pos b l=iJ s (s.length+1) 0 none []/\bg H.next H H') s.length
   ⟨[],none,-1,0,s.length+1,rfl,om,by simp only[sA,sB,seval]; try rfl,by simp only[sA,sB,seval]; try rfl,by simp only[sA,sB,seval]; try rfl,by simp only[sA,sB,seval]; try rfl,by rw[ae.get_push]; exact if_pos rfl,Nat.lt_succ_self _,by simp only[sA,sB,seval]; exact B0.mono fun b hb=>om,by simp only[sA,sB,seval]; exact B0.mono fun b hb=>om,by show (-1:Int)<0; omega,by simp only[sA,sB,seval]; exact G1,by simp,by simp,by simp,rfl,(E0.push (by have:=E0.next; omega) _)⟩ ?_
  rintro q T H' ⟨l,b,z,pos,f,rfl,hf,g0,g1,g6,g14,hit,hlt,hd,hlo,hz,hG,hp,hl,hl2,hsp,E⟩
  by_cases hr:nu s pos=none
  ·have e:iJ s f pos b l=(b,l):=by
    cases f with
    | zero=>rfl
    | succ f=>simp only[iJ,hr]
   rw[e]at hsp
   have e0:dE 0 (.tuple [.bool false])=some (.bool false):=rfl
   simp only[sA,sB,seval,g0,g1,g6,g14,FD hit hr,e0]
   refine⟨l,b,z,tt,tt,?_,hG,hlo,hp,hl2,hsp.symm,E⟩
   cases b with
   | none=>exact hz
   | some i=>exact⟨hz.1,hz.2.2⟩
  ·obtain⟨⟨r,n⟩,hr⟩:=Option.ne_none_iff_exists'.1 hr
   obtain⟨hn1,hpl⟩:=we hr
   obtain⟨f,rfl⟩:∃k,f=k+1:=⟨f-1,om⟩
   obtain⟨H1,e1⟩:∃K,K=H'.set H0.next (.iter s (pos+n)):=⟨_,rfl⟩
   have k1:H1.next=H'.next:=by rw[e1]; rfl
   have i1:H1.get H0.next=some (.iter s (pos+n)):=by rw[e1,ae.get_set,if_pos rfl]
   have o1:∀c,c≠H0.next->H1.get c=H'.get c:=fun c hc=>by rw[e1,ae.get_set,if_neg hc]
   have hG1:rz 2 0 H1 (T 5) (DS l) l.length:=hG.same om (hd.mono fun c hc=>o1 c hc.symm)
   have E1:bg H.next H H1:=⟨by have:=E.next; omega,fun c hc=>by rw[o1 c om]; exact E.old c hc⟩
   simp only[sA,sB,seval,g0,g1,g6,g14,CQ hit hr,<- e1,bK,bJ,gb]
   refine (EZ r).mono ?_
   rintro v _ ⟨rfl,rfl⟩
   rw[iJ,hr]at hsp
   cases hb:ux r with
   | true=>
    simp only[hb,if_true]at hsp
    cases b with
    | none=>
     have hz':¬(0:Int)<=z:=by
      have:z<0:=hz
      omega
     simp only[sA,sB,seval,g0,g1,g6,g14,hz']
     exact⟨_,om,l,none,z,pos+n,f,rfl,om,tt,tt,tt,tt,i1,om,hd,hlo,hz,hG1,hp,om,hl2,hsp,E1⟩
    | some i=>
     obtain⟨rfl,hi1,hi2⟩:=hz
     have hz':(0:Int)<=(i:Int):=om
     obtain⟨zx,x1,x2⟩:=Kr (i:=i) om
     obtain⟨s',H2,m2,G2,n2,b2,o2⟩:=hG1.push (xs:=[.int .i64 (i:Int),.int .i64 (pos:Int)]) rfl rfl om (bytes:=16) om om
     have bp:cj [.int .i64 0,.int .i64 0] [(0,1,.int .i64 (i:Int)),(1,1,.int .i64 (pos:Int))]=some (.agg [.int .i64 (i:Int),.int .i64 (pos:Int)]):=rfl
     have bm:=qL (m:=2) (z:=[.int .i64 0,.int .i64 0]) (xs:=[.int .i64 (i:Int),.int .i64 (pos:Int)]) H1 rfl rfl
     simp only[sA,sB,seval,g0,g1,g6,g14,hz',bp,bm,m2,x1]
     refine⟨_,om,l++[(i,pos)],none,zx,pos+n,f,rfl,om,tt,tt,tt,tt,by rw[o2 _ om hd]; exact i1,om,(b2 _ hd).mono fun c hc=>om,(b2 _ hlo).mono fun c hc=>by have:=E1.next; omega,x2,by rw[v7,lA]; exact G2,?_,by simp; omega,?_,hsp,⟨by have:=E1.next; omega,fun c hc=>by rw[o2 c (by have:=E1.next; omega) (hlo.mono fun d hd=>om)]; exact E1.old c hc⟩⟩
     ·intro p hpm
      rcases List.mem_append.1 hpm with h | h
      ·exact hp p h
      ·have:p=(i,pos):=by simpa using h
       rw[this]; exact⟨hi1,by show pos<=s.length; omega⟩
     ·simp; omega
   | false=>
    simp only[hb,PD,if_false]at hsp
    cases b with
    | none=>
     have hz':z<0:=hz
     simp only[sA,sB,seval,g0,g1,g6,g14,hz']
     exact⟨_,om,l,some pos,(pos:Int),pos+n,f,rfl,om,tt,tt,tt,tt,i1,om,hd,hlo,⟨rfl,om,om⟩,hG1,hp,om,hl2,hsp,E1⟩
    | some i=>
     obtain⟨rfl,hi1,hi2⟩:=hz
     have hz':¬(i:Int)<0:=om
     simp only[sA,sB,seval,g0,g1,g6,g14,hz']
     exact⟨_,om,l,some i,(i:Int),pos+n,f,rfl,om,tt,tt,tt,tt,i1,om,hd,hlo,⟨rfl,om,hi2⟩,hG1,hp,om,hl2,hsp,E1⟩
 ·rintro T H' ⟨l,b,z,g0,g6,hz,hG,hlo,hp,hl,hsp,E⟩
  rw[jq]
  refine Jd (fun (T:bN) H'=>T 0=.str s/\rz 2 0 H' (T 5) (DS (co s)) (co s).length/\(∀p∈co s,p.1<=p.2/\p.2<=s.length)/\(co s).length<=s.length+1/\bg H.next H H') (bP _ _) ?_ ?_
  ·cases b with
   | none=>
    have e:co s=l:=by rw[co,hsp]
    have hz':¬(0:Int)<=z:=by
     have:z<0:=hz
     omega
    simp only[sA,sB,seval,g0,g6,hz']
    exact⟨tt,by rw[e]; exact hG,by rw[e]; exact hp,by rw[e]; omega,E⟩
   | some i=>
    have e:co s=l++[(i,s.length)]:=by rw[co,hsp]
    obtain⟨rfl,hi2⟩:=hz
    have hz':(0:Int)<=(i:Int):=om
    obtain⟨s',H2,m2,G2,n2,b2,o2⟩:=hG.push (xs:=[.int .i64 (i:Int),.int .i64 (s.length:Int)]) rfl rfl om (bytes:=16) om om
    have bp:cj [.int .i64 0,.int .i64 0] [(0,1,.int .i64 (i:Int)),(1,1,.int .i64 (s.length:Int))]=some (.agg [.int .i64 (i:Int),.int .i64 (s.length:Int)]):=rfl
    have bm:=qL (m:=2) (z:=[.int .i64 0,.int .i64 0]) (xs:=[.int .i64 (i:Int),.int .i64 (s.length:Int)]) H' rfl rfl
    simp only[sA,sB,seval,g0,g6,hz',bp,bm,m2]
    refine⟨tt,by rw[e,v7,lA]; exact G2,?_,by rw[e]; simp; omega,⟨by have:=E.next; omega,fun c hc=>by rw[o2 c (by have:=E.next; omega) (hlo.mono fun d hd=>om)]; exact E.old c hc⟩⟩
    rw[e]
    intro p hpm
    rcases List.mem_append.1 hpm with h | h
    ·exact hp p h
    ·have:p=(i,s.length):=by simpa using h
     rw[this]; exact⟨hi2,Nat.le_refl _⟩
  ·clear hsp hp hl hG hlo hz g0 g6 E T H'
   rintro T H' ⟨g0,hG,hp,hl,E⟩
   generalize hfl:co s=l at *
   obtain⟨H1,m1,R1,k1,o1⟩:=sD (H:=H') (z:=.str []) (bytes:=16) (k:=l.length) om om
   have E1:bg H.next H H1:=⟨by have:=E.next; omega,fun c hc=>by rw[o1 _ (by have:=E.next; omega)]; exact E.old c hc⟩
   have hG1:rz 2 0 H1 (T 5) (DS l) l.length:=hG.same om (hG.blk.mono fun c hc=>o1 c om)
   simp only[sA,sB,seval,g0,hG.len,m1]
   refine bM (fun q (T2:bN) H2=>∃j:Nat,j<=l.length/\q=l.length-j/\T2 0=.str s/\T2 9=kB H'.next l.length (.known l.length)/\T2 47=T 5/\T2 48=.int .i64 (l.length:Int)/\T2 49=.int .i64 (j:Int)/\Row H2 H'.next (bX ((l.take j).map (ea s))++List.replicate (l.length-j) (.str []))/\rz 2 0 H2 (T 5) (DS l) l.length/\H'.next<H2.next/\bg H.next H H2) l.length
    ⟨0,Nat.zero_le _,rfl,by simp only[sA,sB,seval,g0]; try rfl,by simp only[sA,sB,seval]; try rfl,by simp only[sA,sB,seval]; try rfl,by simp only[sA,sB,seval]; try rfl,by simp only[sA,sB,seval]; try rfl,by simpa[bX] using R1,hG1,om,E1⟩ ?_
   rintro q T2 H2 ⟨j,hj,rfl,f0,f9,f47,f48,f49,hR,hG2,hn2,E2⟩
   have hlen:(bX ((l.take j).map (ea s))++List.replicate (l.length-j) (af.str [])).length=l.length:=by simp[bX]; omega
   by_cases hlt:j<l.length
   ·have hlt':(j:Int)<(l.length:Int):=om
    obtain⟨p,hpj⟩:=aM hlt
    obtain⟨hp1,hp2⟩:=hp p (Pz hpj)
    obtain⟨b,lim,a1,a2⟩:=hG2.at hlt
    rw[Kw hpj]at a2
    obtain⟨H3,m3,r3,k3,o3⟩:=aP H2 [.int .i64 0,.int .i64 0] (n:=2) rfl
    obtain⟨H4,m4,r4,k4,o4⟩:=bC r3 (n:=2) rfl (xs:=[.int .i64 (p.1:Int),.int .i64 (p.2:Int)]) rfl rfl
    have R4:=hR.same (H':=H4) (by rw[o4 _ om,o3 _ om])
    have hj4:j<(bX ((l.take j).map (ea s))++List.replicate (l.length-j) (af.str [])).length:=om
    obtain⟨H5,m5,r5,k5,o5⟩:=bA R4 hlen hlt (x:=.str (ea s p)) rfl
    have hsl:=yC (s:=s) hp1 hp2
    simp only[sA,sB,seval,f0,f9,f47,f48,f49,hlt',a1,a2,m3,m4,O0,iN r4 (n:=2) rfl (i:=0) rfl,iN r4 (n:=2) rfl (i:=1) rfl,hsl,l9 .i64 hlt]
    have m5':bD 1 H4 (aj H'.next l.length j) (.str ((s.drop p.1).take (p.2-p.1)))=some H5:=m5
    simp only[sA,sB,seval,m5',f49,cE j om]
    have hbk:ed (T 5) (·<H'.next):=hG.blk
    refine⟨_,om,j+1,om,rfl,tt,tt,tt,tt,tt,?_,hG2.same om (hbk.mono fun c hc=>by rw[o5 _ om,o4 _ om,o3 _ om]),om,⟨by have:=E2.next; omega,fun c hc=>by rw[o5 _ (by have:=E.next; omega),o4 _ (by have:=E2.next; omega),o3 _ (by have:=E2.next; omega)]; exact E2.old c hc⟩⟩
    have e:(bX ((l.take j).map (ea s))++List.replicate (l.length-j) (af.str [])).set j (.str (ea s p))=bX ((l.take (j+1)).map (ea s))++List.replicate (l.length-(j+1)) (af.str []):=by
     have h1:(bX ((l.take j).map (ea s))).length=j:=by simp[bX]; omega
     have h2:List.replicate (l.length-j) (af.str [])=.str []::List.replicate (l.length-(j+1)) (af.str []):=by
      rw[show l.length-j=(l.length-(j+1))+1 by omega,List.replicate_succ]
     rw[h2]
     have h3:=pQ (bX ((l.take j).map (ea s))) (List.replicate (l.length-(j+1)) (af.str [])) (af.str []) (.str (ea s p))
     rw[h1]at h3
     rw[h3,List.take_add_one,hpj]
     simp[bX]
    rw[e]at r5
    exact r5
   ·have hlt':¬(j:Int)<(l.length:Int):=om
    have hj:j=l.length:=om
    subst hj
    rw[List.take_length,Nat.sub_self,List.replicate_zero,List.append_nil]at hR
    simp only[sA,sB,seval,f0,f9,f47,f48,f49,hlt']
    exact⟨⟨H'.next,rfl,hR,E.next,hn2⟩,hl,E2⟩
end Go.Proofs.Wo
