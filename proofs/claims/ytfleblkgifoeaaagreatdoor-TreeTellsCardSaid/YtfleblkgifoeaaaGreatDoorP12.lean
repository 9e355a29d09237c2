/- Part of a proof (YC4 YR1 YR2 YR3 YR4 YR5); no condition. -/
import Derived.Test.YtfleblkgifoeaaaGreatDoorProg
import Derived.KernelRfl
import Derived.Test.YtfleblkgifoeaaaGreatDoorP7
import Derived.Test.YtfleblkgifoeaaaGreatDoorP11
set_option linter.unusedSimpArgs false
set_option linter.unusedVariables false
set_option linter.unnecessarySimpa false
namespace Go.Proofs.Wo
open Go.Abs Go.Abs.S
noncomputable section
def c10:bV:=⟨46,zq [zo 2 (.mv zn),zo 3 (.new [zI 0,zI 0])] (zq [zm 6 0,zo 7 (.build [.str [],zU 0,.str [],zI 0,zI 0,zI 0,zI 0,zI 0,zI 0,zI 0] [(0,1,.t 6)]),zo 8 (.box (.t 7)),zm 4 8] (zq [zm 9 4,zx 10 33 [.t 9,zi 0]] (zq [zo 5 (.mv zn)] (.seq (.block 0 (.loop (zr [zm 11 4,zc 12 11,zf 13 7 12,zf 14 0 13,zl 15 14,zk 16 .eql 15 0,zm 17 16,zg 18 (.mv (.t 4)) 17 true,zg 19 (.nilChk (.t 18)) 17 true,zg 20 (.fieldA 1 (.t 19)) 17 true,zg 21 (.fieldA 0 (.t 20)) 17 true,zg 22 (.load false 1 (.t 21)) 17 true,zg 23 (.bin .neq (.t 22) (zu 5)) 17 true,zo 24 (.pick (.t 17) (.t 23) (.c (.bool false)))] 24 .skip (.exit 0) (.block 1 (.reg [zm 25 5,zm 26 4,zx 27 34 [.t 26],zo 28 (.buildSl 1 [zU 0,.str [],zU 0,.str [],zI 0,zN,zN,zN,zI 0] [(0,9,.t 27)]),zo 29 (.append 9 136 (.t 25) (.t 28)),zm 5 29]))))) (zr [zm 30 4,zc 31 30,zf 32 7 31,zf 33 0 32,zl 34 33,zk 35 .neq 34 0] 35 (zq [zm 36 4,zc 37 36,zf 38 7 37,zt 39 2 38,zo 2 (.mv zn),zp (.store 2 (.t 3) (.t 39))] .ret) .skip (zr [zm 40 5,zx 41 35 [.t 40],zo 42 (.un .not (.t 41))] 42 (zq [zo 43 (.build [zI 0,zI 0] [(0,1,zi 102)]),zo 2 (.mv zn),zp (.store 2 (.t 3) (.t 43))] .ret) .skip (zq [zm 44 5,zo 45 (.build [zI 0,zI 0] []),zm 2 44,zp (.store 2 (.t 3) (.t 45))] .ret))))))),[.t 2,.cell true 2 3]⟩
theorem Qk:cN Tryz.prog 10=some c10:=by kernel_rfl
def QD:bV:=⟨29,zr [zm 6 0,zc 7 6,zf 8 7 7,zf 9 0 8,zl 10 9,zk 11 .neq 10 0] 11 .ret .skip (zq [zm 13 0,zc 14 13,zf 15 0 14,zl 16 15,zm 17 1,zx 18 71 [.t 16,.t 17],zm 12 18,ze 19 0 12,ze 20 1 12,zo 4 (.new [zU 0,.str [],zI 0,zI 0,zI 0,zI 0]),zo 5 (.new [zI 0,zI 0]),zp (.store 6 (.t 4) (.t 19)),zp (.store 2 (.t 5) (.t 20))] (.draw [zm 21 0,zm 22 0,zt 23 6 4,zt 24 2 5,zc 25 21,zf 26 1 25,zp (.store 6 (.t 26) (.t 23)),zc 27 22,zf 28 7 27,zp (.store 2 (.t 28) (.t 24))] [[],[],[],[9],[],[],[],[],[],[]])),[]⟩
theorem Qb:cN Tryz.prog 33=some QD:=by kernel_rfl
def c34:bV:=⟨89,zq [zo 2 (.new [zU 0,.str [],zU 0,.str [],zI 0,zN,zN,zN,zI 0])] (zq [zm 4 0,zc 5 4,zf 6 1 5,zf 7 3 6,zl 8 7,zo 9 (.build [zU 0,.str [],zU 0,.str [],zI 0,zN,zN,zN,zI 0] [(8,1,.t 8)]),zo 3 (.new [zU 0,.str [],zU 0,.str [],zI 0,zN,zN,zN,zI 0]),zp (.store 9 (.t 3) (.t 9))] (zr [zm 10 0,zx 11 72 [.t 10],zo 12 (.un .not (.t 11))] 12 (zq [zt 13 9 3,zp (.store 9 (.t 2) (.t 13))] .ret) .skip (.seq (.block 0 (zq [zm 17 0,zx 18 73 [.t 17,.c (.str [108,101,116])],zm 19 18,zg 20 (.mv (.t 0)) 19 false,zg 21 (.call 73 [.t 20,.c (.str [115,101,116])]) 19 false,zo 22 (.pick (.t 19) (.c (.bool true)) (.t 21)),zm 16 22] (.cond (.t 16) (zq [zf 23 0 3,zp (.store 1 (.t 23) (zu 1))] (zr [zm 24 0,zx 25 73 [.t 24,.c (.str [115,101,116])]] 25 (.reg [zf 26 0 3,zp (.store 1 (.t 26) (zu 2))]) .skip (zq [zm 27 0,zx 28 74 [.t 27]] (zq [zm 29 0,zx 30 75 [.t 29],zf 31 1 3,zs 31 30] (zq [zm 32 0,zx 33 76 [.t 32,.c (.str [61])]] (zq [zm 34 0,zx 35 77 [.t 34],zf 36 2 3,zp (.store 4 (.t 36) (.t 35))] (.reg [zm 37 0,zx 38 76 [.t 37,.c (.str [59])]]))))))) (zq [zm 40 0,zx 41 73 [.t 40,.c (.str [105,102])],zm 39 41] (.cond (.t 39) (zq [zm 42 0,zx 43 74 [.t 42]] (zq [zf 44 0 3,zp (.store 1 (.t 44) (zu 3))] (zq [zm 45 0,zx 46 78 [.t 45],zf 47 2 3,zp (.store 4 (.t 47) (.t 46))] (zq [zm 48 0,zx 49 79 [.t 48],zf 50 6 3,zs 50 49] (zq [zm 51 0,zx 52 73 [.t 51,.c (.str [101,108,115,101])]] (.cond (.t 52) (zq [zm 53 0,zx 54 74 [.t 53]] (.reg [zm 55 0,zx 56 79 [.t 55],zf 57 7 3,zs 57 56])) .skip)))))) (zq [zm 59 0,zx 60 73 [.t 59,.c (.str [119,104,105,108,101])],zm 58 60] (.cond (.t 58) (zq [zm 61 0,zx 62 74 [.t 61]] (zq [zf 63 0 3,zp (.store 1 (.t 63) (zu 4))] (zq [zm 64 0,zx 65 78 [.t 64],zf 66 2 3,zp (.store 4 (.t 66) (.t 65))] (.reg [zm 67 0,zx 68 79 [.t 67],zf 69 6 3,zs 69 68])))) (zq [zm 71 0,zx 72 73 [.t 71,.c (.str [114,101,116,117,114,110])],zm 70 72] (.cond (.t 70) (zq [zm 73 0,zx 74 74 [.t 73]] (zq [zf 75 0 3,zp (.store 1 (.t 75) (zu 5))] (zq [zm 76 0,zx 77 77 [.t 76],zf 78 2 3,zp (.store 4 (.t 78) (.t 77))] (.reg [zm 79 0,zx 80 76 [.t 79,.c (.str [59])]])))) (.reg [zm 14 0,zx 15 80 [.t 14,zi 101]])))))))))) (zq [zm 81 0,zc 82 81,zf 83 9 82,zl 84 83,zk 85 .sub 84 1,zc 86 81,zf 87 9 86,zs 87 85] (zq [zt 88 9 3,zp (.store 9 (.t 2) (.t 88))] .ret))))),[.cell true 9 2]⟩
theorem Qa:cN Tryz.prog 34=some c34:=by kernel_rfl
def Pv:bV:=⟨23,zq [zo 2 (.mv (.c (.bool false)))] (zr [zm 3 0,zc 4 3,zf 5 9 4,zl 6 5,zk 7 .geq 6 200] 7 (zq [zm 8 0,zx 9 80 [.t 8,zi 102]] (zq [zo 2 (.mv (.c (.bool false)))] .ret)) .skip (zq [zm 10 0,zc 11 10,zf 12 9 11,zl 13 12,zk 14 .add 13 1,zc 15 10,zf 16 9 15,zs 16 14] (zq [zm 17 0,zc 18 17,zf 19 7 18,zf 20 0 19,zl 21 20,zk 22 .eql 21 0,zm 2 22] .ret))),[.t 2]⟩
theorem PR:cN Tryz.prog 72=some Pv:=by kernel_rfl
def Qu:bV:=⟨24,zq [zm 4 0,zc 5 4,zf 6 7 5,zf 7 0 6,zl 8 7,zk 9 .eql 8 0] (.cond (.t 9) (zq [zm 10 0,zm 11 1,zm 12 0,zc 13 12,zf 14 1 13,zf 15 3 14,zl 16 15,zo 17 (.build [zI 0,zI 0] [(0,1,.t 11),(1,1,.t 16)]),zc 18 10,zf 19 7 18,zp (.store 2 (.t 19) (.t 17))] (.reg [zm 20 0,zo 21 (.build [zU 0,.str [],zI 0,zI 0,zI 0,zI 0] []),zc 22 20,zf 23 1 22,zp (.store 6 (.t 23) (.t 21))])) .skip),[]⟩
theorem PK:cN Tryz.prog 80=some Qu:=by kernel_rfl
def Pu:bV:=⟨28,zq [zo 4 (.mv (.c (.bool false)))] (zq [zm 5 0,zc 6 5,zf 7 1 6,zf 8 0 7,zl 9 8,zo 10 (.bin .eql (.t 9) (zu 4)),zm 11 10,zg 12 (.mv (.t 0)) 11 false,zg 13 (.nilChk (.t 12)) 11 false,zg 14 (.fieldA 1 (.t 13)) 11 false,zg 15 (.fieldA 0 (.t 14)) 11 false,zg 16 (.load false 1 (.t 15)) 11 false,zg 17 (.bin .eql (.t 16) (zu 3)) 11 false,zo 18 (.pick (.t 11) (.c (.bool true)) (.t 17)),zm 19 18,zg 20 (.mv (.t 0)) 19 true,zg 21 (.nilChk (.t 20)) 19 true,zg 22 (.fieldA 1 (.t 21)) 19 true,zg 23 (.fieldA 1 (.t 22)) 19 true,zg 24 (.load false 1 (.t 23)) 19 true,zg 25 (.mv (.t 1)) 19 true,zg 26 (.bin .eql (.t 24) (.t 25)) 19 true,zo 27 (.pick (.t 19) (.t 26) (.c (.bool false))),zm 4 27] .ret),[.t 4]⟩
theorem PQ:cN Tryz.prog 73=some Pu:=by kernel_rfl
def c74:bV:=⟨9,.reg [zm 2 0,zm 3 0,zc 4 3,zf 5 1 4,zf 6 5 5,zl 7 6,zx 8 33 [.t 2,.t 7]],[]⟩
theorem PP:cN Tryz.prog 74=some c74:=by kernel_rfl
def Qw:bV:=⟨20,zq [zo 2 (.mv (.c (.str [])))] (zq [zm 4 0,zc 5 4,zf 6 1 5,zf 7 1 6,zl 8 7,zm 3 8] (zr [zm 9 0,zc 10 9,zf 11 1 10,zf 12 0 11,zl 13 12,zo 14 (.bin .neq (.t 13) (zu 2))] 14 (zq [zm 15 0,zx 16 80 [.t 15,zi 101]] (zq [zo 2 (.mv (.c (.str [])))] .ret)) .skip (zq [zm 17 0,zx 18 74 [.t 17]] (zq [zm 19 3,zm 2 19] .ret)))),[.t 2]⟩
theorem PO:cN Tryz.prog 75=some Qw:=by kernel_rfl
def c76:bV:=⟨12,zr [zm 4 0,zm 5 1,zx 6 73 [.t 4,.t 5],zo 7 (.un .not (.t 6))] 7 (zq [zm 8 0,zx 9 80 [.t 8,zi 101]] .ret) .skip (.reg [zm 10 0,zx 11 74 [.t 10]]),[]⟩
theorem PN:cN Tryz.prog 76=some c76:=by kernel_rfl
def Qv:bV:=⟨15,zq [zo 2 (.new [zU 0,.str [],zI 0,zN])] (zq [zm 4 0,zx 5 115 [.t 4],zo 3 (.new [zU 0,.str [],zI 0,zN]),zp (.store 4 (.t 3) (.t 5))] (.seq (.block 0 (.loop (zr [zm 6 0,zx 7 73 [.t 6,.c (.str [124,124])]] 7 .skip (.exit 0) (.block 1 (zq [zm 8 0,zx 9 74 [.t 8]] (.draw [zt 10 4 3,zm 11 0,zx 12 115 [.t 11],zx 13 116 [.c (.str [124,124]),.t 10,.t 12],zp (.store 4 (.t 3) (.t 13))] [[3],[],[],[],[]])))))) (zq [zt 14 4 3,zp (.store 4 (.t 2) (.t 14))] .ret))),[.cell true 4 2]⟩
theorem MZ:cN Tryz.prog 77=some Qv:=by kernel_rfl
def Mn:bV:=⟨15,zq [zo 2 (.new [zU 0,.str [],zI 0,zN])] (zq [zm 4 0,zx 5 161 [.t 4],zo 3 (.new [zU 0,.str [],zI 0,zN]),zp (.store 4 (.t 3) (.t 5))] (.seq (.block 0 (.loop (zr [zm 6 0,zx 7 73 [.t 6,.c (.str [38,38])]] 7 .skip (.exit 0) (.block 1 (zq [zm 8 0,zx 9 74 [.t 8]] (.draw [zt 10 4 3,zm 11 0,zx 12 161 [.t 11],zx 13 116 [.c (.str [38,38]),.t 10,.t 12],zp (.store 4 (.t 3) (.t 13))] [[3],[],[],[],[]])))))) (zq [zt 14 4 3,zp (.store 4 (.t 2) (.t 14))] .ret))),[.cell true 4 2]⟩
theorem Km:cN Tryz.prog 115=some Mn:=by kernel_rfl
def Mj:bV:=⟨42,zq [zo 2 (.new [zU 0,.str [],zI 0,zN])] (zq [zm 5 0,zx 6 185 [.t 5],zo 3 (.new [zU 0,.str [],zI 0,zN]),zp (.store 4 (.t 3) (.t 6))] (zr [zm 7 0,zx 8 73 [.t 7,.c (.str [61,61])],zm 9 8,zg 10 (.mv (.t 0)) 9 false,zg 11 (.call 73 [.t 10,.c (.str [33,61])]) 9 false,zo 12 (.pick (.t 9) (.c (.bool true)) (.t 11)),zm 13 12,zg 14 (.mv (.t 0)) 13 false,zg 15 (.call 73 [.t 14,.c (.str [60,61])]) 13 false,zo 16 (.pick (.t 13) (.c (.bool true)) (.t 15)),zm 17 16,zg 18 (.mv (.t 0)) 17 false,zg 19 (.call 73 [.t 18,.c (.str [62,61])]) 17 false,zo 20 (.pick (.t 17) (.c (.bool true)) (.t 19)),zm 21 20,zg 22 (.mv (.t 0)) 21 false,zg 23 (.call 73 [.t 22,.c (.str [60])]) 21 false,zo 24 (.pick (.t 21) (.c (.bool true)) (.t 23)),zm 25 24,zg 26 (.mv (.t 0)) 25 false,zg 27 (.call 73 [.t 26,.c (.str [62])]) 25 false,zo 28 (.pick (.t 25) (.c (.bool true)) (.t 27))] 28 (zq [zm 29 0,zc 30 29,zf 31 1 30,zf 32 1 31,zl 33 32,zm 4 33] (zq [zm 34 0,zx 35 74 [.t 34]] (.draw [zm 36 4,zt 37 4 3,zm 38 0,zx 39 185 [.t 38],zx 40 116 [.t 36,.t 37,.t 39],zp (.store 4 (.t 3) (.t 40))] [[],[4],[],[],[],[]]))) .skip (zq [zt 41 4 3,zp (.store 4 (.t 2) (.t 41))] .ret))),[.cell true 4 2]⟩
theorem Kl:cN Tryz.prog 161=some Mj:=by kernel_rfl
def Me:bV:=⟨26,zq [zo 2 (.new [zU 0,.str [],zI 0,zN])] (zq [zm 5 0,zx 6 204 [.t 5],zo 3 (.new [zU 0,.str [],zI 0,zN]),zp (.store 4 (.t 3) (.t 6))] (.seq (.block 0 (.loop (zr [zm 7 0,zx 8 73 [.t 7,.c (.str [43])],zm 9 8,zg 10 (.mv (.t 0)) 9 false,zg 11 (.call 73 [.t 10,.c (.str [45])]) 9 false,zo 12 (.pick (.t 9) (.c (.bool true)) (.t 11))] 12 .skip (.exit 0) (.block 1 (zq [zm 13 0,zc 14 13,zf 15 1 14,zf 16 1 15,zl 17 16,zm 4 17] (zq [zm 18 0,zx 19 74 [.t 18]] (.draw [zm 20 4,zt 21 4 3,zm 22 0,zx 23 204 [.t 22],zx 24 116 [.t 20,.t 21,.t 23],zp (.store 4 (.t 3) (.t 24))] [[],[4],[],[],[],[]]))))))) (zq [zt 25 4 3,zp (.store 4 (.t 2) (.t 25))] .ret))),[.cell true 4 2]⟩
theorem Kj:cN Tryz.prog 185=some Me:=by kernel_rfl
def Mc:bV:=⟨26,zq [zo 2 (.new [zU 0,.str [],zI 0,zN])] (zq [zm 5 0,zx 6 210 [.t 5],zo 3 (.new [zU 0,.str [],zI 0,zN]),zp (.store 4 (.t 3) (.t 6))] (.seq (.block 0 (.loop (zr [zm 7 0,zx 8 73 [.t 7,.c (.str [42])],zm 9 8,zg 10 (.mv (.t 0)) 9 false,zg 11 (.call 73 [.t 10,.c (.str [47])]) 9 false,zo 12 (.pick (.t 9) (.c (.bool true)) (.t 11))] 12 .skip (.exit 0) (.block 1 (zq [zm 13 0,zc 14 13,zf 15 1 14,zf 16 1 15,zl 17 16,zm 4 17] (zq [zm 18 0,zx 19 74 [.t 18]] (.draw [zm 20 4,zt 21 4 3,zm 22 0,zx 23 210 [.t 22],zx 24 116 [.t 20,.t 21,.t 23],zp (.store 4 (.t 3) (.t 24))] [[],[4],[],[],[],[]]))))))) (zq [zt 25 4 3,zp (.store 4 (.t 2) (.t 25))] .ret))),[.cell true 4 2]⟩
theorem Ki:cN Tryz.prog 204=some Mc:=by kernel_rfl
def Mb:bV:=⟨38,zq [zo 2 (.new [zU 0,.str [],zI 0,zN])] (zr [zm 5 0,zx 6 72 [.t 5],zo 7 (.un .not (.t 6))] 7 (zq [zo 8 (.build [zU 0,.str [],zI 0,zN] []),zp (.store 4 (.t 2) (.t 8))] .ret) .skip (zq [zo 9 (.build [zU 0,.str [],zI 0,zN] []),zo 3 (.new [zU 0,.str [],zI 0,zN]),zp (.store 4 (.t 3) (.t 9))] (zr [zm 10 0,zx 11 73 [.t 10,.c (.str [45])],zm 12 11,zg 13 (.mv (.t 0)) 12 false,zg 14 (.call 73 [.t 13,.c (.str [33])]) 12 false,zo 15 (.pick (.t 12) (.c (.bool true)) (.t 14))] 15 (zq [zm 16 0,zc 17 16,zf 18 1 17,zf 19 1 18,zl 20 19,zm 4 20] (zq [zm 21 0,zx 22 74 [.t 21]] (.reg [zm 23 4,zm 24 0,zx 25 210 [.t 24],zo 26 (.buildSl 1 [zU 0,.str [],zI 0,zN] [(0,4,.t 25)]),zo 27 (.build [zU 0,.str [],zI 0,zN] [(0,1,zu 3),(1,1,.t 23),(3,1,.t 26)]),zp (.store 4 (.t 3) (.t 27))]))) (.reg [zm 28 0,zx 29 211 [.t 28],zp (.store 4 (.t 3) (.t 29))]) (zq [zm 30 0,zc 31 30,zf 32 9 31,zl 33 32,zk 34 .sub 33 1,zc 35 30,zf 36 9 35,zs 36 34] (zq [zt 37 4 3,zp (.store 4 (.t 2) (.t 37))] .ret))))),[.cell true 4 2]⟩
theorem Kh:cN Tryz.prog 210=some Mb:=by kernel_rfl
def OC:bV:=⟨70,zq [zo 2 (.new [zU 0,.str [],zI 0,zN])] (zq [zm 5 0,zc 6 5,zf 7 1 6,zt 8 6 7,zo 3 (.new [zU 0,.str [],zI 0,zI 0,zI 0,zI 0]),zp (.store 6 (.t 3) (.t 8))] (.seq (.block 0 (zq [zf 10 0 3,zl 11 10,zo 12 (.bin .eql (.t 11) (zu 1)),zm 9 12] (.cond (.t 9) (zq [zm 13 0,zx 14 74 [.t 13]] (zq [zf 15 2 3,zl 16 15,zo 17 (.build [zU 0,.str [],zI 0,zN] [(0,1,zu 1),(2,1,.t 16)]),zp (.store 4 (.t 2) (.t 17))] .ret)) (zq [zf 19 0 3,zl 20 19,zo 21 (.bin .eql (.t 20) (zu 2)),zm 18 21] (.cond (.t 18) (zq [zm 22 0,zx 23 74 [.t 22]] (zr [zm 24 0,zx 25 73 [.t 24,.c (.str [40])],zo 26 (.un .not (.t 25))] 26 (zq [zf 27 1 3,zl 28 27,zo 29 (.build [zU 0,.str [],zI 0,zN] [(0,1,zu 2),(1,1,.t 28)]),zp (.store 4 (.t 2) (.t 29))] .ret) .skip (zq [zm 30 0,zx 31 74 [.t 30]] (zq [zf 32 1 3,zl 33 32,zo 34 (.build [zU 0,.str [],zI 0,zN] [(0,1,zu 4),(1,1,.t 33)]),zo 4 (.new [zU 0,.str [],zI 0,zN]),zp (.store 4 (.t 4) (.t 34))] (.seq (.block 1 (.loop (zr [zm 35 0,zc 36 35,zf 37 7 36,zf 38 0 37,zl 39 38,zk 40 .eql 39 0,zm 41 40,zg 42 (.mv (.t 0)) 41 true,zg 43 (.call 73 [.t 42,.c (.str [41])]) 41 true,zg 44 (.un .not (.t 43)) 41 true,zo 45 (.pick (.t 41) (.t 44) (.c (.bool false)))] 45 .skip (.exit 1) (.block 2 (zr [zf 46 3 4,zl 47 46,zh 48 47,zk 49 .gtr 48 0] 49 (.reg [zm 50 0,zx 51 76 [.t 50,.c (.str [44])]]) .skip (.draw [zf 52 3 4,zl 53 52,zm 54 0,zx 55 77 [.t 54],zo 56 (.buildSl 1 [zU 0,.str [],zI 0,zN] [(0,4,.t 55)]),zo 57 (.append 4 56 (.t 53) (.t 56)),zf 58 3 4,zs 58 57] [[],[4,5],[],[],[],[],[],[]])))))) (zq [zm 59 0,zx 60 76 [.t 59,.c (.str [41])]] (zq [zt 61 4 4,zp (.store 4 (.t 2) (.t 61))] .ret))))))) (zq [zm 63 0,zx 64 73 [.t 63,.c (.str [40])],zm 62 64] (.cond (.t 62) (zq [zm 65 0,zx 66 78 [.t 65],zp (.store 4 (.t 2) (.t 66))] .ret) .skip))))))) (zq [zm 67 0,zx 68 80 [.t 67,zi 101]] (zq [zo 69 (.build [zU 0,.str [],zI 0,zN] []),zp (.store 4 (.t 2) (.t 69))] .ret)))),[.cell true 4 2]⟩
theorem M4:cN Tryz.prog 211=some OC:=by kernel_rfl
def c78:bV:=⟨11,zq [zo 2 (.new [zU 0,.str [],zI 0,zN])] (zq [zm 4 0,zx 5 76 [.t 4,.c (.str [40])]] (zq [zm 6 0,zx 7 77 [.t 6],zo 3 (.new [zU 0,.str [],zI 0,zN]),zp (.store 4 (.t 3) (.t 7))] (zq [zm 8 0,zx 9 76 [.t 8,.c (.str [41])]] (zq [zt 10 4 3,zp (.store 4 (.t 2) (.t 10))] .ret)))),[.cell true 4 2]⟩
theorem PM:cN Tryz.prog 78=some c78:=by kernel_rfl
def O0:bV:=⟨12,zq [zo 4 (.box (.t 1)),zo 5 (.box (.t 2)),zo 6 (.new [zU 0,.str [],zI 0,zN])] (zq [zm 7 0,zt 8 4 4,zt 9 4 5,zo 10 (.buildSl 2 [zU 0,.str [],zI 0,zN] [(0,4,.t 8),(4,4,.t 9)]),zo 11 (.build [zU 0,.str [],zI 0,zN] [(0,1,zu 3),(1,1,.t 7),(3,1,.t 10)]),zp (.store 4 (.t 6) (.t 11))] .ret),[.cell true 4 6]⟩
theorem NK:cN Tryz.prog 116=some O0:=by kernel_rfl
def c79:bV:=⟨25,zq [zo 2 (.mv zn)] (zq [zo 3 (.mv zn)] (zq [zm 4 0,zx 5 76 [.t 4,.c (.str [123])]] (.seq (.block 0 (.loop (zr [zm 6 0,zc 7 6,zf 8 7 7,zf 9 0 8,zl 10 9,zk 11 .eql 10 0,zm 12 11,zg 13 (.mv (.t 0)) 12 true,zg 14 (.call 73 [.t 13,.c (.str [125])]) 12 true,zg 15 (.un .not (.t 14)) 12 true,zo 16 (.pick (.t 12) (.t 15) (.c (.bool false)))] 16 .skip (.exit 0) (.block 1 (.reg [zm 17 3,zm 18 0,zx 19 34 [.t 18],zo 20 (.buildSl 1 [zU 0,.str [],zU 0,.str [],zI 0,zN,zN,zN,zI 0] [(0,9,.t 19)]),zo 21 (.append 9 136 (.t 17) (.t 20)),zm 3 21]))))) (zq [zm 22 0,zx 23 76 [.t 22,.c (.str [125])]] (zq [zm 24 3,zm 2 24] .ret))))),[.t 2]⟩
theorem PL:cN Tryz.prog 79=some c79:=by kernel_rfl
def c35:bV:=⟨16,zq [zo 2 (.mv (.c (.bool false)))] (zq [zm 6 0,zx 7 81 [.t 6,zi 41],zm 5 7,ze 8 0 5,ze 9 1 5,zm 3 8,zm 4 9] (zq [zm 10 3,zk 11 .leq 10 1000,zm 12 11,zg 13 (.mv (.t 4)) 12 true,zg 14 (.bin .leq (.t 13) (zi 40)) 12 true,zo 15 (.pick (.t 12) (.t 14) (.c (.bool false))),zm 2 15] .ret)),[.t 2]⟩
theorem P9:cN Tryz.prog 35=some c35:=by kernel_rfl
def OA:bV:=⟨80,zq [zo 4 (.mv (zi 0)),zo 5 (.mv (zi 0))] (zr [zm 11 0,zh 12 11,zk 13 .eql 12 0,zm 14 13,zg 15 (.mv (.t 1)) 14 false,zg 16 (.bin .lss (.t 15) (zi 1)) 14 false,zo 17 (.pick (.t 14) (.c (.bool true)) (.t 16))] 17 (zq [zo 4 (.mv (zi 0)),zo 5 (.mv (zi 0))] .ret) .skip (zq [zm 18 0,zh 19 18,zm 6 19,zo 7 (.mv (zi 0))] (.seq (zq [zo 8 (.mv (zi 0))] (.block 0 (.loop (zr [zm 20 8,zm 21 0,zh 22 21,zb 23 .lss 20 22] 23 .skip (.exit 0) (.seq (.block 1 (zq [zm 27 0,zm 28 8,zo 29 (.idxA 9 (.t 27) (.t 28)),zf 30 2 29,zt 31 4 30,zm 32 1,zk 33 .sub 32 1,zx 34 117 [.t 31,.t 33],zm 26 34,ze 35 0 26,ze 36 1 26,zm 9 35,zm 10 36] (zq [zm 37 6,zm 38 9,zb 39 .add 37 38,zm 40 7,zm 41 10,zo 42 (.pf (.mm true) [.t 40,.t 41]),zm 6 39,zm 7 42] (zq [zm 44 0,zm 45 8,zo 46 (.idxA 9 (.t 44) (.t 45)),zf 47 6 46,zl 48 47,zm 49 1,zk 50 .sub 49 1,zx 51 81 [.t 48,.t 50],zm 43 51,ze 52 0 43,ze 53 1 43,zm 9 52,zm 10 53] (zq [zm 54 6,zm 55 9,zb 56 .add 54 55,zm 57 7,zm 58 10,zo 59 (.pf (.mm true) [.t 57,.t 58]),zm 6 56,zm 7 59] (zq [zm 61 0,zm 62 8,zo 63 (.idxA 9 (.t 61) (.t 62)),zf 64 7 63,zl 65 64,zm 66 1,zk 67 .sub 66 1,zx 68 81 [.t 65,.t 67],zm 60 68,ze 69 0 60,ze 70 1 60,zm 9 69,zm 10 70] (.reg [zm 71 6,zm 72 9,zb 73 .add 71 72,zm 74 7,zm 75 10,zo 76 (.pf (.mm true) [.t 74,.t 75]),zm 6 73,zm 7 76]))))))) (.reg [zm 24 8,zk 25 .add 24 1,zm 8 25])))))) (zq [zm 77 6,zm 78 7,zk 79 .add 78 1,zm 4 77,zm 5 79] .ret)))),[.t 4,.t 5]⟩
theorem MY:cN Tryz.prog 81=some OA:=by kernel_rfl
def Mm:bV:=⟨40,zq [zo 2 (.box (.t 0)),zo 4 (.mv (zi 0)),zo 5 (.mv (zi 0))] (zr [zm 11 1,zk 12 .lss 11 1] 12 (zq [zo 4 (.mv (zi 0)),zo 5 (.mv (zi 0))] .ret) .skip (zq [zo 6 (.mv (zi 1)),zo 7 (.mv (zi 0))] (.seq (zq [zo 8 (.mv (zi 0))] (.block 0 (.loop (zr [zm 13 8,zf 14 3 2,zl 15 14,zh 16 15,zb 17 .lss 13 16] 17 .skip (.exit 0) (.seq (.block 1 (zq [zf 21 3 2,zl 22 21,zm 23 8,zo 24 (.idxA 4 (.t 22) (.t 23)),zt 25 4 24,zm 26 1,zk 27 .sub 26 1,zx 28 117 [.t 25,.t 27],zm 20 28,ze 29 0 20,ze 30 1 20,zm 9 29,zm 10 30] (.reg [zm 31 6,zm 32 9,zb 33 .add 31 32,zm 34 7,zm 35 10,zo 36 (.pf (.mm true) [.t 34,.t 35]),zm 6 33,zm 7 36]))) (.reg [zm 18 8,zk 19 .add 18 1,zm 8 19])))))) (zq [zm 37 6,zm 38 7,zk 39 .add 38 1,zm 4 37,zm 5 39] .ret)))),[.t 4,.t 5]⟩
theorem NJ:cN Tryz.prog 117=some Mm:=by kernel_rfl
def c13:bV:=⟨14,zq [zo 2 (.mv (.c (.str []))),zo 3 (.mv (zi 0))] (zr [zm 5 0,zx 6 16 [.t 5],zo 7 (.un .not (.t 6))] 7 (zq [zo 2 (.mv (.c (.str []))),zo 3 (.mv (zi 103))] .ret) .skip (zq [zm 8 0,zx 9 38 [.t 8,.c (.str [])],zm 4 9] (zr [zm 10 4,zo 11 (.len true (.t 10)),zk 12 .gtr 11 16384] 12 (zq [zo 2 (.mv (.c (.str []))),zo 3 (.mv (zi 3))] .ret) .skip (zq [zm 13 4,zm 2 13,zo 3 (.mv (zi 0))] .ret)))),[.t 2,.t 3]⟩
theorem Qi:cN Tryz.prog 13=some c13:=by kernel_rfl
def c16:bV:=⟨9,zq [zo 2 (.mv (.c (.bool false)))] (zq [zm 3 0,zx 4 35 [.t 3],zm 5 4,zg 6 (.mv (.t 0)) 5 true,zg 7 (.call 41 [.t 6]) 5 true,zo 8 (.pick (.t 5) (.t 7) (.c (.bool false))),zm 2 8] .ret),[.t 2]⟩
theorem Qg:cN Tryz.prog 16=some c16:=by kernel_rfl
def QB:bV:=⟨89,zq [zo 2 (.mv (.c (.bool false)))] (.seq (zq [zo 3 (.mv (zi 0))] (.block 0 (.loop (zr [zm 6 3,zm 7 0,zh 8 7,zb 9 .lss 6 8] 9 .skip (.exit 0) (.seq (.block 1 (zq [zm 12 0,zm 13 3,zo 14 (.idxA 9 (.t 12) (.t 13)),zt 15 9 14,zo 4 (.new [zU 0,.str [],zU 0,.str [],zI 0,zN,zN,zN,zI 0]),zp (.store 9 (.t 4) (.t 15))] (zq [zf 16 0 4,zl 17 16,zo 18 (.bin .eql (.t 17) (zu 1)),zm 19 18,zg 20 (.fieldA 0 (.t 4)) 19 false,zg 21 (.load false 1 (.t 20)) 19 false,zg 22 (.bin .eql (.t 21) (zu 2)) 19 false,zo 23 (.pick (.t 19) (.c (.bool true)) (.t 22)),zm 5 23] (zr [zm 24 5,zf 25 1 4,zl 26 25,zx 27 85 [.t 26],zo 28 (.pf (.eqv true .bool) [.t 24,.t 27]),zm 29 28,zg 30 (.mv (.t 5)) 29 false,zg 31 (.un .not (.t 30)) 29 false,zg 32 (.mv (.t 31)) 29 false,zg 33 (.fieldA 1 (.t 4)) 32 true,zg 34 (.load false 1 (.t 33)) 32 true,zg 35 (.bin .neq (.t 34) (.c (.str []))) 32 true,zg 36 (.pick (.t 32) (.t 35) (.c (.bool false))) 29 false,zo 37 (.pick (.t 29) (.c (.bool true)) (.t 36)),zm 38 37,zg 39 (.fieldA 0 (.t 4)) 38 false,zg 40 (.load false 1 (.t 39)) 38 false,zg 41 (.bin .lss (.t 40) (zu 1)) 38 false,zo 42 (.pick (.t 38) (.c (.bool true)) (.t 41)),zm 43 42,zg 44 (.fieldA 0 (.t 4)) 43 false,zg 45 (.load false 1 (.t 44)) 43 false,zg 46 (.bin .gtr (.t 45) (zu 5)) 43 false,zo 47 (.pick (.t 43) (.c (.bool true)) (.t 46)),zm 48 47,zg 49 (.fieldA 2 (.t 4)) 48 false,zg 50 (.load true 4 (.t 49)) 48 false,zg 51 (.call 86 [.t 50]) 48 false,zg 52 (.un .not (.t 51)) 48 false,zo 53 (.pick (.t 48) (.c (.bool true)) (.t 52))] 53 (zq [zo 2 (.mv (.c (.bool false)))] .ret) .skip (zr [zf 54 7 4,zl 55 54,zh 56 55,zk 57 .gtr 56 0,zm 58 57,zg 59 (.fieldA 0 (.t 4)) 58 true,zg 60 (.load false 1 (.t 59)) 58 true,zg 61 (.bin .neq (.t 60) (zu 3)) 58 true,zo 62 (.pick (.t 58) (.t 61) (.c (.bool false))),zm 63 62,zg 64 (.fieldA 6 (.t 4)) 63 false,zg 65 (.load false 1 (.t 64)) 63 false,zg 66 (.len false (.t 65)) 63 false,zg 67 (.bin .gtr (.t 66) (zi 0)) 63 false,zg 68 (.mv (.t 67)) 63 false,zg 69 (.fieldA 0 (.t 4)) 68 true,zg 70 (.load false 1 (.t 69)) 68 true,zg 71 (.bin .neq (.t 70) (zu 3)) 68 true,zg 72 (.pick (.t 68) (.t 71) (.c (.bool false))) 63 false,zg 73 (.mv (.t 72)) 63 false,zg 74 (.fieldA 0 (.t 4)) 73 true,zg 75 (.load false 1 (.t 74)) 73 true,zg 76 (.bin .neq (.t 75) (zu 4)) 73 true,zg 77 (.pick (.t 73) (.t 76) (.c (.bool false))) 63 false,zo 78 (.pick (.t 63) (.c (.bool true)) (.t 77))] 78 (zq [zo 2 (.mv (.c (.bool false)))] .ret) .skip (zq [zf 79 6 4,zl 80 79,zx 81 41 [.t 80],zo 82 (.un .not (.t 81)),zm 83 82,zg 84 (.fieldA 7 (.t 4)) 83 false,zg 85 (.load false 1 (.t 84)) 83 false,zg 86 (.call 41 [.t 85]) 83 false,zg 87 (.un .not (.t 86)) 83 false,zo 88 (.pick (.t 83) (.c (.bool true)) (.t 87))] (.cond (.t 88) (zq [zo 2 (.mv (.c (.bool false)))] .ret) .skip))))))) (.reg [zm 10 3,zk 11 .add 10 1,zm 3 11])))))) (zq [zo 2 (.mv (.c (.bool true)))] .ret)),[.t 2]⟩
theorem M1:cN Tryz.prog 41=some QB:=by kernel_rfl
def c85:bV:=⟨30,zq [zo 2 (.mv (.c (.bool false)))] (zq [zm 6 0,zx 7 71 [.t 6,zi 0],zm 5 7,ze 8 0 5,ze 9 1 5,zo 3 (.new [zU 0,.str [],zI 0,zI 0,zI 0,zI 0]),zo 4 (.new [zI 0,zI 0]),zp (.store 6 (.t 3) (.t 8)),zp (.store 2 (.t 4) (.t 9))] (zq [zf 10 0 4,zl 11 10,zk 12 .eql 11 0,zm 13 12,zg 14 (.fieldA 0 (.t 3)) 13 true,zg 15 (.load false 1 (.t 14)) 13 true,zg 16 (.bin .eql (.t 15) (zu 2)) 13 true,zo 17 (.pick (.t 13) (.t 16) (.c (.bool false))),zm 18 17,zg 19 (.fieldA 4 (.t 3)) 18 true,zg 20 (.load false 1 (.t 19)) 18 true,zg 21 (.bin .eql (.t 20) (zi 0)) 18 true,zo 22 (.pick (.t 18) (.t 21) (.c (.bool false))),zm 23 22,zg 24 (.fieldA 5 (.t 3)) 23 true,zg 25 (.load false 1 (.t 24)) 23 true,zg 26 (.mv (.t 0)) 23 true,zg 27 (.len true (.t 26)) 23 true,zg 28 (.bin .eql (.t 25) (.t 27)) 23 true,zo 29 (.pick (.t 23) (.t 28) (.c (.bool false))),zm 2 29] .ret)),[.t 2]⟩
theorem PG:cN Tryz.prog 85=some c85:=by kernel_rfl
def c86:bV:=⟨91,zq [zo 1 (.box (.t 0)),zo 2 (.mv (.c (.bool false)))] (.seq (zq [zo 3 (.mv (zi 0))] (.block 0 (.loop (zr [zm 4 3,zf 5 3 1,zl 6 5,zh 7 6,zb 8 .lss 4 7] 8 .skip (.exit 0) (.seq (.block 1 (zq [zf 11 3 1,zl 12 11,zm 13 3,zo 14 (.idxA 4 (.t 12) (.t 13)),zt 15 4 14,zx 16 86 [.t 15],zo 17 (.un .not (.t 16))] (.cond (.t 17) (zq [zo 2 (.mv (.c (.bool false)))] .ret) .skip))) (.reg [zm 9 3,zk 10 .add 9 1,zm 3 10])))))) (.seq (zq [zf 18 0 1,zl 19 18] (.block 2 (zq [zo 21 (.bin .eql (.t 19) (zu 1)),zm 20 21] (.cond (.t 20) (zq [zf 22 2 1,zl 23 22,zk 24 .geq 23 0,zm 25 24,zg 26 (.fieldA 1 (.t 1)) 25 true,zg 27 (.load false 1 (.t 26)) 25 true,zg 28 (.bin .eql (.t 27) (.c (.str []))) 25 true,zo 29 (.pick (.t 25) (.t 28) (.c (.bool false))),zm 30 29,zg 31 (.fieldA 3 (.t 1)) 30 true,zg 32 (.load false 1 (.t 31)) 30 true,zg 33 (.len false (.t 32)) 30 true,zg 34 (.bin .eql (.t 33) (zi 0)) 30 true,zo 35 (.pick (.t 30) (.t 34) (.c (.bool false))),zm 2 35] .ret) (zq [zo 37 (.bin .eql (.t 19) (zu 2)),zm 36 37] (.cond (.t 36) (zq [zf 38 2 1,zl 39 38,zk 40 .eql 39 0,zm 41 40,zg 42 (.fieldA 1 (.t 1)) 41 true,zg 43 (.load false 1 (.t 42)) 41 true,zg 44 (.call 85 [.t 43]) 41 true,zo 45 (.pick (.t 41) (.t 44) (.c (.bool false))),zm 46 45,zg 47 (.fieldA 3 (.t 1)) 46 true,zg 48 (.load false 1 (.t 47)) 46 true,zg 49 (.len false (.t 48)) 46 true,zg 50 (.bin .eql (.t 49) (zi 0)) 46 true,zo 51 (.pick (.t 46) (.t 50) (.c (.bool false))),zm 2 51] .ret) (zq [zo 53 (.bin .eql (.t 19) (zu 3)),zm 52 53] (.cond (.t 52) (zq [zf 54 2 1,zl 55 54,zk 56 .eql 55 0,zm 57 56,zg 58 (.fieldA 3 (.t 1)) 57 true,zg 59 (.load false 1 (.t 58)) 57 true,zg 60 (.len false (.t 59)) 57 true,zg 61 (.bin .eql (.t 60) (zi 2)) 57 true,zg 62 (.mv (.t 61)) 57 true,zg 63 (.fieldA 1 (.t 1)) 62 true,zg 64 (.load false 1 (.t 63)) 62 true,zg 65 (.buildSl 12 [.str []] [(0,1,.c (.str [124,124])),(1,1,.c (.str [38,38])),(2,1,.c (.str [61,61])),(3,1,.c (.str [33,61])),(4,1,.c (.str [60,61])),(5,1,.c (.str [62,61])),(6,1,.c (.str [60])),(7,1,.c (.str [62])),(8,1,.c (.str [43])),(9,1,.c (.str [45])),(10,1,.c (.str [42])),(11,1,.c (.str [47]))]) 62 true,zg 66 (.call 126 [.t 64,.t 65]) 62 true,zg 67 (.pick (.t 62) (.t 66) (.c (.bool false))) 57 true,zg 68 (.mv (.t 67)) 57 true,zg 69 (.fieldA 3 (.t 1)) 68 false,zg 70 (.load false 1 (.t 69)) 68 false,zg 71 (.len false (.t 70)) 68 false,zg 72 (.bin .eql (.t 71) (zi 1)) 68 false,zg 73 (.mv (.t 72)) 68 false,zg 74 (.fieldA 1 (.t 1)) 73 true,zg 75 (.load false 1 (.t 74)) 73 true,zg 76 (.buildSl 2 [.str []] [(0,1,.c (.str [45])),(1,1,.c (.str [33]))]) 73 true,zg 77 (.call 126 [.t 75,.t 76]) 73 true,zg 78 (.pick (.t 73) (.t 77) (.c (.bool false))) 68 false,zg 79 (.pick (.t 68) (.c (.bool true)) (.t 78)) 57 true,zo 80 (.pick (.t 57) (.t 79) (.c (.bool false))),zm 2 80] .ret) (zq [zo 82 (.bin .eql (.t 19) (zu 4)),zm 81 82] (.cond (.t 81) (zq [zf 83 2 1,zl 84 83,zk 85 .eql 84 0,zm 86 85,zg 87 (.fieldA 1 (.t 1)) 86 true,zg 88 (.load false 1 (.t 87)) 86 true,zg 89 (.call 85 [.t 88]) 86 true,zo 90 (.pick (.t 86) (.t 89) (.c (.bool false))),zm 2 90] .ret) .skip)))))))))) (zq [zo 2 (.mv (.c (.bool false)))] .ret))),[.t 2]⟩
theorem PE:cN Tryz.prog 86=some c86:=by kernel_rfl
def OV:bV:=⟨18,zq [zo 4 (.mv (.c (.bool false)))] (.seq (zq [zo 5 (.mv (zi 0))] (.block 0 (.loop (zr [zm 6 5,zm 7 1,zh 8 7,zb 9 .lss 6 8] 9 .skip (.exit 0) (.seq (.block 1 (zq [zm 12 1,zm 13 5,zd 14 12 13,zl 15 14,zm 16 0,zb 17 .eql 15 16] (.cond (.t 17) (zq [zo 4 (.mv (.c (.bool true)))] .ret) .skip))) (.reg [zm 10 5,zk 11 .add 10 1,zm 5 11])))))) (zq [zo 4 (.mv (.c (.bool false)))] .ret)),[.t 4]⟩
theorem NA:cN Tryz.prog 126=some OV:=by kernel_rfl
def QC:bV:=⟨107,zq [zo 4 (.mv (.c (.str [])))] (zq [zo 5 (.mv (.c (.str [])))] (.seq (zq [zo 6 (.mv (zi 0))] (.block 0 (.loop (zr [zm 10 6,zm 11 0,zh 12 11,zb 13 .lss 10 12] 13 .skip (.exit 0) (.seq (.block 1 (zq [zm 16 0,zm 17 6,zo 18 (.idxA 9 (.t 16) (.t 17)),zt 19 9 18,zo 7 (.new [zU 0,.str [],zU 0,.str [],zI 0,zN,zN,zN,zI 0]),zp (.store 9 (.t 7) (.t 19))] (zq [zf 20 2 7,zt 21 4 20,zx 22 83 [.t 21],zm 8 22] (zq [zf 23 6 7,zl 24 23,zm 25 1,zo 26 (.bin .add (.t 25) (.c (.str [9]))),zx 27 38 [.t 24,.t 26],zo 28 (.bin .add (.c (.str [32,123,10])) (.t 27)),zm 29 1,zb 30 .add 28 29,zo 31 (.bin .add (.t 30) (.c (.str [125]))),zm 9 31] (zq [zf 32 0 7,zl 33 32] (.block 2 (zq [zo 42 (.bin .eql (.t 33) (zu 1)),zm 41 42] (.cond (.t 41) (.reg [zm 43 5,zm 44 1,zb 45 .add 43 44,zo 46 (.bin .add (.t 45) (.c (.str [108,101,116,32]))),zf 47 1 7,zl 48 47,zb 49 .add 46 48,zo 50 (.bin .add (.t 49) (.c (.str [32,61,32]))),zm 51 8,zb 52 .add 50 51,zo 53 (.bin .add (.t 52) (.c (.str [59,10]))),zm 5 53]) (zq [zo 55 (.bin .eql (.t 33) (zu 2)),zm 54 55] (.cond (.t 54) (.reg [zm 56 5,zm 57 1,zb 58 .add 56 57,zo 59 (.bin .add (.t 58) (.c (.str [115,101,116,32]))),zf 60 1 7,zl 61 60,zb 62 .add 59 61,zo 63 (.bin .add (.t 62) (.c (.str [32,61,32]))),zm 64 8,zb 65 .add 63 64,zo 66 (.bin .add (.t 65) (.c (.str [59,10]))),zm 5 66]) (zq [zo 68 (.bin .eql (.t 33) (zu 3)),zm 67 68] (.cond (.t 67) (zr [zf 69 7 7,zl 70 69,zh 71 70,zk 72 .gtr 71 0] 72 (.reg [zm 73 9,zo 74 (.bin .add (.t 73) (.c (.str [32,101,108,115,101,32,123,10]))),zf 75 7 7,zl 76 75,zm 77 1,zo 78 (.bin .add (.t 77) (.c (.str [9]))),zx 79 38 [.t 76,.t 78],zb 80 .add 74 79,zm 81 1,zb 82 .add 80 81,zo 83 (.bin .add (.t 82) (.c (.str [125]))),zm 9 83]) .skip (.reg [zm 84 5,zm 85 1,zb 86 .add 84 85,zo 87 (.bin .add (.t 86) (.c (.str [105,102,32,40]))),zm 88 8,zb 89 .add 87 88,zo 90 (.bin .add (.t 89) (.c (.str [41]))),zm 91 9,zb 92 .add 90 91,zo 93 (.bin .add (.t 92) (.c (.str [10]))),zm 5 93])) (zq [zo 95 (.bin .eql (.t 33) (zu 4)),zm 94 95] (.cond (.t 94) (.reg [zm 96 5,zm 97 1,zb 98 .add 96 97,zo 99 (.bin .add (.t 98) (.c (.str [119,104,105,108,101,32,40]))),zm 100 8,zb 101 .add 99 100,zo 102 (.bin .add (.t 101) (.c (.str [41]))),zm 103 9,zb 104 .add 102 103,zo 105 (.bin .add (.t 104) (.c (.str [10]))),zm 5 105]) (.reg [zm 34 5,zm 35 1,zb 36 .add 34 35,zo 37 (.bin .add (.t 36) (.c (.str [114,101,116,117,114,110,32]))),zm 38 8,zb 39 .add 37 38,zo 40 (.bin .add (.t 39) (.c (.str [59,10]))),zm 5 40]))))))))))))))) (.reg [zm 14 6,zk 15 .add 14 1,zm 6 15])))))) (zq [zm 106 5,zm 4 106] .ret))),[.t 4]⟩
theorem M2:cN Tryz.prog 38=some QC:=by kernel_rfl
def c83:bV:=⟨71,zq [zo 1 (.box (.t 0)),zo 2 (.mv (.c (.str [])))] (.seq (zq [zf 5 0 1,zl 6 5] (.block 0 (zq [zo 8 (.bin .eql (.t 6) (zu 1)),zm 7 8] (.cond (.t 7) (zq [zf 9 2 1,zl 10 9,zx 11 121 [.t 10],zm 2 11] .ret) (zq [zo 13 (.bin .eql (.t 6) (zu 2)),zm 12 13] (.cond (.t 12) (zq [zf 14 1 1,zl 15 14,zm 2 15] .ret) (zq [zo 17 (.bin .eql (.t 6) (zu 3)),zm 16 17] (.cond (.t 16) (zr [zf 18 3 1,zl 19 18,zh 20 19,zk 21 .eql 20 1] 21 (.seq (.draw [zf 22 1 1,zl 23 22,zo 24 (.bin .add (.t 23) (.c (.str [32]))),zf 25 3 1,zl 26 25,zo 27 (.idxA 4 (.t 26) (zi 0)),zt 28 4 27,zx 29 122 [.t 28],zb 30 .add 24 29,zm 2 30] [[],[10],[],[],[],[],[],[],[],[]]) .ret) .skip (.seq (.draw [zf 31 3 1,zl 32 31,zo 33 (.idxA 4 (.t 32) (zi 0)),zt 34 4 33,zx 35 122 [.t 34],zo 36 (.bin .add (.t 35) (.c (.str [32]))),zf 37 1 1,zl 38 37,zb 39 .add 36 38,zo 40 (.bin .add (.t 39) (.c (.str [32]))),zf 41 3 1,zl 42 41,zo 43 (.idxA 4 (.t 42) (zi 1)),zt 44 4 43,zx 45 122 [.t 44],zb 46 .add 40 45,zm 2 46] [[],[],[],[],[],[],[],[4,17],[],[],[],[4],[],[4],[],[],[]]) .ret)) .skip)))))))) (zq [zf 47 1 1,zl 48 47,zo 49 (.bin .add (.t 48) (.c (.str [40]))),zm 3 49] (.seq (zq [zo 4 (.mv (zi 0))] (.block 1 (.loop (zr [zm 50 4,zf 51 3 1,zl 52 51,zh 53 52,zb 54 .lss 50 53] 54 .skip (.exit 1) (.seq (.block 2 (zr [zm 57 4,zk 58 .gtr 57 0] 58 (.reg [zm 59 3,zo 60 (.bin .add (.t 59) (.c (.str [44,32]))),zm 3 60]) .skip (.reg [zm 61 3,zf 62 3 1,zl 63 62,zm 64 4,zo 65 (.idxA 4 (.t 63) (.t 64)),zt 66 4 65,zx 67 122 [.t 66],zb 68 .add 61 67,zm 3 68]))) (.reg [zm 55 4,zk 56 .add 55 1,zm 4 56])))))) (zq [zm 69 3,zo 70 (.bin .add (.t 69) (.c (.str [41]))),zm 2 70] .ret)))),[.t 2]⟩
theorem PI:cN Tryz.prog 83=some c83:=by kernel_rfl
def Ml:bV:=⟨12,zq [zo 1 (.box (.t 0)),zo 2 (.mv (.c (.str [])))] (zr [zf 3 0 1,zl 4 3,zo 5 (.bin .eql (.t 4) (zu 3))] 5 (zq [zt 6 4 1,zx 7 83 [.t 6],zo 8 (.bin .add (.c (.str [40])) (.t 7)),zo 9 (.bin .add (.t 8) (.c (.str [41]))),zm 2 9] .ret) .skip (zq [zt 10 4 1,zx 11 83 [.t 10],zm 2 11] .ret)),[.t 2]⟩
theorem NE:cN Tryz.prog 122=some Ml:=by kernel_rfl
end
open Go.Abs Go.Abs.S
abbrev W0:Wd:=⟨0,[],0,0,0,0⟩
def gL(s:Bs)(w:Wd)(e l d:Int):List ab:=.str s::(fx w.k w.S w.n w.line w.at_ w.en++[.int .i64 e,.int .i64 l,.int .i64 d])
def fA(rb:Nat)(s:Bs)(H:aa)(o:Except gB Wd)(d:Nat):Prop:=match o with
 | .ok w=>aT H rb (gL s w 0 0 d)
 | .error e=>aT H rb (gL s W0 e.1 e.2 d)/\e.1≠0
theorem fA.same{rb:Nat}{s:Bs}{H H':aa}{o:Except gB Wd}{d:Nat}(h:fA rb s H o d)(e:H'.get rb=H.get rb):fA rb s H' o d:=by
 cases o with
 | ok w=>exact aT.same h e
 | error f=>exact⟨aT.same h.1 e,h.2⟩
def Oh(s:Bs)(o:Except gB Wd)(p:Nat):Except gB Wd:=match o with
 | .ok _=>cW s p
 | .error e=>.error e
def kV(s:Bs)(o:Except gB Wd):Except gB Wd:=match o with
 | .ok w=>bC s w
 | .error e=>.error e
def CF(o:Except gB Wd)(c:Nat):Except gB Wd:=match o with
 | .ok w=>.error (c,w.line)
 | .error e=>.error e
def jV(w:Wd)(t:Bs):Bool:=(Nat.beq w.k 4||Nat.beq w.k 3)&&decide (w.S=t)
def gd(o:Except gB Wd)(t:Bs):Bool:=match o with
 | .ok w=>jV w t
 | .error _=>false
def oQ(s:Bs)(o:Except gB Wd)(t:Bs):Except gB Wd:=if gd o t then kV s o else CF o 101
def oW:Except gB Wd->Wd
 | .ok w=>w
 | .error _=>W0
theorem fA.cells{rb:Nat}{s:Bs}{H:aa}{o:Except gB Wd}{d:Nat}(h:fA rb s H o d):∃e l:Int,aT H rb (gL s (oW o) e l d)/\(e=0↔∃w,o=.ok w):=by
 cases o with
 | ok w=>exact⟨0,0,h,by simp⟩
 | error f=>exact⟨f.1,f.2,h.1,by have:=h.2; simp; omega⟩
theorem rV{rb:Nat}{s:Bs}{H:aa}{o:Except gB Wd}{d:Nat}(h:fA rb s H o d)(hrb:rb<H.next){p:Nat}(hp:p<=1000000) :
  aq Tryz.prog aA 33 [ae rb 10 0,.int .i64 (p:Int)] H fun _ H'=>fA rb s H' (Oh s o p) d/\Fp rb H H':=by
 refine af rfl Qb rfl ?_
 cases o with
 | error e=>
  obtain⟨hr,he⟩:=h
  have l7:am false 1 H (ae rb 10 7)=some (.int .i64 (e.1:Int)):=ah hr rfl rfl
  have he':¬(e.1:Int)=0:=om
  simp only[QD,sA,sB,seval,aw,aB,fld0,l7,he']
  exact⟨[],rfl,⟨hr,he⟩,Fp.refl _ _⟩
 | ok w=>
  have hr:aT H rb (gL s w 0 0 d):=h
  have l7:am false 1 H (ae rb 10 7)=some (.int .i64 0):=ah hr rfl rfl
  have l0:am false 1 H (ae rb 10 0)=some (.str s):=ah hr rfl rfl
  simp only[QD,sA,sB,seval,aw,aB,fld0,l7,l0]
  refine (rX Gu (s:=s) (p:=(p:Int)) om om).mono ?_
  rintro _ H1 ⟨rfl,E1⟩
  have e1:=E1.next
  have r1:=hr.same (E1.old rb hrb)
  obtain⟨H2,m2,r2,n2,k2⟩:=au H1 [.int .u8 0,.str [],.int .i64 0,.int .i64 0,.int .i64 0,.int .i64 0] (n:=6) rfl
  obtain⟨H3,m3,r3,n3,k3⟩:=au H2 [.int .i64 0,.int .i64 0] (n:=2) rfl
  have key:∀(w':Wd) (f:gB),fm s (p:Int)=dg (fx w'.k w'.S w'.n w'.line w'.at_ w'.en) (dQ f.1 f.2)->fA rb s=fA rb s->∃H4 H5 H6 H7,a8 6 H3 (ae H1.next 6 0) (.agg (fx w'.k w'.S w'.n w'.line w'.at_ w'.en))=some H4/\a8 2 H4 (ae H2.next 2 0) (.agg (dQ f.1 f.2))=some H5/\am true 6 H5 (ae H1.next 6 0)=some (.agg (fx w'.k w'.S w'.n w'.line w'.at_ w'.en))/\am true 2 H5 (ae H2.next 2 0)=some (.agg (dQ f.1 f.2))/\a8 6 H5 (ae rb 10 1) (.agg (fx w'.k w'.S w'.n w'.line w'.at_ w'.en))=some H6/\a8 2 H6 (ae rb 10 7) (.agg (dQ f.1 f.2))=some H7/\am true 2 H7 (ae H2.next 2 0)=some (.agg (dQ f.1 f.2))/\am true 2 H6 (ae H2.next 2 0)=some (.agg (dQ f.1 f.2))/\aT H7 rb (gL s w' f.1 f.2 d)/\Fp rb H H7:=by
   intro w' f hA _
   obtain⟨H4,m4,r4,n4,k4⟩:=aj (H:=H3) (r2.same (k3 _ om)) (n:=6) rfl (xs:=fx w'.k w'.S w'.n w'.line w'.at_ w'.en) rfl rfl
   obtain⟨H5,m5,r5,n5,k5⟩:=aj (H:=H4) (r3.same (k4 _ om)) (n:=2) rfl (xs:=dQ f.1 f.2) rfl rfl
   obtain⟨H6,m6,r6,n6,k6⟩:=gn (H:=H5) (r1.same (by rw[k5 _ om,k4 _ om,k3 _ om,k2 _ om])) (n:=10) rfl (i:=1) (k:=6) om (xs:=fx w'.k w'.S w'.n w'.line w'.at_ w'.en) rfl rfl (l':=gL s w' 0 0 d) rfl
   obtain⟨H7,m7,r7,n7,k7⟩:=gn (H:=H6) r6 (n:=10) rfl (i:=7) (k:=2) om (xs:=dQ f.1 f.2) rfl rfl (l':=gL s w' f.1 f.2 d) rfl
   refine⟨H4,H5,H6,H7,m4,m5,al (r4.same (k5 _ om)) rfl,al r5 rfl,m6,m7,al (r5.same (by rw[k7 _ om,k6 _ om])) rfl,al (r5.same (k6 _ om)) rfl,r7,om,fun c hc hp=>by rw[k7 c hp,k6 c hp,k5 c om,k4 c om,k3 c om,k2 c om,E1.old c hc]⟩
  have two:∀a b:Int,aeq (.agg [.int .i64 a,.int .i64 b]) (.agg [.int .i64 a,.int .i64 b])=true:=wW
  cases hn:cW s p with
  | ok w'=>
   obtain⟨H4,H5,H6,H7,m4,m5,l4,l5,m6,m7,l57,l56,r7,F7⟩:=key w' (0,0) (lM hn) rfl
   rw[lM hn]
   simp only[dg,sA,sB,seval,b9,b7,m2,m3,m4,m5]
   refine cr rfl ?_
   simp only[sR,sA,sB,seval,l4,l5,aw,aB,m6,m7]
   simp only[cw,cx,bR,cy,db,and_true,true_and,List.map_cons,List.map_nil,sA,sB,seval]
   refine⟨⟨_,rfl,fun _=>⟨_,by first | exact l57 | exact l56,two _ _⟩⟩,[],rfl,?_,F7⟩
   show fA rb s H7 (cW s p) d
   rw[hn]; exact r7
  | error e=>
   obtain⟨w0,hw0⟩:∃w0,w0=W0:=⟨_,rfl⟩
   have hb:fm s (p:Int)=dg (fx w0.k w0.S w0.n w0.line w0.at_ w0.en) (dQ e.1 e.2):=by subst hw0; exact mQ hn
   obtain⟨H4,H5,H6,H7,m4,m5,l4,l5,m6,m7,l57,l56,r7,F7⟩:=key w0 e hb rfl
   rw[hb]
   simp only[dg,sA,sB,seval,b9,b7,m2,m3,m4,m5]
   refine cr rfl ?_
   simp only[sR,sA,sB,seval,l4,l5,aw,aB,m6,m7]
   simp only[cw,cx,bR,cy,db,and_true,true_and,List.map_cons,List.map_nil,sA,sB,seval]
   refine⟨⟨_,rfl,fun _=>⟨_,by first | exact l57 | exact l56,two _ _⟩⟩,[],rfl,?_,F7⟩
   show fA rb s H7 (cW s p) d
   subst hw0
   rw[hn]; exact⟨r7,mP hn⟩
theorem fA.en{rb:Nat}{s:Bs}{H:aa}{o:Except gB Wd}{d:Nat}(h:fA rb s H o d):am false 1 H (ae rb 10 6)=some (.int .i64 ((oW o).en:Int)):=by
 obtain⟨e,l,hr,_⟩:=h.cells
 exact ah hr rfl rfl
theorem bO{rb:Nat}{s:Bs}{H:aa}{o:Except gB Wd}{d:Nat}(h:fA rb s H o d)(hrb:rb<H.next)(hw:∀w,o=.ok w->w.en<=1000000) :
  aq Tryz.prog aA 74 [ae rb 10 0] H fun _ H'=>fA rb s H' (kV s o) d/\Fp rb H H':=by
 refine af rfl PP rfl ?_
 have l6:=h.en
 have hle:(oW o).en<=1000000:=by
  cases o with
  | ok w=>exact hw w rfl
  | error e=>exact Nat.zero_le _
 simp only[c74,sA,sB,seval,aw,aB,l6]
 refine (rV h hrb hle).mono ?_
 rintro _ H1 ⟨h1,F1⟩
 simp only[sA,sB,seval]
 refine⟨[],rfl,?_,F1⟩
 cases o with
 | ok w=>exact h1
 | error e=>exact h1
theorem i6{rb:Nat}{s:Bs}{H:aa}{o:Except gB Wd}{d:Nat}(h:fA rb s H o d){c:Nat}(hc:c≠0) :
  aq Tryz.prog aA 80 [ae rb 10 0,.int .i64 (c:Int)] H fun _ H'=>fA rb s H' (CF o c) d/\Fp rb H H'/\H'.next=H.next:=by
 refine af rfl PK rfl ?_
 cases o with
 | error e=>
  obtain⟨hr,he⟩:=h
  have l7:am false 1 H (ae rb 10 7)=some (.int .i64 (e.1:Int)):=ah hr rfl rfl
  have he':¬(e.1:Int)=0:=om
  simp only[Qu,sA,sB,seval,aw,aB,fld0,l7,he']
  exact⟨[],rfl,⟨hr,he⟩,Fp.refl _ _,rfl⟩
 | ok w=>
  have hr:aT H rb (gL s w 0 0 d):=h
  have l7:am false 1 H (ae rb 10 7)=some (.int .i64 0):=ah hr rfl rfl
  have l4:am false 1 H (ae rb 10 4)=some (.int .i64 (w.line:Int)):=ah hr rfl rfl
  have bf:bB [.int .i64 0,.int .i64 0] [(0,1,.int .i64 (c:Int)),(1,1,.int .i64 (w.line:Int))]=some (.agg (dQ c w.line)):=rfl
  have bw:bB [.int .u8 0,.str [],.int .i64 0,.int .i64 0,.int .i64 0,.int .i64 0] []=some (.agg (fx 0 [] 0 0 0 0)):=rfl
  obtain⟨H1,m1,r1,n1,k1⟩:=gn hr (n:=10) rfl (i:=7) (k:=2) om (xs:=dQ c w.line) rfl rfl (l':=gL s w c w.line d) rfl
  obtain⟨H2,m2,r2,n2,k2⟩:=gn r1 (n:=10) rfl (i:=1) (k:=6) om (xs:=fx 0 [] 0 0 0 0) rfl rfl (l':=gL s W0 c w.line d) rfl
  simp only[Qu,sA,sB,seval,aw,aB,fld0,l7,l4,bf,m1,bw,m2]
  exact⟨[],rfl,⟨r2,hc⟩,⟨om,fun b _ hb=>by rw[k2 b hb,k1 b hb]⟩,om⟩
theorem aJ{rb:Nat}{s:Bs}{H:aa}{o:Except gB Wd}{d:Nat}(h:fA rb s H o d)(t:Bs) :
  aq Tryz.prog aA 73 [ae rb 10 0,.str t] H fun u H'=>u=.bool (gd o t)/\H=H':=by
 refine af rfl PQ rfl ?_
 obtain⟨e,l,hr,_⟩:=h.cells
 have l1:am false 1 H (ae rb 10 1)=some (.int .u8 ((oW o).k:Int)):=ah hr rfl rfl
 have l2:am false 1 H (ae rb 10 2)=some (.str (oW o).S):=ah hr rfl rfl
 have hi:gd o t=jV (oW o) t:=by cases o <;> rfl
 rw[hi]
 generalize oW o=w at *
 by_cases k4:w.k=4
 ·have k4':(w.k:Int)=4:=om
  have e:jV w t=decide (w.S=t):=by simp only[jV,k4]; rfl
  simp only[Pu,sA,sB,seval,aw,aB,fld0,l1,k4',l2,e]
  exact⟨tt,tt⟩
 have k4':¬(w.k:Int)=4:=om
 by_cases k3:w.k=3
 ·have k3':(w.k:Int)=3:=om
  have e:jV w t=decide (w.S=t):=by simp only[jV,k3]; rfl
  simp only[Pu,sA,sB,seval,aw,aB,fld0,l1,k4',k3',l2,e]
  exact⟨tt,tt⟩
 have k3':¬(w.k:Int)=3:=om
 have e:jV w t=false:=by
  simp only[jV,show Nat.beq w.k 4=false by rw[bD]; exact decide_eq_false k4,show Nat.beq w.k 3=false by rw[bD]; exact decide_eq_false k3]; rfl
 simp only[Pu,sA,sB,seval,aw,aB,fld0,l1,k4',k3',e]
 exact⟨tt,tt⟩
theorem dj{rb:Nat}{s:Bs}{H:aa}{o:Except gB Wd}{d:Nat}(h:fA rb s H o d)(hrb:rb<H.next)(hw:∀w,o=.ok w->w.en<=1000000)(t:Bs) :
  aq Tryz.prog aA 76 [ae rb 10 0,.str t] H fun _ H'=>fA rb s H' (oQ s o t) d/\Fp rb H H':=by
 refine af rfl PN rfl ?_
 simp only[c76,sA,sB,seval]
 refine (aJ h t).mono ?_
 rintro _ _ ⟨rfl,rfl⟩
 unfold oQ
 cases hi:gd o t with
 | true=>
  simp only[sA,sB,seval]
  refine (bO h hrb hw).mono ?_
  rintro _ H1 ⟨h1,F1⟩
  simp only[sA,sB,seval]
  exact⟨[],rfl,h1,F1⟩
 | false=>
  simp only[sA,sB,seval]
  refine (i6 h (c:=101) om).mono ?_
  rintro _ H1 ⟨h1,F1,_⟩
  simp only[sA,sB,seval]
  exact⟨[],rfl,h1,F1⟩
def sw(s:Bs)(o:Except gB Wd):Except gB Wd:=if (oW o).k=2 then kV s o else CF o 101
theorem rY{rb:Nat}{s:Bs}{H:aa}{o:Except gB Wd}{d:Nat}(h:fA rb s H o d)(hrb:rb<H.next)(hw:∀w,o=.ok w->w.en<=1000000) :
  aq Tryz.prog aA 75 [ae rb 10 0] H fun u H'=>u=.str (if (oW o).k=2 then (oW o).S else [])/\fA rb s H' (sw s o) d/\Fp rb H H':=by
 refine af rfl PO rfl ?_
 obtain⟨e,l,hr,_⟩:=h.cells
 have l1:am false 1 H (ae rb 10 1)=some (.int .u8 ((oW o).k:Int)):=ah hr rfl rfl
 have l2:am false 1 H (ae rb 10 2)=some (.str (oW o).S):=ah hr rfl rfl
 unfold sw
 by_cases k2:(oW o).k=2
 ·have k2':((oW o).k:Int)=2:=om
  rw[if_pos k2]
  simp only[Qw,sA,sB,seval,aw,aB,fld0,l1,l2,k2']
  refine (bO h hrb hw).mono ?_
  rintro _ H1 ⟨h1,F1⟩
  simp only[sA,sB,seval,if_pos k2]
  exact⟨tt,h1,F1⟩
 ·have k2':¬((oW o).k:Int)=2:=om
  rw[if_neg k2]
  simp only[Qw,sA,sB,seval,aw,aB,fld0,l1,l2,k2']
  refine (i6 h (c:=101) om).mono ?_
  rintro _ H1 ⟨h1,F1,_⟩
  simp only[sA,sB,seval,if_neg k2]
  exact⟨tt,h1,F1⟩
theorem lG{rb:Nat}{s:Bs}{H:aa}{o:Except gB Wd}{d:Nat}(h:fA rb s H o d)(hd:d<=200) :
  aq Tryz.prog aA 72 [ae rb 10 0] H fun u H'=>(∃b,u=.bool b/\((b=true/\d<200/\(∃w,o=.ok w)/\fA rb s H' o (d+1))∨(b=false/\∃d',d<=d'/\d'<=200/\((∃w,o=.ok w)->200<=d)/\fA rb s H' (CF o 102) d')))/\Fp rb H H'/\H'.next=H.next:=by
 refine af rfl PR rfl ?_
 obtain⟨e,l,hr,he⟩:=h.cells
 have l9:am false 1 H (ae rb 10 9)=some (.int .i64 (d:Int)):=ah hr rfl rfl
 by_cases hg:200<=d
 ·have hg':(200:Int)<=(d:Int):=om
  simp only[Pv,sA,sB,seval,aw,aB,l9,hg']
  refine (i6 h (c:=102) om).mono ?_
  rintro _ H1 ⟨h1,F1,n1⟩
  simp only[sA,sB,seval]
  exact⟨⟨false,tt,.inr ⟨tt,d,Nat.le_refl _,hd,fun _=>hg,h1⟩⟩,F1,n1⟩
 have hg':¬(200:Int)<=(d:Int):=om
 have wk:IntKind.i64.wrap ((d:Int)+1)=((d+1:Nat):Int):=xh
 obtain⟨H1,m1,r1,n1,k1⟩:=cE hr (n:=10) rfl (i:=9) om (x:=.int .i64 ((d+1:Nat):Int)) rfl (l':=gL s (oW o) e l ((d+1:Nat):Int)) rfl
 have l7:am false 1 H1 (ae rb 10 7)=some (.int .i64 e):=ah r1 rfl rfl
 have F1:Fp rb H H1:=⟨om,fun c _ hc=>k1 c hc⟩
 cases o with
 | ok w=>
  have he0:e=0:=he.2 ⟨w,rfl⟩
  subst he0
  have hl:l=0:=by
   have h':aT H rb (gL s w 0 0 d):=h
   have a1:am false 1 H (ae rb 10 8)=some (.int .i64 0):=ah h' rfl rfl
   have a2:am false 1 H (ae rb 10 8)=some (.int .i64 l):=ah hr rfl rfl
   rw[a1]at a2; simpa using a2.symm
  subst hl
  simp only[Pv,sA,sB,seval,aw,aB,fld0,l9,hg',wk,m1,l7]
  exact⟨⟨true,tt,.inl ⟨tt,om,⟨w,rfl⟩,r1⟩⟩,F1,n1⟩
 | error f=>
  have hne:e≠0:=fun q=>by obtain⟨w,hw⟩:=he.1 q; simp at hw
  have h':aT H rb (gL s W0 f.1 f.2 d):=h.1
  have a1:am false 1 H (ae rb 10 7)=some (.int .i64 (f.1:Int)):=ah h' rfl rfl
  have a2:am false 1 H (ae rb 10 7)=some (.int .i64 e):=ah hr rfl rfl
  have b1:am false 1 H (ae rb 10 8)=some (.int .i64 (f.2:Int)):=ah h' rfl rfl
  have b2:am false 1 H (ae rb 10 8)=some (.int .i64 l):=ah hr rfl rfl
  have e1:e=(f.1:Int):=by rw[a1]at a2; simpa using a2.symm
  have e2:l=(f.2:Int):=by rw[b1]at b2; simpa using b2.symm
  subst e1 e2
  simp only[Pv,sA,sB,seval,aw,aB,fld0,l9,hg',wk,m1,l7,hne]
  exact⟨⟨false,tt,.inr ⟨tt,d+1,om,om,fun ⟨w,hw⟩=>by simp at hw,r1,h.2⟩⟩,F1,n1⟩
theorem gP{H:aa}(S:Bs){xs ys:List ab}(hx:xs.length=4)(hy:ys.length=4)(ox:xs.all ab.one=true)(oy:ys.all ab.one=true) :
  aq Tryz.prog aA 116 [.str S,.agg xs,.agg ys] H fun u H'=>∃b,u=.agg [.int .u8 3,.str S,.int .i64 0,.slice (some ⟨b,8,0⟩) 2 (.known 2)]/\H.next<=b/\b<H'.next/\aT H' b (xs++ys)/\aS H.next H H':=by
 refine af rfl NK rfl ?_
 obtain⟨H1,m1,r1,n1,k1⟩:=au H xs hx
 obtain⟨H2,m2,r2,n2,k2⟩:=au H1 ys hy
 obtain⟨H3,m3,r3,n3,k3⟩:=au H2 [.int .u8 0,.str [],.int .i64 0,.slice none 0 (.known 0)] (n:=4) rfl
 have l1:=al (r1.same (H':=H3) (by rw[k3 _ om,k2 _ om])) hx
 have l2:=al (r2.same (H':=H3) (by rw[k3 _ om])) hy
 have bs:=N9 H3 hx hy
 have rP:aT (H3.push (.cells (xs++ys) 0 false)) H3.next (xs++ys):=dA _ _
 obtain⟨H4,m4,r4,n4,k4⟩:=aj (H:=H3.push (.cells (xs++ys) 0 false)) (r3.same (aE om)) (n:=4) rfl (xs:=[.int .u8 3,.str S,.int .i64 0,.slice (some ⟨H3.next,8,0⟩) 2 (.known 2)]) rfl rfl
 rw[aZ]at n4
 have l4:=al r4 (n:=4) rfl
 simp only[O0,sA,sB,seval,cq,m1,m2,m3,l1,l2,bs,CT S (.slice (some ⟨H3.next,8,0⟩) 2 (.known 2)) rfl,m4]
 refine bL _ _ _ _ (v:=.agg [.int .u8 3,.str S,.int .i64 0,.slice (some ⟨H3.next,8,0⟩) 2 (.known 2)]) (by simp only[sA,sB,seval]; exact l4) ?_
 exact⟨H3.next,rfl,om,om,rP.same (k4 _ om),om,fun c hc=>by rw[k4 c om,aE om,k3 c om,k2 c om,k1 c om]⟩
open Go.Abs Go.Abs.S
structure tT(xs:List ab):Prop where
 len:xs.length=4
 one:xs.all ab.one=true
 aeq:aeqs xs xs=true
theorem uR:tT [.int .u8 0,.str [],.int .i64 0,.slice none 0 (.known 0)]:=⟨rfl,rfl,rfl⟩
theorem nO(S:Bs)(b:Nat):tT [.int .u8 3,.str S,.int .i64 0,.slice (some ⟨b,8,0⟩) 2 (.known 2)]:=⟨rfl,DU _ _ _ rfl,vL _ _ _ (by simp[aeq])⟩
def gz(rb:Nat)(s:Bs)(fn:FuncId):Prop:=∀(H:aa) (e:gB) (d:Nat),fA rb s H (.error e) d->d<=200->rb<H.next ->
  aq Tryz.prog aA fn [ae rb 10 0] H fun u H'=>∃xs d',u=.agg xs/\tT xs/\d<=d'/\d'<=200/\fA rb s H' (.error e) d'/\Fp rb H H'
theorem fP(rb:Nat)(s:Bs):gz rb s 210:=by
 intro H e d hs hd hrb
 refine af rfl Kh rfl ?_
 obtain⟨H1,m1,r1,n1,k1⟩:=au H [.int .u8 0,.str [],.int .i64 0,.slice none 0 (.known 0)] (n:=4) rfl
 have b0:=EG
 simp only[Mb,sA,sB,seval,m1]
 refine (lG (hs.same (k1 rb om)) hd).mono ?_
 rintro _ H2 ⟨⟨b,rfl,⟨rfl,_,⟨w,hw⟩,_⟩ | ⟨rfl,d',h1,h2,_,h3⟩⟩,F2,n2⟩
 ·simp at hw
 obtain⟨H3,m3,r3,n3,k3⟩:=aj (r1.same (F2.old _ om om)) (n:=4) rfl (xs:=[.int .u8 0,.str [],.int .i64 0,.slice none 0 (.known 0)]) rfl rfl
 have l3:=al r3 (n:=4) rfl
 simp only[sA,sB,seval,b0,m3]
 refine bL _ _ _ _ (v:=.agg [.int .u8 0,.str [],.int .i64 0,.slice none 0 (.known 0)]) (by simp only[sA,sB,seval]; exact l3) ?_
 exact⟨_,d',rfl,uR,h1,h2,h3.same (k3 rb om),om,fun c hc hp=>by rw[k3 c om,F2.old c om hp,k1 c om]⟩
theorem mn{rb:Nat}{s:Bs}(hb:gz rb s 210):gz rb s 204:=by
 intro H e d hs hd hrb
 refine af rfl Ki rfl ?_
 obtain⟨H1,m1,r1,n1,k1⟩:=au H [.int .u8 0,.str [],.int .i64 0,.slice none 0 (.known 0)] (n:=4) rfl
 simp only[Mc,sA,sB,seval,m1]
 refine (hb H1 e d (hs.same (k1 rb om)) hd om).mono ?_
 rintro _ H2 ⟨xs,d',rfl,x4,h1,h2,h3,F2⟩
 have e2:=F2.next
 obtain⟨H3,m3,r3,n3,k3⟩:=au H2 [.int .u8 0,.str [],.int .i64 0,.slice none 0 (.known 0)] (n:=4) rfl
 obtain⟨H4,m4,r4,n4,k4⟩:=aj r3 (n:=4) rfl x4.len x4.one
 have l4:=al r4 x4.len
 have k42:∀c,c<H2.next->H4.get c=H2.get c:=fun c hc=>by rw[k4 c om,k3 c om]
 have s4:=h3.same (k42 rb om)
 obtain⟨H5,m5,r5,n5,k5⟩:=aj (H:=H4) (r1.same (by rw[k42 _ om,F2.old _ om om])) (n:=4) rfl x4.len x4.one
 have l5:=al r5 x4.len
 simp only[sA,sB,seval,m3,m4]
 refine aG (fun m (T:bG) H'=>H4=H'/\T 0=ae rb 10 0/\T 2=ae H.next 4 0/\T 3=ae H2.next 4 0) 0 ⟨rfl,by simp only[sA,sB,seval],by simp only[sA,sB,seval],by simp only[sA,sB,seval]⟩ ?_
 rintro m T _ ⟨rfl,t0,t2,t3⟩
 simp only[sA,sB,seval,t0,t2,t3]
 refine (aJ s4 _).mono ?_
 rintro _ _ ⟨rfl,rfl⟩
 simp only[gd,sA,sB,seval,t0]
 refine (aJ s4 _).mono ?_
 rintro _ _ ⟨rfl,rfl⟩
 simp only[gd,sA,sB,seval,t0]
 simp only[sA,sB,seval,l4,m5,t2,t3]
 refine bL _ _ _ _ (v:=.agg xs) (by simp only[sA,sB,seval,t2,t3]; exact l5) ?_
 exact⟨xs,d',rfl,x4,h1,h2,s4.same (k5 rb om),om,fun c hc hp=>by rw[k5 c om,k42 c om,F2.old c om hp,k1 c om]⟩
theorem ph{rb:Nat}{s:Bs}(hb:gz rb s 204):gz rb s 185:=by
 intro H e d hs hd hrb
 refine af rfl Kj rfl ?_
 obtain⟨H1,m1,r1,n1,k1⟩:=au H [.int .u8 0,.str [],.int .i64 0,.slice none 0 (.known 0)] (n:=4) rfl
 simp only[Me,sA,sB,seval,m1]
 refine (hb H1 e d (hs.same (k1 rb om)) hd om).mono ?_
 rintro _ H2 ⟨xs,d',rfl,x4,h1,h2,h3,F2⟩
 have e2:=F2.next
 obtain⟨H3,m3,r3,n3,k3⟩:=au H2 [.int .u8 0,.str [],.int .i64 0,.slice none 0 (.known 0)] (n:=4) rfl
 obtain⟨H4,m4,r4,n4,k4⟩:=aj r3 (n:=4) rfl x4.len x4.one
 have l4:=al r4 x4.len
 have k42:∀c,c<H2.next->H4.get c=H2.get c:=fun c hc=>by rw[k4 c om,k3 c om]
 have s4:=h3.same (k42 rb om)
 obtain⟨H5,m5,r5,n5,k5⟩:=aj (H:=H4) (r1.same (by rw[k42 _ om,F2.old _ om om])) (n:=4) rfl x4.len x4.one
 have l5:=al r5 x4.len
 simp only[sA,sB,seval,m3,m4]
 refine aG (fun m (T:bG) H'=>H4=H'/\T 0=ae rb 10 0/\T 2=ae H.next 4 0/\T 3=ae H2.next 4 0) 0 ⟨rfl,by simp only[sA,sB,seval],by simp only[sA,sB,seval],by simp only[sA,sB,seval]⟩ ?_
 rintro m T _ ⟨rfl,t0,t2,t3⟩
 simp only[sA,sB,seval,t0,t2,t3]
 refine (aJ s4 _).mono ?_
 rintro _ _ ⟨rfl,rfl⟩
 simp only[gd,sA,sB,seval,t0]
 refine (aJ s4 _).mono ?_
 rintro _ _ ⟨rfl,rfl⟩
 simp only[gd,sA,sB,seval,t0]
 simp only[sA,sB,seval,l4,m5,t2,t3]
 refine bL _ _ _ _ (v:=.agg xs) (by simp only[sA,sB,seval,t2,t3]; exact l5) ?_
 exact⟨xs,d',rfl,x4,h1,h2,s4.same (k5 rb om),om,fun c hc hp=>by rw[k5 c om,k42 c om,F2.old c om hp,k1 c om]⟩
theorem s0{rb:Nat}{s:Bs}(hb:gz rb s 185):gz rb s 161:=by
 intro H e d hs hd hrb
 refine af rfl Kl rfl ?_
 obtain⟨H1,m1,r1,n1,k1⟩:=au H [.int .u8 0,.str [],.int .i64 0,.slice none 0 (.known 0)] (n:=4) rfl
 simp only[Mj,sA,sB,seval,m1]
 refine (hb H1 e d (hs.same (k1 rb om)) hd om).mono ?_
 rintro _ H2 ⟨xs,d',rfl,x4,h1,h2,h3,F2⟩
 have e2:=F2.next
 obtain⟨H3,m3,r3,n3,k3⟩:=au H2 [.int .u8 0,.str [],.int .i64 0,.slice none 0 (.known 0)] (n:=4) rfl
 obtain⟨H4,m4,r4,n4,k4⟩:=aj r3 (n:=4) rfl x4.len x4.one
 have l4:=al r4 x4.len
 have k42:∀c,c<H2.next->H4.get c=H2.get c:=fun c hc=>by rw[k4 c om,k3 c om]
 have s4:=h3.same (k42 rb om)
 obtain⟨H5,m5,r5,n5,k5⟩:=aj (H:=H4) (r1.same (by rw[k42 _ om,F2.old _ om om])) (n:=4) rfl x4.len x4.one
 have l5:=al r5 x4.len
 simp only[sA,sB,seval,m3,m4]
 refine (aJ s4 _).mono ?_
 rintro _ _ ⟨rfl,rfl⟩
 simp only[gd,sA,sB,seval]
 refine (aJ s4 _).mono ?_
 rintro _ _ ⟨rfl,rfl⟩
 simp only[gd,sA,sB,seval]
 refine (aJ s4 _).mono ?_
 rintro _ _ ⟨rfl,rfl⟩
 simp only[gd,sA,sB,seval]
 refine (aJ s4 _).mono ?_
 rintro _ _ ⟨rfl,rfl⟩
 simp only[gd,sA,sB,seval]
 refine (aJ s4 _).mono ?_
 rintro _ _ ⟨rfl,rfl⟩
 simp only[gd,sA,sB,seval]
 refine (aJ s4 _).mono ?_
 rintro _ _ ⟨rfl,rfl⟩
 simp only[gd,sA,sB,seval]
 simp only[sA,sB,seval,l4,m5]
 refine bL _ _ _ _ (v:=.agg xs) (by simp only[sA,sB,seval]; exact l5) ?_
 exact⟨xs,d',rfl,x4,h1,h2,s4.same (k5 rb om),om,fun c hc hp=>by rw[k5 c om,k42 c om,F2.old c om hp,k1 c om]⟩
theorem yQ{rb:Nat}{s:Bs}(hb:gz rb s 161):gz rb s 115:=by
 intro H e d hs hd hrb
 refine af rfl Km rfl ?_
 obtain⟨H1,m1,r1,n1,k1⟩:=au H [.int .u8 0,.str [],.int .i64 0,.slice none 0 (.known 0)] (n:=4) rfl
 simp only[Mn,sA,sB,seval,m1]
 refine (hb H1 e d (hs.same (k1 rb om)) hd om).mono ?_
 rintro _ H2 ⟨xs,d',rfl,x4,h1,h2,h3,F2⟩
 have e2:=F2.next
 obtain⟨H3,m3,r3,n3,k3⟩:=au H2 [.int .u8 0,.str [],.int .i64 0,.slice none 0 (.known 0)] (n:=4) rfl
 obtain⟨H4,m4,r4,n4,k4⟩:=aj r3 (n:=4) rfl x4.len x4.one
 have l4:=al r4 x4.len
 have k42:∀c,c<H2.next->H4.get c=H2.get c:=fun c hc=>by rw[k4 c om,k3 c om]
 have s4:=h3.same (k42 rb om)
 obtain⟨H5,m5,r5,n5,k5⟩:=aj (H:=H4) (r1.same (by rw[k42 _ om,F2.old _ om om])) (n:=4) rfl x4.len x4.one
 have l5:=al r5 x4.len
 simp only[sA,sB,seval,m3,m4]
 refine aG (fun m (T:bG) H'=>H4=H'/\T 0=ae rb 10 0/\T 2=ae H.next 4 0/\T 3=ae H2.next 4 0) 0 ⟨rfl,by simp only[sA,sB,seval],by simp only[sA,sB,seval],by simp only[sA,sB,seval]⟩ ?_
 rintro m T _ ⟨rfl,t0,t2,t3⟩
 simp only[sA,sB,seval,t0,t2,t3]
 refine (aJ s4 _).mono ?_
 rintro _ _ ⟨rfl,rfl⟩
 simp only[gd,sA,sB,seval,t0]
 simp only[sA,sB,seval,l4,m5,t2,t3]
 refine bL _ _ _ _ (v:=.agg xs) (by simp only[sA,sB,seval,t2,t3]; exact l5) ?_
 exact⟨xs,d',rfl,x4,h1,h2,s4.same (k5 rb om),om,fun c hc hp=>by rw[k5 c om,k42 c om,F2.old c om hp,k1 c om]⟩
theorem JQ{rb:Nat}{s:Bs}(hb:gz rb s 115):gz rb s 77:=by
 intro H e d hs hd hrb
 refine af rfl MZ rfl ?_
 obtain⟨H1,m1,r1,n1,k1⟩:=au H [.int .u8 0,.str [],.int .i64 0,.slice none 0 (.known 0)] (n:=4) rfl
 simp only[Qv,sA,sB,seval,m1]
 refine (hb H1 e d (hs.same (k1 rb om)) hd om).mono ?_
 rintro _ H2 ⟨xs,d',rfl,x4,h1,h2,h3,F2⟩
 have e2:=F2.next
 obtain⟨H3,m3,r3,n3,k3⟩:=au H2 [.int .u8 0,.str [],.int .i64 0,.slice none 0 (.known 0)] (n:=4) rfl
 obtain⟨H4,m4,r4,n4,k4⟩:=aj r3 (n:=4) rfl x4.len x4.one
 have l4:=al r4 x4.len
 have k42:∀c,c<H2.next->H4.get c=H2.get c:=fun c hc=>by rw[k4 c om,k3 c om]
 have s4:=h3.same (k42 rb om)
 obtain⟨H5,m5,r5,n5,k5⟩:=aj (H:=H4) (r1.same (by rw[k42 _ om,F2.old _ om om])) (n:=4) rfl x4.len x4.one
 have l5:=al r5 x4.len
 simp only[sA,sB,seval,m3,m4]
 refine aG (fun m (T:bG) H'=>H4=H'/\T 0=ae rb 10 0/\T 2=ae H.next 4 0/\T 3=ae H2.next 4 0) 0 ⟨rfl,by simp only[sA,sB,seval],by simp only[sA,sB,seval],by simp only[sA,sB,seval]⟩ ?_
 rintro m T _ ⟨rfl,t0,t2,t3⟩
 simp only[sA,sB,seval,t0,t2,t3]
 refine (aJ s4 _).mono ?_
 rintro _ _ ⟨rfl,rfl⟩
 simp only[gd,sA,sB,seval,t0]
 simp only[sA,sB,seval,l4,m5,t2,t3]
 refine bL _ _ _ _ (v:=.agg xs) (by simp only[sA,sB,seval,t2,t3]; exact l5) ?_
 exact⟨xs,d',rfl,x4,h1,h2,s4.same (k5 rb om),om,fun c hc hp=>by rw[k5 c om,k42 c om,F2.old c om hp,k1 c om]⟩
def IP:Nat->FuncId
 | 0=>210
 | 1=>204
 | 2=>185
 | 3=>161
 | 4=>115
 | _=>77
theorem ip(rb:Nat)(s:Bs):∀k,k<=5->gz rb s (IP k)
 | 0,_=>fP rb s
 | 1,_=>mn (fP rb s)
 | 2,_=>ph (mn (fP rb s))
 | 3,_=>s0 (ph (mn (fP rb s)))
 | 4,_=>yQ (s0 (ph (mn (fP rb s))))
 | 5,_=>JQ (yQ (s0 (ph (mn (fP rb s)))))
 | k+6,h=>om
open Go.Abs Go.Abs.S
def Go{β:Type}(s:Bs)(o:Except gB Wd)(d' d:Nat)(r:dt β)(k:Wd->Option (dt β)):Prop:=(∃w,o=.ok w/\d'=d/\fy s w/\k w=some r)∨∃e,o=.error e/\r=.error e
theorem Go.en{β:Type}{s:Bs}{o:Except gB Wd}{d' d:Nat}{r:dt β}{k:Wd->Option (dt β)}(h:Go s o d' d r k):∀w,o=.ok w->w.en<=1000000:=by
 rintro w rfl
 rcases h with⟨w',hw,_,ok,_⟩ | ⟨e,he,_⟩
 ·simp only[Except.ok.injEq]at hw
  subst hw
  have:=ok.en
  have:=ok.long
  omega
 ·simp at he
theorem Go.take{β:Type}{s:Bs}{o:Except gB Wd}{d' d:Nat}{r:dt β}{k:Wd->Option (dt β)}(h:Go s o d' d r fun w=>dn (bC s w) k):Go s (kV s o) d' d r k:=by
 rcases h with⟨w,rfl,hd,ok,hk⟩ | ⟨e,rfl,rfl⟩
 ·rcases cJ hk with⟨e,he,rfl⟩ | ⟨w1,he,hk⟩
  ·exact .inr ⟨e,he,rfl⟩
  ·exact .inl ⟨w1,he,hd,(il he).1,hk⟩
 ·exact .inr ⟨e,rfl,rfl⟩
theorem dP{s:Bs}{w:Wd}(h:fy s w){t:Bs}(ht:kY t=false):jV w t=fq w [t]:=by
 have hb:∀n,Nat.beq w.k n=decide (w.k=n):=fun n=>bD _ _
 unfold jV fq
 simp only[hb]
 by_cases h4:w.k=4
 ·rw[decide_eq_true h4]
  simp[eq_comm]
 ·rw[decide_eq_false h4]
  by_cases h3:w.k=3
  ·have:w.S≠t:=fun e=>by rw[<- e,h.key h3]at ht; simp at ht
   simp[this]
  ·simp[h3]
theorem wA{s:Bs}{w:Wd}(h:fy s w){t:Bs}(ht:t∉eO):jV w t=j6 w t:=by
 have hb:∀n,Nat.beq w.k n=decide (w.k=n):=fun n=>bD _ _
 unfold jV j6
 simp only[hb]
 by_cases h3:w.k=3
 ·rw[decide_eq_true h3]; simp
 ·rw[decide_eq_false h3]
  by_cases h4:w.k=4
  ·have:w.S≠t:=fun e=>ht (e ▸ h.sig h4)
   simp[this]
  ·simp[h4]
theorem Go.must{β:Type}{s:Bs}{o:Except gB Wd}{d' d:Nat}{r:dt β}{t:Bs}{k:Wd->Option (dt β)}(h:Go s o d' d r fun w=>dn (bE s t w) k)(ht:kY t=false):Go s (oQ s o t) d' d r k:=by
 rcases h with⟨w,rfl,hd,ok,hk⟩ | ⟨e,rfl,rfl⟩
 ·have e1:oQ s (.ok w) t=bE s t w:=by
   unfold oQ bE
   rw[show gd (.ok w) t=jV w t from rfl,dP ok ht]
   rfl
  rw[e1]
  rcases cJ hk with⟨e,he,rfl⟩ | ⟨w1,he,hk⟩
  ·exact .inr ⟨e,he,rfl⟩
  ·exact .inl ⟨w1,he,hd,(bQ he ok).2.2.1,hk⟩
 ·exact .inr ⟨e,by unfold oQ; rfl,rfl⟩
theorem LB{s:Bs}{w:Wd}(h:fy s w){a b:Bs}(ha:kY a=false)(hb:kY b=false):fq w [a,b]=(jV w a||jV w b):=by
 rw[dP h ha,dP h hb]
 unfold fq
 cases Nat.beq w.k 4 <;> simp
def ew(rb:Nat)(s:Bs)(fn:FuncId)(sem:Nat->Wd->Option (dt Ex)):Prop:=∀(H:aa) (w:Wd) (d:Nat) (r:dt Ex),fA rb s H (.ok w) d->fy s w->d<=200->rb<H.next->sem d w=some r ->
  aq Tryz.prog aA fn [ae rb 10 0] H fun u H'=>∃xs d' o',u=.agg xs/\tT xs/\d<=d'/\d'<=200/\fA rb s H' o' d'/\Fp rb H H'/\((∃e w',r=.ok (e,w')/\o'=.ok w'/\d'=d/\fy s w'/\XE (In H.next H'.next) H' e xs)∨∃e,r=.error e/\o'=.error e)
theorem HM{β:Type}{rb:Nat}{s:Bs}{fn:FuncId}{sem:Nat->Wd->Option (dt Ex)}(dead:gz rb s fn)(live:ew rb s fn sem){H:aa}{o:Except gB Wd}{d' d:Nat}{r:dt β}{k:Ex->Wd->Option (dt β)}(hs:fA rb s H o d')(h1:d<=d')(h2:d'<=200)(hrb:rb<H.next)(h:Go s o d' d r fun w=>fF (sem d w) k) :
  aq Tryz.prog aA fn [ae rb 10 0] H fun u H'=>∃xs d2 o2,u=.agg xs/\tT xs/\d<=d2/\d2<=200/\fA rb s H' o2 d2/\Fp rb H H'/\((∃e,Go s o2 d2 d r (k e)/\XE (In H.next H'.next) H' e xs)∨∃e,r=.error e/\o2=.error e)/\∀e,o=.error e->o2=.error e:=by
 rcases h with⟨w,rfl,rfl,ok,hk⟩ | ⟨e,rfl,rfl⟩
 ·obtain⟨r0,hr0⟩:∃r0,sem d' w=some r0:=by
   rcases cG hk with⟨e,he,rfl⟩ | ⟨e1,w3,he,_⟩
   ·exact⟨_,he⟩
   ·exact⟨_,he⟩
  refine (live H w d' r0 hs ok h2 hrb hr0).mono ?_
  rintro u H' ⟨xs,d2,o2,rfl,x4,y1,y2,y3,y4,y5⟩
  refine⟨xs,d2,o2,rfl,x4,y1,y2,y3,y4,?_,fun e q=>by simp at q⟩
  rcases cG hk with⟨e,he,rfl⟩ | ⟨e1,w3,he,hk⟩
  ·rw[hr0]at he
   simp only[sJ]at he
   subst he
   rcases y5 with⟨e',w',q,_⟩ | ⟨e',q,rfl⟩
   ·simp at q
   ·simp only[Except.error.injEq]at q
    subst q
    exact .inr ⟨e,rfl,rfl⟩
  ·rw[hr0]at he
   simp only[sJ]at he
   subst he
   rcases y5 with⟨e',w',q,rfl,q2,q3,q4⟩ | ⟨e',q,rfl⟩
   ·simp only[Except.ok.injEq,pJ]at q
    obtain⟨rfl,rfl⟩:=q
    exact .inl ⟨e1,.inl ⟨w3,rfl,q2,q3,hk⟩,q4⟩
   ·simp at q
 ·refine (dead H e d' hs h2 hrb).mono ?_
  rintro u H' ⟨xs,d2,rfl,x4,y1,y2,y3,y4⟩
  exact⟨xs,d2,_,rfl,x4,om,y2,y3,y4,.inr ⟨e,rfl,rfl⟩,fun e' q=>q⟩
theorem iA{β:Type}{rb:Nat}{s:Bs}{fn:FuncId}{sem:Nat->Wd->Option (dt Ex)}(dead:gz rb s fn)(live:ew rb s fn sem){H:aa}{o:Except gB Wd}{d' d:Nat}{r:dt β}{k:Ex->Wd->Option (dt β)}(hs:fA rb s H o d')(h1:d<=d')(h2:d'<=200)(hrb:rb<H.next)(h:Go s o d' d r fun w=>fF (sem d w) k) :
  aq Tryz.prog aA fn [ae rb 10 0] H fun u H'=>∃xs d2 o2,u=.agg xs/\tT xs/\d<=d2/\d2<=200/\fA rb s H' o2 d2/\Fp rb H H'/\((∃e,Go s o2 d2 d r (k e)/\XE (In H.next H'.next) H' e xs)∨∃e,r=.error e/\o2=.error e):=by
 refine (HM dead live hs h1 h2 hrb h).mono ?_
 rintro u H' ⟨xs,d2,o2,a1,a2,a3,a4,a5,a6,a7,_⟩
 exact⟨xs,d2,o2,a1,a2,a3,a4,a5,a6,a7⟩
theorem GG{rb:Nat}{s:Bs}{f:Nat}(ih:∀f',f'<=f->ew rb s (IP 0) fun d w=>pE s f' (.rule 0) d w):ew rb s 204 fun d w=>pE s (f+1) (.rule 1) d w:=by
 intro H w d r hsA ok hd hrb hr
 have dead:=ip rb s 0 om
 have fnk:IP 0=210:=rfl
 rw[fnk]at dead
 have ih:∀f',f'<=f->ew rb s 210 fun d w=>pE s f' (.rule 0) d w:=ih
 refine af rfl Ki rfl ?_
 simp only[cH,cK]at hr
 obtain⟨H1,m1,r1,n1,k1⟩:=au H [.int .u8 0,.str [],.int .i64 0,.slice none 0 (.known 0)] (n:=4) rfl
 have F1:Fp rb H H1:=⟨om,fun c hc _=>k1 c om⟩
 simp only[Mc,sA,sB,seval,m1]
 refine (iA dead (ih f rL) (hsA.same (k1 rb om)) rL hd om (.inl ⟨w,rfl,rfl,ok,hr⟩)).mono ?_
 rintro _ H2 ⟨xs,d2,o2,rfl,x4,h1,h2,s2,F2,hx⟩
 have e2:=F2.next
 obtain⟨H3,m3,r3,n3,k3⟩:=au H2 [.int .u8 0,.str [],.int .i64 0,.slice none 0 (.known 0)] (n:=4) rfl
 obtain⟨H4,m4,r4,n4,k4⟩:=aj r3 (n:=4) rfl x4.len x4.one
 have k42:∀c,c<H2.next->H4.get c=H2.get c:=fun c hc=>by rw[k4 c om,k3 c om]
 have F4:Fp rb H H4:=⟨om,fun c hc hp=>by rw[k42 c om,F2.old c om hp,F1.old c hc hp]⟩
 simp only[sA,sB,seval,m3,m4]
 refine aG (fun m (T:bG) H'=>∃o' d' xs,m<=f/\T 0=ae rb 10 0/\T 2=ae H.next 4 0/\T 3=ae H2.next 4 0/\aT H' H2.next xs/\tT xs/\aT H' H.next [.int .u8 0,.str [],.int .i64 0,.slice none 0 (.known 0)]/\fA rb s H' o' d'/\d<=d'/\d'<=200/\Fp rb H H'/\H2.next<H'.next/\((∃e,Go s o' d' d r (fun w=>pE s m (.loop 1 e) d w)/\XE (fun c=>In (H.next+1) H'.next c/\c≠H2.next) H' e xs)∨∃e,r=.error e/\o'=.error e)) f
  ⟨o2,d2,xs,Nat.le_refl _,by simp only[sA,sB,seval],by simp only[sA,sB,seval],by simp only[sA,sB,seval],r4,x4,r1.same (by rw[k42 _ om,F2.old _ om om]),s2.same (k42 rb om),h1,h2,F4,om,hx.imp (fun ⟨e,g,q⟩=>⟨e,g,q.mono fun c hc=>by
   have c1:=hc.1
   have c2:=hc.2
   exact⟨⟨⟨om,om⟩,om⟩,k42 c c2⟩⟩) fun q=>q⟩ ?_
 rintro m T H5 ⟨o',d',xs,hm,t0,t2,t3,rx,x4,q2,hs,h1,h2,F5,lt5,hx⟩
 have e5:=F5.next
 have lx5:=al rx x4.len
 simp only[sA,sB,seval,t0,t2,t3]
 rcases hx with⟨e1,hgo,hx5⟩ | ⟨e,rfl,rfl⟩
 rotate_left
 ·skip
  refine (aJ hs _).mono ?_
  rintro _ _ ⟨rfl,rfl⟩
  simp only[gd,sA,sB,seval,t0,t2,t3]
  refine (aJ hs _).mono ?_
  rintro _ _ ⟨rfl,rfl⟩
  simp only[gd,sA,sB,seval,t0,t2,t3]
  obtain⟨H6,m6,r6,n6,k6⟩:=aj q2 (n:=4) rfl x4.len x4.one
  simp only[sA,sB,seval,t0,t2,t3,lx5,m6]
  refine bL _ _ _ _ (v:=.agg xs) (by simp only[sA,sB,seval,t2]; exact al r6 x4.len) ?_
  exact⟨xs,d',_,rfl,x4,h1,h2,hs.same (k6 rb om),⟨om,fun c hc hp=>by rw[k6 c om,F5.old c hc hp]⟩,.inr ⟨e,rfl,rfl⟩⟩
 rcases hgo with⟨w5,rfl,rfl,ok5,hp⟩ | ⟨e,rfl,rfl⟩
 rotate_left
 ·refine (aJ hs _).mono ?_
  rintro _ _ ⟨rfl,rfl⟩
  simp only[gd,sA,sB,seval,t0,t2,t3]
  refine (aJ hs _).mono ?_
  rintro _ _ ⟨rfl,rfl⟩
  simp only[gd,sA,sB,seval,t0,t2,t3]
  obtain⟨H6,m6,r6,n6,k6⟩:=aj q2 (n:=4) rfl x4.len x4.one
  simp only[sA,sB,seval,t0,t2,t3,lx5,m6]
  refine bL _ _ _ _ (v:=.agg xs) (by simp only[sA,sB,seval,t2]; exact al r6 x4.len) ?_
  exact⟨xs,d',_,rfl,x4,h1,h2,hs.same (k6 rb om),⟨om,fun c hc hp=>by rw[k6 c om,F5.old c hc hp]⟩,.inr ⟨e,rfl,rfl⟩⟩
 cases m with
 | zero=>simp[pE]at hp
 | succ m=>
 rw[cH]at hp
 simp only[cK,Nat.add_one_sub_one,Nat.reduceSub]at hp
 have lS:am false 1 H5 (ae rb 10 2)=some (.str w5.S):=ah (show aT H5 rb (gL s w5 0 0 d') from hs) rfl rfl
 have hlv:fq w5 (yr 1)=(jV w5 [42]||jV w5 [47]):=LB ok5 rfl rfl
 refine (aJ hs _).mono ?_
 rintro _ _ ⟨rfl,rfl⟩
 have i1:gd (.ok w5) [42]=jV w5 [42]:=rfl
 rw[i1]
 cases b1:jV w5 [42] with
 | true=>
  rw[if_pos (by rw[hlv,b1] <;> rfl)]at hp
  have hgo:Go s (Except.ok w5) d' d' r fun w=>dn (bC s w) fun w1=>fF (pE s m (.rule 0) d' w1) fun e2 w2=>pE s m (.loop 1 (.mk 3 w5.S 0 [e1,e2])) d' w2:=.inl ⟨w5,rfl,rfl,ok5,hp⟩
  obtain⟨SG,hSG⟩:∃SG,SG=w5.S:=⟨_,rfl⟩
  rw[<- hSG]at hgo lS
  simp only[sA,sB,seval,t0,t2,t3,aw,aB,lS]
  refine (bO hs om (Go.en hgo)).mono ?_
  rintro _ H6 ⟨s6,F6⟩
  have g6:=Go.take hgo
  have e6:=F6.next
  have x6:=rx.same (F6.old _ lt5 om)
  have lx6:=al x6 x4.len
  simp only[sA,sB,seval,t0,t2,t3]
  refine cr rfl ?_
  simp only[sR,sA,sB,seval,t0,t2,t3,lx6]
  refine (iA dead (ih m om) s6 h1 h2 om g6).mono ?_
  rintro _ H7 ⟨ys,d7,o7,rfl,y4,y5,y6,s7,F7,hy⟩
  have e7:=F7.next
  have F57:=F6.trans F7
  have x7:=x6.same (F7.old _ om om)
  have lx7:=al x7 x4.len
  simp only[sR,sA,sB,seval,t0,t2,t3]
  refine (gP _ x4.len y4.len x4.one y4.one).mono ?_
  rintro _ H8 ⟨b,rfl,b1,b2,rB,E8⟩
  have e8:=E8.next
  have s8:=s7.same (E8.old rb om)
  have x8:=x7.same (E8.old _ om)
  have o4:=nO SG b
  obtain⟨H9,m9,r9,n9,k9⟩:=aj x8 (n:=4) x4.len o4.len o4.one
  have k95:∀c,c<H5.next->c≠rb->c≠H2.next->H9.get c=H5.get c:=fun c h1 h2 h3=>by rw[k9 c h3,E8.old c om,F57.old c h1 h2]
  simp only[sR,sA,sB,seval,t0,t2,t3,m9]
  simp only[cw,cx,bR,cy,db,and_true,true_and,List.map_cons,List.map_nil,sA,sB,seval,t0,t2,t3]
  refine⟨⟨_,rfl,fun _=>⟨_,lx7,by simpa[aeq] using x4.aeq⟩⟩,m,om,o7,d7,_,om,r9,o4,q2.same (k95 _ om om om),s8.same (k9 rb om),y5,y6,⟨by have:=F5.next; omega,fun c h1 h2=>by rw[k95 c (by have:=F5.next; omega) h2 om,F5.old c h1 h2]⟩,om,?_⟩
  rcases hy with⟨e2,gy,xy⟩ | ⟨e,rfl,rfl⟩
  case inr=>exact .inr ⟨e,rfl,rfl⟩
  refine .inl ⟨.mk 3 SG 0 [e1,e2],gy,⟨_,xs++ys,rfl,.row (rB.same (k9 _ om)) (by rw[lA,x4.len,y4.len]) rfl ⟨⟨om,om⟩,om⟩,xs,ys,rfl,hx5.mono fun c hc=>?_,.sing (xy.mono fun c hc=>?_)⟩⟩
  ·have c1:=hc.1.1
   have c2:=hc.1.2
   exact⟨⟨⟨c1,om⟩,hc.2⟩,k95 c c2 om hc.2⟩
  ·have c1:=hc.1
   have c2:=hc.2
   exact⟨⟨⟨om,om⟩,om⟩,by rw[k9 c om,E8.old c om]⟩
 | false=>
 simp only[sA,sB,seval,t0,t2,t3]
 refine (aJ hs _).mono ?_
 rintro _ _ ⟨rfl,rfl⟩
 have i2:gd (.ok w5) [47]=jV w5 [47]:=rfl
 rw[i2]
 cases b2:jV w5 [47] with
 | true=>
  rw[if_pos (by rw[hlv,b1,b2] <;> rfl)]at hp
  have hgo:Go s (Except.ok w5) d' d' r fun w=>dn (bC s w) fun w1=>fF (pE s m (.rule 0) d' w1) fun e2 w2=>pE s m (.loop 1 (.mk 3 w5.S 0 [e1,e2])) d' w2:=.inl ⟨w5,rfl,rfl,ok5,hp⟩
  obtain⟨SG,hSG⟩:∃SG,SG=w5.S:=⟨_,rfl⟩
  rw[<- hSG]at hgo lS
  simp only[sA,sB,seval,t0,t2,t3,aw,aB,lS]
  refine (bO hs om (Go.en hgo)).mono ?_
  rintro _ H6 ⟨s6,F6⟩
  have g6:=Go.take hgo
  have e6:=F6.next
  have x6:=rx.same (F6.old _ lt5 om)
  have lx6:=al x6 x4.len
  simp only[sA,sB,seval,t0,t2,t3]
  refine cr rfl ?_
  simp only[sR,sA,sB,seval,t0,t2,t3,lx6]
  refine (iA dead (ih m om) s6 h1 h2 om g6).mono ?_
  rintro _ H7 ⟨ys,d7,o7,rfl,y4,y5,y6,s7,F7,hy⟩
  have e7:=F7.next
  have F57:=F6.trans F7
  have x7:=x6.same (F7.old _ om om)
  have lx7:=al x7 x4.len
  simp only[sR,sA,sB,seval,t0,t2,t3]
  refine (gP _ x4.len y4.len x4.one y4.one).mono ?_
  rintro _ H8 ⟨b,rfl,b1,b2,rB,E8⟩
  have e8:=E8.next
  have s8:=s7.same (E8.old rb om)
  have x8:=x7.same (E8.old _ om)
  have o4:=nO SG b
  obtain⟨H9,m9,r9,n9,k9⟩:=aj x8 (n:=4) x4.len o4.len o4.one
  have k95:∀c,c<H5.next->c≠rb->c≠H2.next->H9.get c=H5.get c:=fun c h1 h2 h3=>by rw[k9 c h3,E8.old c om,F57.old c h1 h2]
  simp only[sR,sA,sB,seval,t0,t2,t3,m9]
  simp only[cw,cx,bR,cy,db,and_true,true_and,List.map_cons,List.map_nil,sA,sB,seval,t0,t2,t3]
  refine⟨⟨_,rfl,fun _=>⟨_,lx7,by simpa[aeq] using x4.aeq⟩⟩,m,om,o7,d7,_,om,r9,o4,q2.same (k95 _ om om om),s8.same (k9 rb om),y5,y6,⟨by have:=F5.next; omega,fun c h1 h2=>by rw[k95 c (by have:=F5.next; omega) h2 om,F5.old c h1 h2]⟩,om,?_⟩
  rcases hy with⟨e2,gy,xy⟩ | ⟨e,rfl,rfl⟩
  case inr=>exact .inr ⟨e,rfl,rfl⟩
  refine .inl ⟨.mk 3 SG 0 [e1,e2],gy,⟨_,xs++ys,rfl,.row (rB.same (k9 _ om)) (by rw[lA,x4.len,y4.len]) rfl ⟨⟨om,om⟩,om⟩,xs,ys,rfl,hx5.mono fun c hc=>?_,.sing (xy.mono fun c hc=>?_)⟩⟩
  ·have c1:=hc.1.1
   have c2:=hc.1.2
   exact⟨⟨⟨c1,om⟩,hc.2⟩,k95 c c2 om hc.2⟩
  ·have c1:=hc.1
   have c2:=hc.2
   exact⟨⟨⟨om,om⟩,om⟩,by rw[k9 c om,E8.old c om]⟩
 | false=>
 rw[if_neg (by rw[hlv]; simp only[b1,b2]; simp)]at hp
 simp only[aV,sJ]at hp
 subst hp
 obtain⟨H6,m6,r6,n6,k6⟩:=aj q2 (n:=4) rfl x4.len x4.one
 simp only[sA,sB,seval,t0,t2,t3,lx5,m6]
 refine bL _ _ _ _ (v:=.agg xs) (by simp only[sA,sB,seval,t2]; exact al r6 x4.len) ?_
 refine⟨xs,d',_,rfl,x4,h1,h2,hs.same (k6 rb om),⟨om,fun c hc hp=>by rw[k6 c om,F5.old c hc hp]⟩,.inl ⟨e1,w5,rfl,rfl,rfl,ok5,hx5.mono fun c hc=>?_⟩⟩
 have c1:=hc.1.1
 have c2:=hc.1.2
 exact⟨⟨om,om⟩,k6 c om⟩
theorem GJ{rb:Nat}{s:Bs}{f:Nat}(ih:∀f',f'<=f->ew rb s (IP 1) fun d w=>pE s f' (.rule 1) d w):ew rb s 185 fun d w=>pE s (f+1) (.rule 2) d w:=by
 intro H w d r hsA ok hd hrb hr
 have dead:=ip rb s 1 om
 have fnk:IP 1=204:=rfl
 rw[fnk]at dead
 have ih:∀f',f'<=f->ew rb s 204 fun d w=>pE s f' (.rule 1) d w:=ih
 refine af rfl Kj rfl ?_
 simp only[cH,cK]at hr
 obtain⟨H1,m1,r1,n1,k1⟩:=au H [.int .u8 0,.str [],.int .i64 0,.slice none 0 (.known 0)] (n:=4) rfl
 have F1:Fp rb H H1:=⟨om,fun c hc _=>k1 c om⟩
 simp only[Me,sA,sB,seval,m1]
 refine (iA dead (ih f rL) (hsA.same (k1 rb om)) rL hd om (.inl ⟨w,rfl,rfl,ok,hr⟩)).mono ?_
 rintro _ H2 ⟨xs,d2,o2,rfl,x4,h1,h2,s2,F2,hx⟩
 have e2:=F2.next
 obtain⟨H3,m3,r3,n3,k3⟩:=au H2 [.int .u8 0,.str [],.int .i64 0,.slice none 0 (.known 0)] (n:=4) rfl
 obtain⟨H4,m4,r4,n4,k4⟩:=aj r3 (n:=4) rfl x4.len x4.one
 have k42:∀c,c<H2.next->H4.get c=H2.get c:=fun c hc=>by rw[k4 c om,k3 c om]
 have F4:Fp rb H H4:=⟨om,fun c hc hp=>by rw[k42 c om,F2.old c om hp,F1.old c hc hp]⟩
 simp only[sA,sB,seval,m3,m4]
 refine aG (fun m (T:bG) H'=>∃o' d' xs,m<=f/\T 0=ae rb 10 0/\T 2=ae H.next 4 0/\T 3=ae H2.next 4 0/\aT H' H2.next xs/\tT xs/\aT H' H.next [.int .u8 0,.str [],.int .i64 0,.slice none 0 (.known 0)]/\fA rb s H' o' d'/\d<=d'/\d'<=200/\Fp rb H H'/\H2.next<H'.next/\((∃e,Go s o' d' d r (fun w=>pE s m (.loop 2 e) d w)/\XE (fun c=>In (H.next+1) H'.next c/\c≠H2.next) H' e xs)∨∃e,r=.error e/\o'=.error e)) f
  ⟨o2,d2,xs,Nat.le_refl _,by simp only[sA,sB,seval],by simp only[sA,sB,seval],by simp only[sA,sB,seval],r4,x4,r1.same (by rw[k42 _ om,F2.old _ om om]),s2.same (k42 rb om),h1,h2,F4,om,hx.imp (fun ⟨e,g,q⟩=>⟨e,g,q.mono fun c hc=>by
   have c1:=hc.1
   have c2:=hc.2
   exact⟨⟨⟨om,om⟩,om⟩,k42 c c2⟩⟩) fun q=>q⟩ ?_
 rintro m T H5 ⟨o',d',xs,hm,t0,t2,t3,rx,x4,q2,hs,h1,h2,F5,lt5,hx⟩
 have e5:=F5.next
 have lx5:=al rx x4.len
 simp only[sA,sB,seval,t0,t2,t3]
 rcases hx with⟨e1,hgo,hx5⟩ | ⟨e,rfl,rfl⟩
 rotate_left
 ·skip
  refine (aJ hs _).mono ?_
  rintro _ _ ⟨rfl,rfl⟩
  simp only[gd,sA,sB,seval,t0,t2,t3]
  refine (aJ hs _).mono ?_
  rintro _ _ ⟨rfl,rfl⟩
  simp only[gd,sA,sB,seval,t0,t2,t3]
  obtain⟨H6,m6,r6,n6,k6⟩:=aj q2 (n:=4) rfl x4.len x4.one
  simp only[sA,sB,seval,t0,t2,t3,lx5,m6]
  refine bL _ _ _ _ (v:=.agg xs) (by simp only[sA,sB,seval,t2]; exact al r6 x4.len) ?_
  exact⟨xs,d',_,rfl,x4,h1,h2,hs.same (k6 rb om),⟨om,fun c hc hp=>by rw[k6 c om,F5.old c hc hp]⟩,.inr ⟨e,rfl,rfl⟩⟩
 rcases hgo with⟨w5,rfl,rfl,ok5,hp⟩ | ⟨e,rfl,rfl⟩
 rotate_left
 ·refine (aJ hs _).mono ?_
  rintro _ _ ⟨rfl,rfl⟩
  simp only[gd,sA,sB,seval,t0,t2,t3]
  refine (aJ hs _).mono ?_
  rintro _ _ ⟨rfl,rfl⟩
  simp only[gd,sA,sB,seval,t0,t2,t3]
  obtain⟨H6,m6,r6,n6,k6⟩:=aj q2 (n:=4) rfl x4.len x4.one
  simp only[sA,sB,seval,t0,t2,t3,lx5,m6]
  refine bL _ _ _ _ (v:=.agg xs) (by simp only[sA,sB,seval,t2]; exact al r6 x4.len) ?_
  exact⟨xs,d',_,rfl,x4,h1,h2,hs.same (k6 rb om),⟨om,fun c hc hp=>by rw[k6 c om,F5.old c hc hp]⟩,.inr ⟨e,rfl,rfl⟩⟩
 cases m with
 | zero=>simp[pE]at hp
 | succ m=>
 rw[cH]at hp
 simp only[cK,Nat.add_one_sub_one,Nat.reduceSub]at hp
 have lS:am false 1 H5 (ae rb 10 2)=some (.str w5.S):=ah (show aT H5 rb (gL s w5 0 0 d') from hs) rfl rfl
 have hlv:fq w5 (yr 2)=(jV w5 [43]||jV w5 [45]):=LB ok5 rfl rfl
 refine (aJ hs _).mono ?_
 rintro _ _ ⟨rfl,rfl⟩
 have i1:gd (.ok w5) [43]=jV w5 [43]:=rfl
 rw[i1]
 cases b1:jV w5 [43] with
 | true=>
  rw[if_pos (by rw[hlv,b1] <;> rfl)]at hp
  have hgo:Go s (Except.ok w5) d' d' r fun w=>dn (bC s w) fun w1=>fF (pE s m (.rule 1) d' w1) fun e2 w2=>pE s m (.loop 2 (.mk 3 w5.S 0 [e1,e2])) d' w2:=.inl ⟨w5,rfl,rfl,ok5,hp⟩
  obtain⟨SG,hSG⟩:∃SG,SG=w5.S:=⟨_,rfl⟩
  rw[<- hSG]at hgo lS
  simp only[sA,sB,seval,t0,t2,t3,aw,aB,lS]
  refine (bO hs om (Go.en hgo)).mono ?_
  rintro _ H6 ⟨s6,F6⟩
  have g6:=Go.take hgo
  have e6:=F6.next
  have x6:=rx.same (F6.old _ lt5 om)
  have lx6:=al x6 x4.len
  simp only[sA,sB,seval,t0,t2,t3]
  refine cr rfl ?_
  simp only[sR,sA,sB,seval,t0,t2,t3,lx6]
  refine (iA dead (ih m om) s6 h1 h2 om g6).mono ?_
  rintro _ H7 ⟨ys,d7,o7,rfl,y4,y5,y6,s7,F7,hy⟩
  have e7:=F7.next
  have F57:=F6.trans F7
  have x7:=x6.same (F7.old _ om om)
  have lx7:=al x7 x4.len
  simp only[sR,sA,sB,seval,t0,t2,t3]
  refine (gP _ x4.len y4.len x4.one y4.one).mono ?_
  rintro _ H8 ⟨b,rfl,b1,b2,rB,E8⟩
  have e8:=E8.next
  have s8:=s7.same (E8.old rb om)
  have x8:=x7.same (E8.old _ om)
  have o4:=nO SG b
  obtain⟨H9,m9,r9,n9,k9⟩:=aj x8 (n:=4) x4.len o4.len o4.one
  have k95:∀c,c<H5.next->c≠rb->c≠H2.next->H9.get c=H5.get c:=fun c h1 h2 h3=>by rw[k9 c h3,E8.old c om,F57.old c h1 h2]
  simp only[sR,sA,sB,seval,t0,t2,t3,m9]
  simp only[cw,cx,bR,cy,db,and_true,true_and,List.map_cons,List.map_nil,sA,sB,seval,t0,t2,t3]
  refine⟨⟨_,rfl,fun _=>⟨_,lx7,by simpa[aeq] using x4.aeq⟩⟩,m,om,o7,d7,_,om,r9,o4,q2.same (k95 _ om om om),s8.same (k9 rb om),y5,y6,⟨by have:=F5.next; omega,fun c h1 h2=>by rw[k95 c (by have:=F5.next; omega) h2 om,F5.old c h1 h2]⟩,om,?_⟩
  rcases hy with⟨e2,gy,xy⟩ | ⟨e,rfl,rfl⟩
  case inr=>exact .inr ⟨e,rfl,rfl⟩
  refine .inl ⟨.mk 3 SG 0 [e1,e2],gy,⟨_,xs++ys,rfl,.row (rB.same (k9 _ om)) (by rw[lA,x4.len,y4.len]) rfl ⟨⟨om,om⟩,om⟩,xs,ys,rfl,hx5.mono fun c hc=>?_,.sing (xy.mono fun c hc=>?_)⟩⟩
  ·have c1:=hc.1.1
   have c2:=hc.1.2
   exact⟨⟨⟨c1,om⟩,hc.2⟩,k95 c c2 om hc.2⟩
  ·have c1:=hc.1
   have c2:=hc.2
   exact⟨⟨⟨om,om⟩,om⟩,by rw[k9 c om,E8.old c om]⟩
 | false=>
 simp only[sA,sB,seval,t0,t2,t3]
 refine (aJ hs _).mono ?_
 rintro _ _ ⟨rfl,rfl⟩
 have i2:gd (.ok w5) [45]=jV w5 [45]:=rfl
 rw[i2]
 cases b2:jV w5 [45] with
 | true=>
  rw[if_pos (by rw[hlv,b1,b2] <;> rfl)]at hp
  have hgo:Go s (Except.ok w5) d' d' r fun w=>dn (bC s w) fun w1=>fF (pE s m (.rule 1) d' w1) fun e2 w2=>pE s m (.loop 2 (.mk 3 w5.S 0 [e1,e2])) d' w2:=.inl ⟨w5,rfl,rfl,ok5,hp⟩
  obtain⟨SG,hSG⟩:∃SG,SG=w5.S:=⟨_,rfl⟩
  rw[<- hSG]at hgo lS
  simp only[sA,sB,seval,t0,t2,t3,aw,aB,lS]
  refine (bO hs om (Go.en hgo)).mono ?_
  rintro _ H6 ⟨s6,F6⟩
  have g6:=Go.take hgo
  have e6:=F6.next
  have x6:=rx.same (F6.old _ lt5 om)
  have lx6:=al x6 x4.len
  simp only[sA,sB,seval,t0,t2,t3]
  refine cr rfl ?_
  simp only[sR,sA,sB,seval,t0,t2,t3,lx6]
  refine (iA dead (ih m om) s6 h1 h2 om g6).mono ?_
  rintro _ H7 ⟨ys,d7,o7,rfl,y4,y5,y6,s7,F7,hy⟩
  have e7:=F7.next
  have F57:=F6.trans F7
  have x7:=x6.same (F7.old _ om om)
  have lx7:=al x7 x4.len
  simp only[sR,sA,sB,seval,t0,t2,t3]
  refine (gP _ x4.len y4.len x4.one y4.one).mono ?_
  rintro _ H8 ⟨b,rfl,b1,b2,rB,E8⟩
  have e8:=E8.next
  have s8:=s7.same (E8.old rb om)
  have x8:=x7.same (E8.old _ om)
  have o4:=nO SG b
  obtain⟨H9,m9,r9,n9,k9⟩:=aj x8 (n:=4) x4.len o4.len o4.one
  have k95:∀c,c<H5.next->c≠rb->c≠H2.next->H9.get c=H5.get c:=fun c h1 h2 h3=>by rw[k9 c h3,E8.old c om,F57.old c h1 h2]
  simp only[sR,sA,sB,seval,t0,t2,t3,m9]
  simp only[cw,cx,bR,cy,db,and_true,true_and,List.map_cons,List.map_nil,sA,sB,seval,t0,t2,t3]
  refine⟨⟨_,rfl,fun _=>⟨_,lx7,by simpa[aeq] using x4.aeq⟩⟩,m,om,o7,d7,_,om,r9,o4,q2.same (k95 _ om om om),s8.same (k9 rb om),y5,y6,⟨by have:=F5.next; omega,fun c h1 h2=>by rw[k95 c (by have:=F5.next; omega) h2 om,F5.old c h1 h2]⟩,om,?_⟩
  rcases hy with⟨e2,gy,xy⟩ | ⟨e,rfl,rfl⟩
  case inr=>exact .inr ⟨e,rfl,rfl⟩
  refine .inl ⟨.mk 3 SG 0 [e1,e2],gy,⟨_,xs++ys,rfl,.row (rB.same (k9 _ om)) (by rw[lA,x4.len,y4.len]) rfl ⟨⟨om,om⟩,om⟩,xs,ys,rfl,hx5.mono fun c hc=>?_,.sing (xy.mono fun c hc=>?_)⟩⟩
  ·have c1:=hc.1.1
   have c2:=hc.1.2
   exact⟨⟨⟨c1,om⟩,hc.2⟩,k95 c c2 om hc.2⟩
  ·have c1:=hc.1
   have c2:=hc.2
   exact⟨⟨⟨om,om⟩,om⟩,by rw[k9 c om,E8.old c om]⟩
 | false=>
 rw[if_neg (by rw[hlv]; simp only[b1,b2]; simp)]at hp
 simp only[aV,sJ]at hp
 subst hp
 obtain⟨H6,m6,r6,n6,k6⟩:=aj q2 (n:=4) rfl x4.len x4.one
 simp only[sA,sB,seval,t0,t2,t3,lx5,m6]
 refine bL _ _ _ _ (v:=.agg xs) (by simp only[sA,sB,seval,t2]; exact al r6 x4.len) ?_
 refine⟨xs,d',_,rfl,x4,h1,h2,hs.same (k6 rb om),⟨om,fun c hc hp=>by rw[k6 c om,F5.old c hc hp]⟩,.inl ⟨e1,w5,rfl,rfl,rfl,ok5,hx5.mono fun c hc=>?_⟩⟩
 have c1:=hc.1.1
 have c2:=hc.1.2
 exact⟨⟨om,om⟩,k6 c om⟩
theorem GI{rb:Nat}{s:Bs}{f:Nat}(ih:∀f',f'<=f->ew rb s (IP 3) fun d w=>pE s f' (.rule 3) d w):ew rb s 115 fun d w=>pE s (f+1) (.rule 4) d w:=by
 intro H w d r hsA ok hd hrb hr
 have dead:=ip rb s 3 om
 have fnk:IP 3=161:=rfl
 rw[fnk]at dead
 have ih:∀f',f'<=f->ew rb s 161 fun d w=>pE s f' (.rule 3) d w:=ih
 refine af rfl Km rfl ?_
 simp only[cH,cK]at hr
 obtain⟨H1,m1,r1,n1,k1⟩:=au H [.int .u8 0,.str [],.int .i64 0,.slice none 0 (.known 0)] (n:=4) rfl
 have F1:Fp rb H H1:=⟨om,fun c hc _=>k1 c om⟩
 simp only[Mn,sA,sB,seval,m1]
 refine (iA dead (ih f rL) (hsA.same (k1 rb om)) rL hd om (.inl ⟨w,rfl,rfl,ok,hr⟩)).mono ?_
 rintro _ H2 ⟨xs,d2,o2,rfl,x4,h1,h2,s2,F2,hx⟩
 have e2:=F2.next
 obtain⟨H3,m3,r3,n3,k3⟩:=au H2 [.int .u8 0,.str [],.int .i64 0,.slice none 0 (.known 0)] (n:=4) rfl
 obtain⟨H4,m4,r4,n4,k4⟩:=aj r3 (n:=4) rfl x4.len x4.one
 have k42:∀c,c<H2.next->H4.get c=H2.get c:=fun c hc=>by rw[k4 c om,k3 c om]
 have F4:Fp rb H H4:=⟨om,fun c hc hp=>by rw[k42 c om,F2.old c om hp,F1.old c hc hp]⟩
 simp only[sA,sB,seval,m3,m4]
 refine aG (fun m (T:bG) H'=>∃o' d' xs,m<=f/\T 0=ae rb 10 0/\T 2=ae H.next 4 0/\T 3=ae H2.next 4 0/\aT H' H2.next xs/\tT xs/\aT H' H.next [.int .u8 0,.str [],.int .i64 0,.slice none 0 (.known 0)]/\fA rb s H' o' d'/\d<=d'/\d'<=200/\Fp rb H H'/\H2.next<H'.next/\((∃e,Go s o' d' d r (fun w=>pE s m (.loop 4 e) d w)/\XE (fun c=>In (H.next+1) H'.next c/\c≠H2.next) H' e xs)∨∃e,r=.error e/\o'=.error e)) f
  ⟨o2,d2,xs,Nat.le_refl _,by simp only[sA,sB,seval],by simp only[sA,sB,seval],by simp only[sA,sB,seval],r4,x4,r1.same (by rw[k42 _ om,F2.old _ om om]),s2.same (k42 rb om),h1,h2,F4,om,hx.imp (fun ⟨e,g,q⟩=>⟨e,g,q.mono fun c hc=>by
   have c1:=hc.1
   have c2:=hc.2
   exact⟨⟨⟨om,om⟩,om⟩,k42 c c2⟩⟩) fun q=>q⟩ ?_
 rintro m T H5 ⟨o',d',xs,hm,t0,t2,t3,rx,x4,q2,hs,h1,h2,F5,lt5,hx⟩
 have e5:=F5.next
 have lx5:=al rx x4.len
 simp only[sA,sB,seval,t0,t2,t3]
 rcases hx with⟨e1,hgo,hx5⟩ | ⟨e,rfl,rfl⟩
 rotate_left
 ·skip
  refine (aJ hs _).mono ?_
  rintro _ _ ⟨rfl,rfl⟩
  simp only[gd,sA,sB,seval,t0,t2,t3]
  obtain⟨H6,m6,r6,n6,k6⟩:=aj q2 (n:=4) rfl x4.len x4.one
  simp only[sA,sB,seval,t0,t2,t3,lx5,m6]
  refine bL _ _ _ _ (v:=.agg xs) (by simp only[sA,sB,seval,t2]; exact al r6 x4.len) ?_
  exact⟨xs,d',_,rfl,x4,h1,h2,hs.same (k6 rb om),⟨om,fun c hc hp=>by rw[k6 c om,F5.old c hc hp]⟩,.inr ⟨e,rfl,rfl⟩⟩
 rcases hgo with⟨w5,rfl,rfl,ok5,hp⟩ | ⟨e,rfl,rfl⟩
 rotate_left
 ·refine (aJ hs _).mono ?_
  rintro _ _ ⟨rfl,rfl⟩
  simp only[gd,sA,sB,seval,t0,t2,t3]
  obtain⟨H6,m6,r6,n6,k6⟩:=aj q2 (n:=4) rfl x4.len x4.one
  simp only[sA,sB,seval,t0,t2,t3,lx5,m6]
  refine bL _ _ _ _ (v:=.agg xs) (by simp only[sA,sB,seval,t2]; exact al r6 x4.len) ?_
  exact⟨xs,d',_,rfl,x4,h1,h2,hs.same (k6 rb om),⟨om,fun c hc hp=>by rw[k6 c om,F5.old c hc hp]⟩,.inr ⟨e,rfl,rfl⟩⟩
 cases m with
 | zero=>simp[pE]at hp
 | succ m=>
 rw[cH]at hp
 simp only[cK,Nat.add_one_sub_one,Nat.reduceSub]at hp
 have lS:am false 1 H5 (ae rb 10 2)=some (.str w5.S):=ah (show aT H5 rb (gL s w5 0 0 d') from hs) rfl rfl
 have hlv:fq w5 (yr 4)=jV w5 [38,38]:=(dP ok5 rfl).symm
 refine (aJ hs _).mono ?_
 rintro _ _ ⟨rfl,rfl⟩
 have i1:gd (.ok w5) [38,38]=jV w5 [38,38]:=rfl
 rw[i1]
 cases b1:jV w5 [38,38] with
 | true=>
  rw[if_pos (by rw[hlv,b1] <;> rfl)]at hp
  have hgo:Go s (Except.ok w5) d' d' r fun w=>dn (bC s w) fun w1=>fF (pE s m (.rule 3) d' w1) fun e2 w2=>pE s m (.loop 4 (.mk 3 w5.S 0 [e1,e2])) d' w2:=.inl ⟨w5,rfl,rfl,ok5,hp⟩
  have hS5:w5.S=[38,38]:=by simp only[jV,QT,Q2]at b1; exact b1.2
  rw[hS5]at hgo
  simp only[sA,sB,seval,t0,t2,t3]
  refine (bO hs om (Go.en hgo)).mono ?_
  rintro _ H6 ⟨s6,F6⟩
  have g6:=Go.take hgo
  have e6:=F6.next
  have x6:=rx.same (F6.old _ lt5 om)
  have lx6:=al x6 x4.len
  simp only[sA,sB,seval,t0,t2,t3]
  refine cr rfl ?_
  simp only[sR,sA,sB,seval,t0,t2,t3,lx6]
  refine (iA dead (ih m om) s6 h1 h2 om g6).mono ?_
  rintro _ H7 ⟨ys,d7,o7,rfl,y4,y5,y6,s7,F7,hy⟩
  have e7:=F7.next
  have F57:=F6.trans F7
  have x7:=x6.same (F7.old _ om om)
  have lx7:=al x7 x4.len
  simp only[sR,sA,sB,seval,t0,t2,t3]
  refine (gP _ x4.len y4.len x4.one y4.one).mono ?_
  rintro _ H8 ⟨b,rfl,b1,b2,rB,E8⟩
  have e8:=E8.next
  have s8:=s7.same (E8.old rb om)
  have x8:=x7.same (E8.old _ om)
  have o4:=nO [38,38] b
  obtain⟨H9,m9,r9,n9,k9⟩:=aj x8 (n:=4) x4.len o4.len o4.one
  have k95:∀c,c<H5.next->c≠rb->c≠H2.next->H9.get c=H5.get c:=fun c h1 h2 h3=>by rw[k9 c h3,E8.old c om,F57.old c h1 h2]
  simp only[sR,sA,sB,seval,t0,t2,t3,m9]
  simp only[cw,cx,bR,cy,db,and_true,true_and,List.map_cons,List.map_nil,sA,sB,seval,t0,t2,t3]
  refine⟨⟨_,rfl,fun _=>⟨_,lx7,by simpa[aeq] using x4.aeq⟩⟩,m,om,o7,d7,_,om,r9,o4,q2.same (k95 _ om om om),s8.same (k9 rb om),y5,y6,⟨by have:=F5.next; omega,fun c h1 h2=>by rw[k95 c (by have:=F5.next; omega) h2 om,F5.old c h1 h2]⟩,om,?_⟩
  rcases hy with⟨e2,gy,xy⟩ | ⟨e,rfl,rfl⟩
  case inr=>exact .inr ⟨e,rfl,rfl⟩
  refine .inl ⟨.mk 3 [38,38] 0 [e1,e2],gy,⟨_,xs++ys,rfl,.row (rB.same (k9 _ om)) (by rw[lA,x4.len,y4.len]) rfl ⟨⟨om,om⟩,om⟩,xs,ys,rfl,hx5.mono fun c hc=>?_,.sing (xy.mono fun c hc=>?_)⟩⟩
  ·have c1:=hc.1.1
   have c2:=hc.1.2
   exact⟨⟨⟨c1,om⟩,hc.2⟩,k95 c c2 om hc.2⟩
  ·have c1:=hc.1
   have c2:=hc.2
   exact⟨⟨⟨om,om⟩,om⟩,by rw[k9 c om,E8.old c om]⟩
 | false=>
 rw[if_neg (by rw[hlv]; simp only[b1]; simp)]at hp
 simp only[aV,sJ]at hp
 subst hp
 obtain⟨H6,m6,r6,n6,k6⟩:=aj q2 (n:=4) rfl x4.len x4.one
 simp only[sA,sB,seval,t0,t2,t3,lx5,m6]
 refine bL _ _ _ _ (v:=.agg xs) (by simp only[sA,sB,seval,t2]; exact al r6 x4.len) ?_
 refine⟨xs,d',_,rfl,x4,h1,h2,hs.same (k6 rb om),⟨om,fun c hc hp=>by rw[k6 c om,F5.old c hc hp]⟩,.inl ⟨e1,w5,rfl,rfl,rfl,ok5,hx5.mono fun c hc=>?_⟩⟩
 have c1:=hc.1.1
 have c2:=hc.1.2
 exact⟨⟨om,om⟩,k6 c om⟩
theorem Jw{rb:Nat}{s:Bs}{f:Nat}(ih:∀f',f'<=f->ew rb s (IP 4) fun d w=>pE s f' (.rule 4) d w):ew rb s 77 fun d w=>pE s (f+1) (.rule 5) d w:=by
 intro H w d r hsA ok hd hrb hr
 have dead:=ip rb s 4 om
 have fnk:IP 4=115:=rfl
 rw[fnk]at dead
 have ih:∀f',f'<=f->ew rb s 115 fun d w=>pE s f' (.rule 4) d w:=ih
 refine af rfl MZ rfl ?_
 simp only[cH,cK]at hr
 obtain⟨H1,m1,r1,n1,k1⟩:=au H [.int .u8 0,.str [],.int .i64 0,.slice none 0 (.known 0)] (n:=4) rfl
 have F1:Fp rb H H1:=⟨om,fun c hc _=>k1 c om⟩
 simp only[Qv,sA,sB,seval,m1]
 refine (iA dead (ih f rL) (hsA.same (k1 rb om)) rL hd om (.inl ⟨w,rfl,rfl,ok,hr⟩)).mono ?_
 rintro _ H2 ⟨xs,d2,o2,rfl,x4,h1,h2,s2,F2,hx⟩
 have e2:=F2.next
 obtain⟨H3,m3,r3,n3,k3⟩:=au H2 [.int .u8 0,.str [],.int .i64 0,.slice none 0 (.known 0)] (n:=4) rfl
 obtain⟨H4,m4,r4,n4,k4⟩:=aj r3 (n:=4) rfl x4.len x4.one
 have k42:∀c,c<H2.next->H4.get c=H2.get c:=fun c hc=>by rw[k4 c om,k3 c om]
 have F4:Fp rb H H4:=⟨om,fun c hc hp=>by rw[k42 c om,F2.old c om hp,F1.old c hc hp]⟩
 simp only[sA,sB,seval,m3,m4]
 refine aG (fun m (T:bG) H'=>∃o' d' xs,m<=f/\T 0=ae rb 10 0/\T 2=ae H.next 4 0/\T 3=ae H2.next 4 0/\aT H' H2.next xs/\tT xs/\aT H' H.next [.int .u8 0,.str [],.int .i64 0,.slice none 0 (.known 0)]/\fA rb s H' o' d'/\d<=d'/\d'<=200/\Fp rb H H'/\H2.next<H'.next/\((∃e,Go s o' d' d r (fun w=>pE s m (.loop 5 e) d w)/\XE (fun c=>In (H.next+1) H'.next c/\c≠H2.next) H' e xs)∨∃e,r=.error e/\o'=.error e)) f
  ⟨o2,d2,xs,Nat.le_refl _,by simp only[sA,sB,seval],by simp only[sA,sB,seval],by simp only[sA,sB,seval],r4,x4,r1.same (by rw[k42 _ om,F2.old _ om om]),s2.same (k42 rb om),h1,h2,F4,om,hx.imp (fun ⟨e,g,q⟩=>⟨e,g,q.mono fun c hc=>by
   have c1:=hc.1
   have c2:=hc.2
   exact⟨⟨⟨om,om⟩,om⟩,k42 c c2⟩⟩) fun q=>q⟩ ?_
 rintro m T H5 ⟨o',d',xs,hm,t0,t2,t3,rx,x4,q2,hs,h1,h2,F5,lt5,hx⟩
 have e5:=F5.next
 have lx5:=al rx x4.len
 simp only[sA,sB,seval,t0,t2,t3]
 rcases hx with⟨e1,hgo,hx5⟩ | ⟨e,rfl,rfl⟩
 rotate_left
 ·skip
  refine (aJ hs _).mono ?_
  rintro _ _ ⟨rfl,rfl⟩
  simp only[gd,sA,sB,seval,t0,t2,t3]
  obtain⟨H6,m6,r6,n6,k6⟩:=aj q2 (n:=4) rfl x4.len x4.one
  simp only[sA,sB,seval,t0,t2,t3,lx5,m6]
  refine bL _ _ _ _ (v:=.agg xs) (by simp only[sA,sB,seval,t2]; exact al r6 x4.len) ?_
  exact⟨xs,d',_,rfl,x4,h1,h2,hs.same (k6 rb om),⟨om,fun c hc hp=>by rw[k6 c om,F5.old c hc hp]⟩,.inr ⟨e,rfl,rfl⟩⟩
 rcases hgo with⟨w5,rfl,rfl,ok5,hp⟩ | ⟨e,rfl,rfl⟩
 rotate_left
 ·refine (aJ hs _).mono ?_
  rintro _ _ ⟨rfl,rfl⟩
  simp only[gd,sA,sB,seval,t0,t2,t3]
  obtain⟨H6,m6,r6,n6,k6⟩:=aj q2 (n:=4) rfl x4.len x4.one
  simp only[sA,sB,seval,t0,t2,t3,lx5,m6]
  refine bL _ _ _ _ (v:=.agg xs) (by simp only[sA,sB,seval,t2]; exact al r6 x4.len) ?_
  exact⟨xs,d',_,rfl,x4,h1,h2,hs.same (k6 rb om),⟨om,fun c hc hp=>by rw[k6 c om,F5.old c hc hp]⟩,.inr ⟨e,rfl,rfl⟩⟩
 cases m with
 | zero=>simp[pE]at hp
 | succ m=>
 rw[cH]at hp
 simp only[cK,Nat.add_one_sub_one,Nat.reduceSub]at hp
 have lS:am false 1 H5 (ae rb 10 2)=some (.str w5.S):=ah (show aT H5 rb (gL s w5 0 0 d') from hs) rfl rfl
 have hlv:fq w5 (yr 5)=jV w5 [124,124]:=(dP ok5 rfl).symm
 refine (aJ hs _).mono ?_
 rintro _ _ ⟨rfl,rfl⟩
 have i1:gd (.ok w5) [124,124]=jV w5 [124,124]:=rfl
 rw[i1]
 cases b1:jV w5 [124,124] with
 | true=>
  rw[if_pos (by rw[hlv,b1] <;> rfl)]at hp
  have hgo:Go s (Except.ok w5) d' d' r fun w=>dn (bC s w) fun w1=>fF (pE s m (.rule 4) d' w1) fun e2 w2=>pE s m (.loop 5 (.mk 3 w5.S 0 [e1,e2])) d' w2:=.inl ⟨w5,rfl,rfl,ok5,hp⟩
  have hS5:w5.S=[124,124]:=by simp only[jV,QT,Q2]at b1; exact b1.2
  rw[hS5]at hgo
  simp only[sA,sB,seval,t0,t2,t3]
  refine (bO hs om (Go.en hgo)).mono ?_
  rintro _ H6 ⟨s6,F6⟩
  have g6:=Go.take hgo
  have e6:=F6.next
  have x6:=rx.same (F6.old _ lt5 om)
  have lx6:=al x6 x4.len
  simp only[sA,sB,seval,t0,t2,t3]
  refine cr rfl ?_
  simp only[sR,sA,sB,seval,t0,t2,t3,lx6]
  refine (iA dead (ih m om) s6 h1 h2 om g6).mono ?_
  rintro _ H7 ⟨ys,d7,o7,rfl,y4,y5,y6,s7,F7,hy⟩
  have e7:=F7.next
  have F57:=F6.trans F7
  have x7:=x6.same (F7.old _ om om)
  have lx7:=al x7 x4.len
  simp only[sR,sA,sB,seval,t0,t2,t3]
  refine (gP _ x4.len y4.len x4.one y4.one).mono ?_
  rintro _ H8 ⟨b,rfl,b1,b2,rB,E8⟩
  have e8:=E8.next
  have s8:=s7.same (E8.old rb om)
  have x8:=x7.same (E8.old _ om)
  have o4:=nO [124,124] b
  obtain⟨H9,m9,r9,n9,k9⟩:=aj x8 (n:=4) x4.len o4.len o4.one
  have k95:∀c,c<H5.next->c≠rb->c≠H2.next->H9.get c=H5.get c:=fun c h1 h2 h3=>by rw[k9 c h3,E8.old c om,F57.old c h1 h2]
  simp only[sR,sA,sB,seval,t0,t2,t3,m9]
  simp only[cw,cx,bR,cy,db,and_true,true_and,List.map_cons,List.map_nil,sA,sB,seval,t0,t2,t3]
  refine⟨⟨_,rfl,fun _=>⟨_,lx7,by simpa[aeq] using x4.aeq⟩⟩,m,om,o7,d7,_,om,r9,o4,q2.same (k95 _ om om om),s8.same (k9 rb om),y5,y6,⟨by have:=F5.next; omega,fun c h1 h2=>by rw[k95 c (by have:=F5.next; omega) h2 om,F5.old c h1 h2]⟩,om,?_⟩
  rcases hy with⟨e2,gy,xy⟩ | ⟨e,rfl,rfl⟩
  case inr=>exact .inr ⟨e,rfl,rfl⟩
  refine .inl ⟨.mk 3 [124,124] 0 [e1,e2],gy,⟨_,xs++ys,rfl,.row (rB.same (k9 _ om)) (by rw[lA,x4.len,y4.len]) rfl ⟨⟨om,om⟩,om⟩,xs,ys,rfl,hx5.mono fun c hc=>?_,.sing (xy.mono fun c hc=>?_)⟩⟩
  ·have c1:=hc.1.1
   have c2:=hc.1.2
   exact⟨⟨⟨c1,om⟩,hc.2⟩,k95 c c2 om hc.2⟩
  ·have c1:=hc.1
   have c2:=hc.2
   exact⟨⟨⟨om,om⟩,om⟩,by rw[k9 c om,E8.old c om]⟩
 | false=>
 rw[if_neg (by rw[hlv]; simp only[b1]; simp)]at hp
 simp only[aV,sJ]at hp
 subst hp
 obtain⟨H6,m6,r6,n6,k6⟩:=aj q2 (n:=4) rfl x4.len x4.one
 simp only[sA,sB,seval,t0,t2,t3,lx5,m6]
 refine bL _ _ _ _ (v:=.agg xs) (by simp only[sA,sB,seval,t2]; exact al r6 x4.len) ?_
 refine⟨xs,d',_,rfl,x4,h1,h2,hs.same (k6 rb om),⟨om,fun c hc hp=>by rw[k6 c om,F5.old c hc hp]⟩,.inl ⟨e1,w5,rfl,rfl,rfl,ok5,hx5.mono fun c hc=>?_⟩⟩
 have c1:=hc.1.1
 have c2:=hc.1.2
 exact⟨⟨om,om⟩,k6 c om⟩
open Go.Abs Go.Abs.S
def qN(o:Except gB Wd):Bool:=gd o [61,61]||(gd o [33,61]||(gd o [60,61]||(gd o [62,61]||(gd o [60]||gd o [62]))))
theorem CO{s:Bs}{w:Wd}(h:fy s w):qN (.ok w)=fq w (yr 3):=by
 unfold qN
 simp only[gd]
 rw[dP h rfl,dP h rfl,dP h rfl,dP h rfl,dP h rfl,dP h rfl]
 unfold fq yr
 cases Nat.beq w.k 4 <;> simp
theorem GH{rb:Nat}{s:Bs}{f:Nat}(ih:∀f',f'<=f->ew rb s 185 fun d w=>pE s f' (.rule 2) d w):ew rb s 161 fun d w=>pE s (f+1) (.rule 3) d w:=by
 intro H w d r hsA ok hd hrb hr
 have dead:gz rb s 185:=ip rb s 2 om
 refine af rfl Kl rfl ?_
 simp only[cH,cK]at hr
 obtain⟨H1,m1,r1,n1,k1⟩:=au H [.int .u8 0,.str [],.int .i64 0,.slice none 0 (.known 0)] (n:=4) rfl
 have F1:Fp rb H H1:=⟨om,fun c hc _=>k1 c om⟩
 simp only[Mj,sA,sB,seval,m1]
 refine (iA dead (ih f rL) (hsA.same (k1 rb om)) rL hd om (.inl ⟨w,rfl,rfl,ok,hr⟩)).mono ?_
 rintro _ H2 ⟨xs,d2,o2,rfl,x4,h1,h2,s2,F2,hx⟩
 have e2:=F2.next
 obtain⟨H3,m3,r3,n3,k3⟩:=au H2 [.int .u8 0,.str [],.int .i64 0,.slice none 0 (.known 0)] (n:=4) rfl
 obtain⟨H4,m4,r4,n4,k4⟩:=aj r3 (n:=4) rfl x4.len x4.one
 have k42:∀c,c<H2.next->H4.get c=H2.get c:=fun c hc=>by rw[k4 c om,k3 c om]
 have F4:Fp rb H H4:=⟨om,fun c hc hp=>by rw[k42 c om,F2.old c om hp,F1.old c hc hp]⟩
 have s4:=s2.same (k42 rb om)
 have q4:aT H4 H.next _:=r1.same (by rw[k42 _ om,F2.old _ om om])
 have lx4:=al r4 x4.len
 simp only[sA,sB,seval,m3,m4]
 refine aq.mono (K:=GP _ _ _ _ (fun T' H'=>H4=H'/\T' 0=ae rb 10 0/\T' 2=ae H.next 4 0/\T' 3=ae H2.next 4 0/\T' 28=.bool (qN o2))) ?_ (fun v H' h=>nC (bH _ _) _ ?_ h)
 ·refine (aJ s4 _).mono ?_
  rintro _ _ ⟨rfl,rfl⟩
  cases b1:gd o2 [61,61] with
  | true=>simp only[sA,sB,seval,qN,b1]; exact⟨tt,tt,tt,tt,by rfl⟩
  | false=>
  simp only[sA,sB,seval]
  refine (aJ s4 _).mono ?_
  rintro _ _ ⟨rfl,rfl⟩
  cases b2:gd o2 [33,61] with
  | true=>simp only[sA,sB,seval,qN,b1,b2]; exact⟨tt,tt,tt,tt,by rfl⟩
  | false=>
  simp only[sA,sB,seval]
  refine (aJ s4 _).mono ?_
  rintro _ _ ⟨rfl,rfl⟩
  cases b3:gd o2 [60,61] with
  | true=>simp only[sA,sB,seval,qN,b1,b2,b3]; exact⟨tt,tt,tt,tt,by rfl⟩
  | false=>
  simp only[sA,sB,seval]
  refine (aJ s4 _).mono ?_
  rintro _ _ ⟨rfl,rfl⟩
  cases b4:gd o2 [62,61] with
  | true=>simp only[sA,sB,seval,qN,b1,b2,b3,b4]; exact⟨tt,tt,tt,tt,by rfl⟩
  | false=>
  simp only[sA,sB,seval]
  refine (aJ s4 _).mono ?_
  rintro _ _ ⟨rfl,rfl⟩
  cases b5:gd o2 [60] with
  | true=>simp only[sA,sB,seval,qN,b1,b2,b3,b4,b5]; exact⟨tt,tt,tt,tt,by rfl⟩
  | false=>
  simp only[sA,sB,seval]
  refine (aJ s4 _).mono ?_
  rintro _ _ ⟨rfl,rfl⟩
  cases b6:gd o2 [62] with
  | true=>simp only[sA,sB,seval,qN,b1,b2,b3,b4,b5,b6]; exact⟨tt,tt,tt,tt,by rfl⟩
  | false=>simp only[sA,sB,seval,qN,b1,b2,b3,b4,b5,b6]; exact⟨tt,tt,tt,tt,by rfl⟩
 rintro T _ ⟨rfl,t0,t2,t3,t28⟩
 cases hb:qN o2 with
 | false=>
  rw[hb]at t28
  obtain⟨H6,m6,r6,n6,k6⟩:=aj q4 (n:=4) rfl x4.len x4.one
  simp only[sA,sB,seval,t0,t2,t3,t28,lx4,m6]
  refine bL _ _ _ _ (v:=.agg xs) (by simp only[sA,sB,seval,t2]; exact al r6 x4.len) ?_
  refine⟨xs,d2,o2,rfl,x4,h1,h2,s4.same (k6 rb om),⟨om,fun c hc hp=>by rw[k6 c om,F4.old c hc hp]⟩,?_⟩
  rcases hx with⟨e1,hgo,hx5⟩ | ⟨e,rfl,rfl⟩
  case inr=>exact .inr ⟨e,rfl,rfl⟩
  rcases hgo with⟨w5,rfl,rfl,ok5,hp⟩ | ⟨e,rfl,rfl⟩
  case inr=>exact .inr ⟨e,rfl,rfl⟩
  cases f with
  | zero=>simp[pE]at hp
  | succ m=>
  rw[cH]at hp
  simp only[cK]at hp
  rw[if_neg (by rw[<- CO ok5,hb]; simp)]at hp
  simp only[aV,sJ]at hp
  subst hp
  refine .inl ⟨e1,w5,rfl,rfl,rfl,ok5,hx5.mono fun c hc=>?_⟩
  have c1:=hc.1
  have c2:=hc.2
  exact⟨⟨om,om⟩,by rw[k6 c om,k42 c c2]⟩
 | true=>
 rw[hb]at t28
 have alive:∃w5,o2=.ok w5:=by
  cases o2 with
  | ok w=>exact⟨w,rfl⟩
  | error e=>exact absurd hb (by simp[qN,gd])
 obtain⟨w5,rfl⟩:=alive
 rcases hx with⟨e1,hgo,hx5⟩ | ⟨e,_,he⟩
 rotate_left
 ·simp at he
 rcases hgo with⟨w5',hw5,rfl,ok5,hp⟩ | ⟨e,he,_⟩
 rotate_left
 ·simp at he
 simp only[Except.ok.injEq]at hw5
 subst hw5
 cases f with
 | zero=>simp[pE]at hp
 | succ m=>
 rw[cH]at hp
 simp only[cK]at hp
 rw[if_pos (by rw[<- CO ok5,hb])]at hp
 have hgo:Go s (Except.ok w5) d2 d2 r fun w=>dn (bC s w) fun w1=>fF (pE s m (.rule 2) d2 w1) fun e2 w2=>aV (.mk 3 w5.S 0 [e1,e2]) w2:=.inl ⟨w5,rfl,rfl,ok5,hp⟩
 obtain⟨SG,hSG⟩:∃SG,SG=w5.S:=⟨_,rfl⟩
 have lS:am false 1 H4 (ae rb 10 2)=some (.str w5.S):=ah (show aT H4 rb (gL s w5 0 0 d2) from s4) rfl rfl
 rw[<- hSG]at hgo lS
 simp only[sA,sB,seval,t0,t2,t3,t28,aw,aB,lS]
 refine (bO s4 om (Go.en hgo)).mono ?_
 rintro _ H6 ⟨s6,F6⟩
 have g6:=Go.take hgo
 have e6:=F6.next
 have x6:=r4.same (F6.old _ om om)
 have lx6:=al x6 x4.len
 simp only[sA,sB,seval,t0,t2,t3]
 refine cr rfl ?_
 simp only[sR,sA,sB,seval,t0,t2,t3,lx6]
 refine (iA dead (ih m om) s6 h1 h2 om g6).mono ?_
 rintro _ H7 ⟨ys,d7,o7,rfl,y4,y5,y6,s7,F7,hy⟩
 have e7:=F7.next
 have F57:=F6.trans F7
 have x7:=x6.same (F7.old _ om om)
 have lx7:=al x7 x4.len
 simp only[sR,sA,sB,seval,t0,t2,t3]
 refine (gP _ x4.len y4.len x4.one y4.one).mono ?_
 rintro _ H8 ⟨b,rfl,b1,b2,rB,E8⟩
 have e8:=E8.next
 have s8:=s7.same (E8.old rb om)
 have x8:=x7.same (E8.old _ om)
 have o4:=nO SG b
 obtain⟨H9,m9,r9,n9,k9⟩:=aj x8 (n:=4) x4.len o4.len o4.one
 have k95:∀c,c<H4.next->c≠rb->c≠H2.next->H9.get c=H4.get c:=fun c h1 h2 h3=>by rw[k9 c h3,E8.old c om,F57.old c h1 h2]
 obtain⟨Ha,ma,ra,na,ka⟩:=aj (H:=H9) (q4.same (k95 _ om om om)) (n:=4) rfl o4.len o4.one
 have l9:=al r9 o4.len
 simp only[sR,sA,sB,seval,t0,t2,t3,m9]
 simp only[cw,cx,bR,cy,db,and_true,true_and,List.map_cons,List.map_nil,sA,sB,seval,t0,t2,t3]
 refine⟨⟨_,rfl,fun _=>⟨_,lx7,by simpa[aeq] using x4.aeq⟩⟩,?_⟩
 simp only[sA,sB,seval,t0,t2,t3,l9,ma]
 refine bL _ _ _ _ (by simp only[sA,sB,seval,t2]; exact al ra o4.len) ?_
 refine⟨_,d7,o7,rfl,o4,y5,y6,s8.same (by rw[ka rb om,k9 rb om]),⟨om,fun c hc hp=>by rw[ka c om,k95 c om hp om,F4.old c hc hp]⟩,?_⟩
 rcases hy with⟨e2,gy,xy⟩ | ⟨e,rfl,rfl⟩
 case inr=>exact .inr ⟨e,rfl,rfl⟩
 rcases gy with⟨w7,rfl,rfl,ok7,hp7⟩ | ⟨e,rfl,rfl⟩
 case inr=>exact .inr ⟨e,rfl,rfl⟩
 simp only[aV,sJ]at hp7
 subst hp7
 refine .inl ⟨.mk 3 SG 0 [e1,e2],w7,rfl,rfl,rfl,ok7,_,xs++ys,rfl,.row (rB.same (by rw[ka _ om,k9 _ om])) (by rw[lA,x4.len,y4.len]) rfl ⟨om,om⟩,xs,ys,rfl,hx5.mono fun c hc=>?_,.sing (xy.mono fun c hc=>?_)⟩
 ·have c1:=hc.1
  have c2:=hc.2
  exact⟨⟨om,om⟩,by rw[ka c om,k95 c om om om,k42 c c2]⟩
 ·have c1:=hc.1
  have c2:=hc.2
  exact⟨⟨om,om⟩,by rw[ka c om,k9 c om,E8.old c om]⟩
open Go.Abs Go.Abs.S
theorem fA.row{rb:Nat}{s:Bs}{H:aa}{o:Except gB Wd}{d:Nat}(h:fA rb s H o d):∃w e l,aT H rb (gL s w e l d)/\∀H' d',aT H' rb (gL s w e l (d':Nat))->fA rb s H' o d':=by
 cases o with
 | ok w=>exact⟨w,0,0,h,fun _ _ q=>q⟩
 | error f=>exact⟨W0,_,_,h.1,fun _ _ q=>⟨q,h.2⟩⟩
theorem fA.deep{rb:Nat}{s:Bs}{H:aa}{o:Except gB Wd}{d:Nat}(h:fA rb s H o (d+1))(hd:d<=1000):am false 1 H (ae rb 10 9)=some (.int .i64 ((d+1:Nat):Int))/\IntKind.i64.wrap (((d+1:Nat):Int)-1)=(d:Int)/\∃H',a8 1 H (ae rb 10 9) (.int .i64 (d:Int))=some H'/\fA rb s H' o d/\H'.next=H.next/\∀c,c≠rb->H'.get c=H.get c:=by
 obtain⟨w,e,l,hr,hk⟩:=h.row
 obtain⟨H',m,r,n,k⟩:=cE hr (n:=10) rfl (i:=9) om (x:=.int .i64 (d:Int)) rfl (l':=gL s w e l (d:Nat)) rfl
 exact⟨ah hr rfl rfl,xh,H',m,hk H' d r,n,k⟩
theorem AN{rb:Nat}{s:Bs}{f:Nat}(ihu:ew rb s 210 fun d w=>pE s f (.rule 0) d w)(ihp:ew rb s 211 fun d w=>pE s f .prim d w):ew rb s 210 fun d w=>pE s (f+1) (.rule 0) d w:=by
 intro H w d r hsA ok hd hrb hr
 have dead:gz rb s 210:=fP rb s
 refine af rfl Kh rfl ?_
 simp only[cH,cK]at hr
 obtain⟨H1,m1,r1,n1,k1⟩:=au H [.int .u8 0,.str [],.int .i64 0,.slice none 0 (.known 0)] (n:=4) rfl
 have F1:Fp rb H H1:=⟨om,fun c hc _=>k1 c om⟩
 have b0:=EG
 simp only[Mb,sA,sB,seval,m1]
 refine (lG (hsA.same (k1 rb om)) hd).mono ?_
 rintro _ H2 ⟨⟨b,rfl,⟨rfl,hlt,_,h3⟩ | ⟨rfl,d',h1,h2,hge,h3⟩⟩,F2,n2⟩
 rotate_left
 ·have hg:=hge ⟨w,rfl⟩
  rw[if_pos hg]at hr
  simp only[jq,sJ]at hr
  subst hr
  obtain⟨H3,m3,r3,n3,k3⟩:=aj (r1.same (F2.old _ om om)) (n:=4) rfl (xs:=[.int .u8 0,.str [],.int .i64 0,.slice none 0 (.known 0)]) rfl rfl
  have l3:=al r3 (n:=4) rfl
  simp only[sA,sB,seval,b0,m3]
  refine bL _ _ _ _ (v:=.agg [.int .u8 0,.str [],.int .i64 0,.slice none 0 (.known 0)]) (by simp only[sA,sB,seval]; exact l3) ?_
  exact⟨_,d',_,rfl,uR,h1,h2,h3.same (k3 rb om),⟨om,fun c hc hp=>by rw[k3 c om,F2.old c om hp,k1 c om]⟩,.inr ⟨_,rfl,rfl⟩⟩
 rw[if_neg om]at hr
 have q1:=r1.same (F2.old H.next om om)
 obtain⟨H3,m3,r3,n3,k3⟩:=au H2 [.int .u8 0,.str [],.int .i64 0,.slice none 0 (.known 0)] (n:=4) rfl
 obtain⟨H4,m4,r4,n4,k4⟩:=aj r3 (n:=4) rfl (xs:=[.int .u8 0,.str [],.int .i64 0,.slice none 0 (.known 0)]) rfl rfl
 have k42:∀c,c<H2.next->H4.get c=H2.get c:=fun c hc=>by rw[k4 c om,k3 c om]
 have F4:Fp rb H H4:=⟨om,fun c hc hp=>by rw[k42 c om,F2.old c om hp,F1.old c hc hp]⟩
 have s4:=h3.same (k42 rb om)
 have q4:=q1.same (k42 H.next om)
 have lS:am false 1 H4 (ae rb 10 2)=some (.str w.S):=ah (show aT H4 rb (gL s w 0 0 ((d+1:Nat))) from s4) rfl rfl
 have dM:∀(H5:aa) (xs:List ab) (o5:Except gB Wd) (d5:Nat),tT xs->d+1<=d5->d5<=200->fA rb s H5 o5 d5->Fp rb H4 H5->((∃e w',r=.ok (e,w')/\o5=.ok w'/\d5=d+1/\fy s w'/\XE (In H4.next H5.next) H5 e xs)∨∃e,r=.error e/\o5=.error e) ->
   ∃H6 d6,a8 4 H5 (ae H2.next 4 0) (.agg xs)=some H6/\am false 1 H6 (ae rb 10 9)=some (.int .i64 ((d6+1:Nat):Int))/\IntKind.i64.wrap (((d6+1:Nat):Int)-1)=(d6:Int)/\∃H7,a8 1 H6 (ae rb 10 9) (.int .i64 (d6:Int))=some H7/\am true 4 H7 (ae H2.next 4 0)=some (.agg xs)/\∃H8,a8 4 H7 (ae H.next 4 0) (.agg xs)=some H8/\am true 4 H8 (ae H.next 4 0)=some (.agg xs)/\∃d' o',d<=d'/\d'<=200/\fA rb s H8 o' d'/\Fp rb H H8/\((∃e w',r=.ok (e,w')/\o'=.ok w'/\d'=d/\fy s w'/\XE (In H.next H8.next) H8 e xs)∨∃e,r=.error e/\o'=.error e):=by
  intro H5 xs o5 d5 x4 y1 y2 s5 F5 hx
  have e5:=F5.next
  obtain⟨H6,m6,r6,n6,k6⟩:=aj (r4.same (F5.old _ om om)) (n:=4) rfl x4.len x4.one
  obtain⟨d6,rfl⟩:∃d6,d5=d6+1:=⟨d5-1,om⟩
  obtain⟨z1,z2,H7,m7,s7,n7,k7⟩:=(s5.same (k6 rb om)).deep om
  obtain⟨H8,m8,r8,n8,k8⟩:=aj (H:=H7) (q4.same (by rw[k7 _ om,k6 _ om,F5.old _ om om])) (n:=4) rfl x4.len x4.one
  refine⟨H6,d6,m6,z1,z2,H7,m7,al (r6.same (k7 _ om)) x4.len,H8,m8,al r8 x4.len,d6,o5,om,om,s7.same (k8 rb om),⟨om,fun c hc hp=>by rw[k8 c om,k7 c hp,k6 c om,F5.old c om hp,F4.old c hc hp]⟩,?_⟩
  refine hx.imp (fun ⟨e,w',a,b,c,g,h⟩=>⟨e,w',a,b,om,g,h.mono fun c hc=>?_⟩) fun q=>q
  have c1:=hc.1
  have c2:=hc.2
  exact⟨⟨om,om⟩,by rw[k8 c om,k7 c om,k6 c om]⟩
 have hsg:fq w [[45],[33]]=(jV w [45]||jV w [33]):=LB ok rfl rfl
 simp only[sA,sB,seval,b0,m3,m4]
 refine aq.mono (K:=GP _ _ _ _ (fun T' H'=>H4=H'/\T' 0=ae rb 10 0/\T' 2=ae H.next 4 0/\T' 3=ae H2.next 4 0/\T' 15=.bool (fq w [[45],[33]]))) ?_ (fun v H' h=>nC (bH _ _) _ ?_ h)
 ·refine (aJ s4 _).mono ?_
  rintro _ _ ⟨rfl,rfl⟩
  have i1:gd (.ok w) [45]=jV w [45]:=rfl
  have i2:gd (.ok w) [33]=jV w [33]:=rfl
  rw[i1]
  cases b1:jV w [45] with
  | true=>simp only[sA,sB,seval,hsg,b1]; exact⟨tt,tt,tt,tt,by rfl⟩
  | false=>
  simp only[sA,sB,seval]
  refine (aJ s4 _).mono ?_
  rintro _ _ ⟨rfl,rfl⟩
  rw[i2]
  cases b2:jV w [33] with
  | true=>simp only[sA,sB,seval,hsg,b1,b2]; exact⟨tt,tt,tt,tt,by rfl⟩
  | false=>simp only[sA,sB,seval,hsg,b1,b2]; exact⟨tt,tt,tt,tt,by rfl⟩
 rintro T _ ⟨rfl,t0,t2,t3,t15⟩
 cases hb:fq w [[45],[33]] with
 | false=>
  rw[if_neg (by rw[hb]; simp)]at hr
  rw[hb]at t15
  simp only[sA,sB,seval,t0,t2,t3,t15]
  refine (ihp H4 w (d+1) r s4 ok om om hr).mono ?_
  rintro _ H5 ⟨xs,d5,o5,rfl,x4,y1,y2,s5,F5,hx⟩
  obtain⟨H6,d6,m6,z1,z2,H7,m7,l7,H8,m8,l8,d',o',w1,w2,s8,F8,hy⟩:=dM H5 xs o5 d5 x4 y1 y2 s5 F5 hx
  simp only[sA,sB,seval,t0,t2,t3,aw,aB,m6,z1,z2,m7,l7,m8]
  refine bL _ _ _ _ (v:=.agg xs) (by simp only[sA,sB,seval,t2]; exact l8) ?_
  exact⟨xs,d',o',rfl,x4,w1,w2,s8,F8,hy⟩
 | true=>
  rw[if_pos hb]at hr
  rw[hb]at t15
  have hgo:Go s (Except.ok w) (d+1) (d+1) r fun w=>dn (bC s w) fun w1=>fF (pE s f (.rule 0) (d+1) w1) fun e w2=>aV (.mk 3 w.S 0 [e]) w2:=.inl ⟨w,rfl,rfl,ok,hr⟩
  obtain⟨SG,hSG⟩:∃SG,SG=w.S:=⟨_,rfl⟩
  have hgo':Go s (Except.ok w) (d+1) (d+1) r fun w=>dn (bC s w) fun w1=>fF (pE s f (.rule 0) (d+1) w1) fun e w2=>aV (.mk 3 SG 0 [e]) w2:=by rw[hSG]; exact .inl ⟨w,rfl,rfl,ok,hr⟩
  rw[<- hSG]at lS
  simp only[sA,sB,seval,t0,t2,t3,t15,aw,aB,lS]
  refine (bO s4 om (Go.en hgo')).mono ?_
  rintro _ H5 ⟨s5,F5⟩
  have g5:=Go.take hgo'
  have e5:=F5.next
  simp only[sA,sB,seval,t0,t2,t3]
  refine (iA dead ihu s5 rL om om g5).mono ?_
  rintro _ H6 ⟨ys,d6,o6,rfl,y4,y5,y6,s6,F6,hy⟩
  have e6:=F6.next
  have F56:=F5.trans F6
  have bs:=jp (z:=[.int .u8 0,.str [],.int .i64 0,.slice none 0 (.known 0)]) (m:=4) H6 rfl y4.len
  have rP:aT (H6.push (.cells ys 0 false)) H6.next ys:=dA _ _
  have s7:=s6.same (H':=H6.push (.cells ys 0 false)) (aE om)
  have F7:Fp rb H4 (H6.push (.cells ys 0 false)):=F56.trans (kE _)
  have x4:tT [.int .u8 3,.str SG,.int .i64 0,jO H6 4]:=⟨rfl,DU _ _ _ rfl,vL _ _ _ (by simp[jO,aeq])⟩
  obtain⟨H8,d8,m8,z1,z2,H9,m9,l9,Ha,ma,la,d',o',w1,w2,sa,Fa,hz⟩:=dM _ [.int .u8 3,.str SG,.int .i64 0,jO H6 4] o6 d6 x4 y5 y6 s7 F7 (by
   rcases hy with⟨e2,gy,xy⟩ | ⟨e,rfl,rfl⟩
   case inr=>exact .inr ⟨e,rfl,rfl⟩
   rcases gy with⟨w7,rfl,rfl,ok7,hp7⟩ | ⟨e,rfl,rfl⟩
   case inr=>exact .inr ⟨e,rfl,rfl⟩
   simp only[aV,sJ]at hp7
   subst hp7
   refine .inl ⟨.mk 3 SG 0 [e2],w7,rfl,rfl,rfl,ok7,jO H6 4,ys,rfl,.row rP y4.len rfl ⟨om,by rw[aZ]; omega⟩,.sing (xy.mono fun c hc=>?_)⟩
   have c1:=hc.1
   have c2:=hc.2
   exact⟨⟨om,by rw[aZ]; omega⟩,aE c2⟩)
  simp only[sA,sB,seval,t0,t2,t3,bs,CT SG (jO H6 4) rfl,aw,aB,m8,z1,z2,m9,l9,ma]
  refine bL _ _ _ _ (by simp only[sA,sB,seval,t2]; exact la) ?_
  exact⟨_,d',o',rfl,x4,w1,w2,sa,Fa,hz⟩
theorem nJ{β:Type}{rb:Nat}{s:Bs}{f:Nat}(live:ew rb s 77 fun d w=>pE s f (.rule 5) d w){H:aa}{o:Except gB Wd}{d' d:Nat}{r:dt β}{k:Ex->Wd->Option (dt β)}(hs:fA rb s H o d')(h1:d<=d')(h2:d'<=200)(hrb:rb<H.next)(h:Go s o d' d r fun w=>dn (bE s [40] w) fun w1=>fF (pE s f (.rule 5) d w1) fun e w2=>dn (bE s [41] w2) fun w3=>k e w3) :
  aq Tryz.prog aA 78 [ae rb 10 0] H fun u H'=>∃xs d2 o2,u=.agg xs/\tT xs/\d<=d2/\d2<=200/\fA rb s H' o2 d2/\Fp rb H H'/\((∃e,Go s o2 d2 d r (k e)/\XE (In H.next H'.next) H' e xs)∨∃e,r=.error e/\o2=.error e):=by
 refine af rfl PM rfl ?_
 have dead:gz rb s 77:=ip rb s 5 om
 obtain⟨H1,m1,r1,n1,k1⟩:=au H [.int .u8 0,.str [],.int .i64 0,.slice none 0 (.known 0)] (n:=4) rfl
 simp only[c78,sA,sB,seval,m1]
 refine (dj (hs.same (k1 rb om)) om h.en [40]).mono ?_
 rintro _ H2 ⟨s2,F2⟩
 have g2:=h.must rfl
 have e2:=F2.next
 simp only[sA,sB,seval]
 refine (iA dead live s2 h1 h2 om g2).mono ?_
 rintro _ H3 ⟨ys,d3,o3,rfl,y4,y5,y6,s3,F3,hy⟩
 have e3:=F3.next
 obtain⟨H4,m4,r4,n4,k4⟩:=au H3 [.int .u8 0,.str [],.int .i64 0,.slice none 0 (.known 0)] (n:=4) rfl
 obtain⟨H5,m5,r5,n5,k5⟩:=aj r4 (n:=4) rfl y4.len y4.one
 have k53:∀c,c<H3.next->H5.get c=H3.get c:=fun c hc=>by rw[k5 c om,k4 c om]
 have s5:=s3.same (k53 rb om)
 have hen:∀w,o3=.ok w->w.en<=1000000:=by
  rcases hy with⟨e,g,_⟩ | ⟨e,_,rfl⟩
  ·exact g.en
  ·intro w hw; simp at hw
 simp only[sA,sB,seval,m4,m5]
 refine (dj s5 om hen [41]).mono ?_
 rintro _ H6 ⟨s6,F6⟩
 have e6:=F6.next
 have l6:=al (r5.same (F6.old _ om om)) y4.len
 have k63:∀c,c<H3.next->c≠rb->H6.get c=H3.get c:=fun c h1 h2=>by rw[F6.old c om h2,k53 c h1]
 obtain⟨H7,m7,r7,n7,k7⟩:=aj (H:=H6) (r1.same (by rw[k63 _ om om,F3.old _ om om,F2.old _ om om])) (n:=4) rfl y4.len y4.one
 simp only[sA,sB,seval,l6,m7]
 refine bL _ _ _ _ (v:=.agg ys) (by simp only[sA,sB,seval]; exact al r7 y4.len) ?_
 refine⟨ys,d3,_,rfl,y4,y5,y6,s6.same (k7 rb om),⟨om,fun c hc hp=>by rw[k7 c om,k63 c om hp,F3.old c om hp,F2.old c om hp,k1 c om]⟩,?_⟩
 rcases hy with⟨e,g,xy⟩ | ⟨e,rfl,rfl⟩
 ·refine .inl ⟨e,g.must rfl,xy.mono fun c hc=>?_⟩
  have c1:=hc.1
  have c2:=hc.2
  exact⟨⟨om,om⟩,by rw[k7 c om,k63 c c2 om]⟩
 ·exact .inr ⟨e,rfl,rfl⟩
end Go.Proofs.Wo
