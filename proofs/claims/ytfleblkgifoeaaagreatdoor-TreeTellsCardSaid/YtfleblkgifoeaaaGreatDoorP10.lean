/- Part of a proof (YC2 YP1 YP2 YP3 YP4 YP5 YP6 YP7 YP8); no condition. -/
import Derived.Test.YtfleblkgifoeaaaGreatDoorProg
import Derived.KernelRfl
import Derived.Test.YtfleblkgifoeaaaGreatDoorP7
import Derived.Test.YtfleblkgifoeaaaGreatDoorP9
set_option linter.unusedSimpArgs false
set_option linter.unusedVariables false
set_option linter.unnecessarySimpa false
namespace Go.Proofs.Wo
open Go.Abs Go.Abs.S
noncomputable section
def c9:bV:=⟨73,zq [zo 2 (.mv zn),zo 3 (.new [zI 0,zI 0])] (zq [zm 12 0,zo 13 (.build [.str [],zU 0,.str [],zI 0,zI 0,zI 0,zI 0,zI 0,zI 0,zI 0,.nilFunc] [(0,1,.t 12)]),zo 14 (.box (.t 13)),zm 4 14] (zq [zm 15 4,zm 16 4,zo 17 (.mkFunc (.func 30) [.t 16] []),zo 18 (.buildSl 2 [.str []] [(0,1,.c (.str [42])),(1,1,.c (.str [47]))]),zx 19 29 [.t 15,.t 17,.c (.bool true),.t 18],zm 5 19] (zq [zm 20 4,zm 21 5,zo 22 (.buildSl 2 [.str []] [(0,1,.c (.str [43])),(1,1,.c (.str [45]))]),zx 23 29 [.t 20,.t 21,.c (.bool true),.t 22],zm 6 23] (zq [zm 24 4,zm 25 6,zo 26 (.buildSl 6 [.str []] [(0,1,.c (.str [61,61])),(1,1,.c (.str [33,61])),(2,1,.c (.str [60,61])),(3,1,.c (.str [62,61])),(4,1,.c (.str [60])),(5,1,.c (.str [62]))]),zx 27 29 [.t 24,.t 25,.c (.bool false),.t 26],zm 7 27] (zq [zm 28 4,zm 29 7,zo 30 (.buildSl 1 [.str []] [(0,1,.c (.str [38,38]))]),zx 31 29 [.t 28,.t 29,.c (.bool true),.t 30],zm 8 31] (zq [zm 32 4,zm 33 4,zm 34 8,zo 35 (.buildSl 1 [.str []] [(0,1,.c (.str [124,124]))]),zx 36 29 [.t 33,.t 34,.c (.bool true),.t 35],zc 37 32,zf 38 10 37,zs 38 36] (zr [zm 39 4,zx 40 31 [.t 39],zo 41 (.un .not (.t 40))] 41 (zq [zm 42 4,zc 43 42,zf 44 8 43,zt 45 2 44,zo 2 (.mv zn),zp (.store 2 (.t 3) (.t 45))] .ret) .skip (zq [zo 9 (.mv zn)] (.seq (.block 0 (.loop (zr [zm 46 4,zc 47 46,zf 48 1 47,zf 49 0 48,zl 50 49,zo 51 (.bin .neq (.t 50) (zu 5))] 51 .skip (.exit 0) (.block 1 (zq [zm 53 4,zx 54 32 [.t 53],zm 52 54,ze 55 0 52,ze 56 1 52,zo 10 (.new [zU 0,.str [],zU 0,.str [],zI 0,zN,zN,zN,zI 0]),zp (.store 9 (.t 10) (.t 55)),zm 11 56] (zr [zm 57 11,zo 58 (.un .not (.t 57))] 58 (zq [zm 59 4,zc 60 59,zf 61 8 60,zt 62 2 61,zo 2 (.mv zn),zp (.store 2 (.t 3) (.t 62))] .ret) .skip (.reg [zm 63 9,zt 64 9 10,zo 65 (.buildSl 1 [zU 0,.str [],zU 0,.str [],zI 0,zN,zN,zN,zI 0] [(0,9,.t 64)]),zo 66 (.append 9 136 (.t 63) (.t 65)),zm 9 66]))))))) (zr [zm 67 9,zx 68 15 [.t 67],zo 69 (.un .not (.t 68))] 69 (zq [zo 70 (.build [zI 0,zI 0] [(0,1,zi 102)]),zo 2 (.mv zn),zp (.store 2 (.t 3) (.t 70))] .ret) .skip (zq [zm 71 9,zo 72 (.build [zI 0,zI 0] []),zm 2 71,zp (.store 2 (.t 3) (.t 72))] .ret))))))))))),[.t 2,.cell true 2 3]⟩
theorem za9:cN Tryz.prog 9=some c9:=by kernel_rfl
def QF:bV:=⟨41,.seq (.block 1000000 (zq [zo 1 (.box (.t 0)),zo 2 (.new [zU 0,.str [],zI 0,zN]),zo 3 (.mv (.c (.bool false)))] (zr [zl 7 1,zx 8 59 [.t 7],zo 9 (.un .not (.t 8))] 9 (zq [zo 10 (.build [zU 0,.str [],zI 0,zN] []),zp (.store 4 (.t 2) (.t 10)),zo 3 (.mv (.c (.bool false)))] (.exit 1000000)) .skip (zq [zo 11 (.mkFunc (.func 60) [] [.t 1]),zo 42 (.pf .dset [.t 42,.t 11])] (zr [zl 12 1,zo 13 (.buildSl 2 [.str []] [(0,1,.c (.str [45])),(1,1,.c (.str [33]))]),zx 14 58 [.t 12,.t 13],zo 15 (.un .not (.t 14))] 15 (zq [zl 16 1,zx 17 61 [.t 16],ze 18 0 17,ze 19 1 17,zp (.store 4 (.t 2) (.t 18)),zm 3 19] (.exit 1000000)) .skip (zq [zl 20 1,zc 21 20,zf 22 1 21,zf 23 1 22,zl 24 23,zm 4 24] (zr [zl 25 1,zx 26 31 [.t 25],zo 27 (.un .not (.t 26))] 27 (zq [zo 28 (.build [zU 0,.str [],zI 0,zN] []),zp (.store 4 (.t 2) (.t 28)),zo 3 (.mv (.c (.bool false)))] (.exit 1000000)) .skip (zq [zl 30 1,zx 31 30 [.t 30],zm 29 31,ze 32 0 29,ze 33 1 29,zo 5 (.new [zU 0,.str [],zI 0,zN]),zp (.store 4 (.t 5) (.t 32)),zm 6 33] (zr [zm 34 6,zo 35 (.un .not (.t 34))] 35 (zq [zo 36 (.build [zU 0,.str [],zI 0,zN] []),zp (.store 4 (.t 2) (.t 36)),zo 3 (.mv (.c (.bool false)))] (.exit 1000000)) .skip (zq [zm 37 4,zt 38 4 5,zo 39 (.buildSl 1 [zU 0,.str [],zI 0,zN] [(0,4,.t 38)]),zo 40 (.build [zU 0,.str [],zI 0,zN] [(0,1,zu 3),(1,1,.t 37),(3,1,.t 39)]),zp (.store 4 (.t 2) (.t 40)),zo 3 (.mv (.c (.bool true)))] (.exit 1000000))))))))))) (zq [zo 43 (.pf .isU [.t 42])] (.cond (.t 43) (zq [zo 43 (.pf .isU [.t 41])] (.cond (.t 43) (zq [zt 45 4 2,zm 46 3,zo 44 (.pf .tup [.t 45,.t 46])] .ret) (.reg [zp .bad]))) (zq [zo 43 (.pf .isU [.t 41])] (.cond (.t 43) (zq [zo 43 (.pf (.isF 60 1) [.t 42]),zo 45 (.pf (.capt 0) [.t 42]),zp (.call 3132 [.t 45])] (zq [zt 45 4 2,zm 46 3,zo 44 (.pf .tup [.t 45,.t 46])] .ret)) (.reg [zp .bad]))))),[.t 44]⟩
theorem Qe:MU Tryz.prog (some ⟨[],(some (60,1,false))⟩) 30=some QF:=by kernel_rfl
def Qz:bV:=⟨17,zq [zo 2 (.mv (.c (.bool false)))] (zr [zm 3 0,zc 4 3,zf 5 7 4,zl 6 5,zk 7 .geq 6 200] 7 (zq [zm 8 0,zx 9 70 [.t 8,zi 102],zm 2 9] .ret) .skip (zq [zm 10 0,zc 11 10,zf 12 7 11,zl 13 12,zk 14 .add 13 1,zc 15 10,zf 16 7 15,zs 16 14] (zq [zo 2 (.mv (.c (.bool true)))] .ret))),[.t 2]⟩
theorem M0:cN Tryz.prog 59=some Qz:=by kernel_rfl
def c70:bV:=⟨15,zq [zo 4 (.mv (.c (.bool false)))] (zq [zm 5 0,zm 6 1,zm 7 0,zc 8 7,zf 9 1 8,zf 10 3 9,zl 11 10,zo 12 (.build [zI 0,zI 0] [(0,1,.t 6),(1,1,.t 11)]),zc 13 5,zf 14 8 13,zp (.store 2 (.t 14) (.t 12))] (zq [zo 4 (.mv (.c (.bool false)))] .ret)),[.t 4]⟩
theorem PT:cN Tryz.prog 70=some c70:=by kernel_rfl
def QA:bV:=⟨20,zq [zo 4 (.mv (.c (.bool false)))] (zq [zm 5 0,zc 6 5,zf 7 1 6,zf 8 0 7,zl 9 8,zo 10 (.bin .eql (.t 9) (zu 4)),zm 11 10,zg 12 (.mv (.t 1)) 11 true,zg 13 (.mv (.t 0)) 11 true,zg 14 (.nilChk (.t 13)) 11 true,zg 15 (.fieldA 1 (.t 14)) 11 true,zg 16 (.fieldA 1 (.t 15)) 11 true,zg 17 (.load false 1 (.t 16)) 11 true,zg 18 (.call 99 [.t 12,.t 17]) 11 true,zo 19 (.pick (.t 11) (.t 18) (.c (.bool false))),zm 4 19] .ret),[.t 4]⟩
theorem P2:cN Tryz.prog 58=some QA:=by kernel_rfl
def c99:bV:=⟨9,zq [zo 4 (.mv (.c (.bool false)))] (zq [zm 5 0,zm 6 1,zx 7 130 [.t 5,.t 6],zk 8 .geq 7 0,zm 4 8] .ret),[.t 4]⟩
theorem PD:cN Tryz.prog 99=some c99:=by kernel_rfl
def OU:bV:=⟨19,zq [zo 4 (.mv (zi 0))] (.seq (zq [zm 6 0,zh 7 6,zo 8 (.mv (zi 0))] (.block 0 (.loop (zq [zb 9 .lss 8 7] (.seq (.cond (.t 9) .skip (.exit 0)) (.seq (.block 1 (zq [zm 10 8,zm 5 10] (zq [zm 11 1,zm 12 0,zm 13 5,zd 14 12 13,zl 15 14,zb 16 .eql 11 15] (.cond (.t 16) (zq [zm 17 5,zm 4 17] .ret) .skip)))) (.reg [zk 18 .add 8 1,zm 8 18]))))))) (zq [zo 4 (.mv (.c (.int .i64 (.negSucc 0))))] .ret)),[.t 4]⟩
theorem Nz:cN Tryz.prog 130=some OU:=by kernel_rfl
def c61:bV:=⟨72,zq [zo 2 (.new [zU 0,.str [],zI 0,zN]),zo 3 (.mv (.c (.bool false)))] (zq [zm 9 0,zc 10 9,zf 11 1 10,zt 12 6 11,zo 4 (.new [zU 0,.str [],zI 0,zI 0,zI 0,zI 0]),zp (.store 6 (.t 4) (.t 12))] (.seq (.block 0 (zq [zf 14 0 4,zl 15 14,zo 16 (.bin .eql (.t 15) (zu 1)),zm 13 16] (.cond (.t 13) (.seq (.draw [zf 17 2 4,zl 18 17,zo 19 (.build [zU 0,.str [],zI 0,zN] [(0,1,zu 1),(2,1,.t 18)]),zm 20 0,zx 21 31 [.t 20],zp (.store 4 (.t 2) (.t 19)),zm 3 21] [[],[5],[],[],[],[],[]]) .ret) (zq [zf 23 0 4,zl 24 23,zo 25 (.bin .eql (.t 24) (zu 2)),zm 22 25] (.cond (.t 22) (zr [zm 26 0,zx 27 31 [.t 26],zo 28 (.un .not (.t 27))] 28 (zq [zo 29 (.build [zU 0,.str [],zI 0,zN] []),zp (.store 4 (.t 2) (.t 29)),zo 3 (.mv (.c (.bool false)))] .ret) .skip (zr [zm 30 0,zo 31 (.buildSl 1 [.str []] [(0,1,.c (.str [40]))]),zx 32 58 [.t 30,.t 31],zo 33 (.un .not (.t 32))] 33 (zq [zf 34 1 4,zl 35 34,zo 36 (.build [zU 0,.str [],zI 0,zN] [(0,1,zu 2),(1,1,.t 35)]),zp (.store 4 (.t 2) (.t 36)),zo 3 (.mv (.c (.bool true)))] .ret) .skip (zq [zm 38 0,zx 39 100 [.t 38],zm 37 39,ze 40 0 37,ze 41 1 37,zm 5 40,zm 6 41] (zq [zf 42 1 4,zl 43 42,zm 44 5,zo 45 (.build [zU 0,.str [],zI 0,zN] [(0,1,zu 4),(1,1,.t 43),(3,1,.t 44)]),zm 46 6,zp (.store 4 (.t 2) (.t 45)),zm 3 46] .ret)))) (zq [zm 48 0,zo 49 (.buildSl 1 [.str []] [(0,1,.c (.str [40]))]),zx 50 58 [.t 48,.t 49],zm 47 50] (.cond (.t 47) (zr [zm 51 0,zx 52 31 [.t 51],zo 53 (.un .not (.t 52))] 53 (zq [zo 54 (.build [zU 0,.str [],zI 0,zN] []),zp (.store 4 (.t 2) (.t 54)),zo 3 (.mv (.c (.bool false)))] .ret) .skip (zq [zm 56 0,zc 57 56,zf 58 10 57,zl 59 58,zo 60 (.callv (.t 59) []),zm 55 60,ze 61 0 55,ze 62 1 55,zo 7 (.new [zU 0,.str [],zI 0,zN]),zp (.store 4 (.t 7) (.t 61)),zm 8 62] (.seq (.draw [zt 63 4 7,zm 64 8,zm 65 64,zg 66 (.mv (.t 0)) 65 true,zg 67 (.call 69 [.t 66,.c (.str [41])]) 65 true,zo 68 (.pick (.t 65) (.t 67) (.c (.bool false))),zp (.store 4 (.t 2) (.t 63)),zm 3 68] [[6],[],[],[],[],[],[],[]]) .ret))) .skip))))))) (zq [zo 69 (.build [zU 0,.str [],zI 0,zN] []),zm 70 0,zx 71 70 [.t 70,zi 101],zp (.store 4 (.t 2) (.t 69)),zm 3 71] .ret))),[.cell true 4 2,.t 3]⟩
theorem P1:cN Tryz.prog 61=some c61:=by kernel_rfl
def c31:bV:=⟨29,zq [zo 2 (.mv (.c (.bool false)))] (.seq (.draw [zm 6 0,zc 7 6,zf 8 0 7,zl 9 8,zm 10 0,zc 11 10,zf 12 1 11,zf 13 5 12,zl 14 13,zx 15 62 [.t 9,.t 14],zm 5 15,ze 16 0 5,ze 17 1 5,zo 3 (.new [zU 0,.str [],zI 0,zI 0,zI 0,zI 0]),zo 4 (.new [zI 0,zI 0]),zp (.store 6 (.t 3) (.t 16)),zp (.store 2 (.t 4) (.t 17))] [[],[],[],[],[],[],[],[],[],[],[],[],[],[9],[9],[],[]]) (zr [zf 18 0 4,zl 19 18,zk 20 .neq 19 0] 20 (zq [zm 21 0,zt 22 2 4,zc 23 21,zf 24 8 23,zp (.store 2 (.t 24) (.t 22))] (zq [zo 2 (.mv (.c (.bool false)))] .ret)) .skip (zq [zm 25 0,zt 26 6 3,zc 27 25,zf 28 1 27,zp (.store 6 (.t 28) (.t 26))] (zq [zo 2 (.mv (.c (.bool true)))] .ret)))),[.t 2]⟩
theorem Qd:cN Tryz.prog 31=some c31:=by kernel_rfl
def Pc:bV:=⟨40,zq [zo 2 (.mv zn),zo 3 (.mv (.c (.bool false)))] (zr [zm 7 0,zx 8 69 [.t 7,.c (.str [40])],zo 9 (.un .not (.t 8))] 9 (zq [zo 2 (.mv zn),zo 3 (.mv (.c (.bool false)))] .ret) .skip (zq [zo 4 (.mv zn)] (zr [zm 10 0,zo 11 (.buildSl 1 [.str []] [(0,1,.c (.str [41]))]),zx 12 58 [.t 10,.t 11]] 12 (zq [zm 13 4,zm 14 0,zx 15 31 [.t 14],zm 2 13,zm 3 15] .ret) .skip (.block 0 (.loop (.block 1 (zq [zm 17 0,zc 18 17,zf 19 10 18,zl 20 19,zo 21 (.callv (.t 20) []),zm 16 21,ze 22 0 16,ze 23 1 16,zo 5 (.new [zU 0,.str [],zI 0,zN]),zp (.store 4 (.t 5) (.t 22)),zm 6 23] (zr [zm 24 6,zo 25 (.un .not (.t 24))] 25 (zq [zo 2 (.mv zn),zo 3 (.mv (.c (.bool false)))] .ret) .skip (zq [zm 26 4,zt 27 4 5,zo 28 (.buildSl 1 [zU 0,.str [],zI 0,zN] [(0,4,.t 27)]),zo 29 (.append 4 56 (.t 26) (.t 28)),zm 4 29] (zr [zm 30 0,zo 31 (.buildSl 1 [.str []] [(0,1,.c (.str [44]))]),zx 32 58 [.t 30,.t 31],zo 33 (.un .not (.t 32))] 33 (zq [zm 34 4,zm 35 0,zx 36 69 [.t 35,.c (.str [41])],zm 2 34,zm 3 36] .ret) .skip (zq [zm 37 0,zx 38 31 [.t 37],zo 39 (.un .not (.t 38))] (.cond (.t 39) (zq [zo 2 (.mv zn),zo 3 (.mv (.c (.bool false)))] .ret) .skip)))))))))))),[.t 2,.t 3]⟩
theorem N3:cN Tryz.prog 100=some Pc:=by kernel_rfl
def c69:bV:=⟨14,zq [zo 4 (.mv (.c (.bool false)))] (zr [zm 5 0,zm 6 1,zo 7 (.buildSl 1 [.str []] [(0,1,.t 6)]),zx 8 58 [.t 5,.t 7],zo 9 (.un .not (.t 8))] 9 (zq [zm 10 0,zx 11 70 [.t 10,zi 101],zm 4 11] .ret) .skip (zq [zm 12 0,zx 13 31 [.t 12],zm 4 13] .ret)),[.t 4]⟩
theorem PU:cN Tryz.prog 69=some c69:=by kernel_rfl
def c29:bV:=⟨10,zq [zo 4 (.box (.t 0)),zo 5 (.box (.t 1)),zo 6 (.box (.t 2)),zo 7 (.box (.t 3)),zo 8 (.mv (.c .nilFunc))] (zq [zo 9 (.mkFunc (.func 57) [] [.t 5,.t 4,.t 7,.t 6]),zm 8 9] .ret),[.t 8]⟩
theorem Qf:cN Tryz.prog 29=some c29:=by kernel_rfl
def c57:bV:=⟨46,zq [zo 4 (.new [zU 0,.str [],zI 0,zN]),zo 5 (.mv (.c (.bool false)))] (zq [zl 11 0,zo 12 (.callv (.t 11) []),zm 10 12,ze 13 0 10,ze 14 1 10,zo 6 (.new [zU 0,.str [],zI 0,zN]),zp (.store 4 (.t 6) (.t 13)),zm 7 14] (.seq (.block 0 (.loop (zr [zm 15 7,zm 16 15,zg 17 (.load false 1 (.t 1)) 16 true,zg 18 (.load false 1 (.t 2)) 16 true,zg 19 (.call 58 [.t 17,.t 18]) 16 true,zo 20 (.pick (.t 16) (.t 19) (.c (.bool false)))] 20 .skip (.exit 0) (.block 1 (zq [zl 21 1,zc 22 21,zf 23 1 22,zf 24 1 23,zl 25 24,zm 8 25] (zr [zl 26 1,zx 27 31 [.t 26],zo 28 (.un .not (.t 27))] 28 (zq [zo 29 (.build [zU 0,.str [],zI 0,zN] []),zp (.store 4 (.t 4) (.t 29)),zo 5 (.mv (.c (.bool false)))] .ret) .skip (zq [zo 9 (.new [zU 0,.str [],zI 0,zN])] (zq [zl 31 0,zo 32 (.callv (.t 31) []),zm 30 32,ze 33 0 30,ze 34 1 30,zp (.store 4 (.t 9) (.t 33)),zm 7 34] (zq [zm 35 8,zt 36 4 6,zt 37 4 9,zo 38 (.buildSl 2 [zU 0,.str [],zI 0,zN] [(0,4,.t 36),(4,4,.t 37)]),zo 39 (.build [zU 0,.str [],zI 0,zN] [(0,1,zu 3),(1,1,.t 35),(3,1,.t 38)]),zp (.store 4 (.t 6) (.t 39))] (zq [zl 40 3,zo 41 (.un .not (.t 40))] (.cond (.t 41) (.exit 0) .skip))))))))))) (zr [zm 42 7,zo 43 (.un .not (.t 42))] 43 (zq [zo 44 (.build [zU 0,.str [],zI 0,zN] []),zp (.store 4 (.t 4) (.t 44)),zo 5 (.mv (.c (.bool false)))] .ret) .skip (zq [zt 45 4 6,zp (.store 4 (.t 4) (.t 45)),zo 5 (.mv (.c (.bool true)))] .ret)))),[.cell true 4 4,.t 5]⟩
theorem P3:cN Tryz.prog 57=some c57:=by kernel_rfl
def QE:bV:=⟨90,.seq (.block 1000000 (zq [zo 1 (.box (.t 0)),zo 2 (.new [zU 0,.str [],zU 0,.str [],zI 0,zN,zN,zN,zI 0]),zo 3 (.mv (.c (.bool false)))] (zr [zl 6 1,zx 7 59 [.t 6],zo 8 (.un .not (.t 7))] 8 (zq [zo 9 (.build [zU 0,.str [],zU 0,.str [],zI 0,zN,zN,zN,zI 0] []),zp (.store 9 (.t 2) (.t 9)),zo 3 (.mv (.c (.bool false)))] (.exit 1000000)) .skip (zq [zo 10 (.mkFunc (.func 63) [] [.t 1]),zo 91 (.pf .dset [.t 91,.t 10])] (zq [zl 11 1,zc 12 11,zf 13 1 12,zf 14 3 13,zl 15 14,zo 16 (.build [zU 0,.str [],zU 0,.str [],zI 0,zN,zN,zN,zI 0] [(8,1,.t 15)]),zo 4 (.new [zU 0,.str [],zU 0,.str [],zI 0,zN,zN,zN,zI 0]),zp (.store 9 (.t 4) (.t 16))] (zq [zo 5 (.mv (.c (.bool false)))] (.seq (.block 0 (zq [zl 20 1,zx 21 64 [.t 20,.c (.str [108,101,116])],zm 19 21] (.cond (.t 19) (zq [zf 22 0 4,zp (.store 1 (.t 22) (zu 1))] (.reg [zl 23 1,zx 24 31 [.t 23],zm 25 24,zg 26 (.load false 1 (.t 1)) 25 true,zg 27 (.call 65 [.t 26,.t 4]) 25 true,zo 28 (.pick (.t 25) (.t 27) (.c (.bool false))),zm 5 28])) (zq [zl 30 1,zx 31 64 [.t 30,.c (.str [115,101,116])],zm 29 31] (.cond (.t 29) (zq [zf 32 0 4,zp (.store 1 (.t 32) (zu 2))] (.reg [zl 33 1,zx 34 31 [.t 33],zm 35 34,zg 36 (.load false 1 (.t 1)) 35 true,zg 37 (.call 65 [.t 36,.t 4]) 35 true,zo 38 (.pick (.t 35) (.t 37) (.c (.bool false))),zm 5 38])) (zq [zl 40 1,zx 41 64 [.t 40,.c (.str [105,102])],zm 39 41] (.cond (.t 39) (zq [zf 42 0 4,zp (.store 1 (.t 42) (zu 3))] (zq [zl 43 1,zx 44 31 [.t 43],zm 45 44,zg 46 (.load false 1 (.t 1)) 45 true,zg 47 (.call 66 [.t 46,.t 4]) 45 true,zo 48 (.pick (.t 45) (.t 47) (.c (.bool false))),zm 5 48] (zq [zm 49 5,zm 50 49,zg 51 (.load false 1 (.t 1)) 50 true,zg 52 (.call 64 [.t 51,.c (.str [101,108,115,101])]) 50 true,zo 53 (.pick (.t 50) (.t 52) (.c (.bool false)))] (.cond (.t 53) (.reg [zl 54 1,zx 55 31 [.t 54],zm 56 55,zg 57 (.load false 1 (.t 1)) 56 true,zg 58 (.fieldA 7 (.t 4)) 56 true,zg 59 (.call 67 [.t 57,.t 58]) 56 true,zo 60 (.pick (.t 56) (.t 59) (.c (.bool false))),zm 5 60]) .skip)))) (zq [zl 62 1,zx 63 64 [.t 62,.c (.str [119,104,105,108,101])],zm 61 63] (.cond (.t 61) (zq [zf 64 0 4,zp (.store 1 (.t 64) (zu 4))] (.reg [zl 65 1,zx 66 31 [.t 65],zm 67 66,zg 68 (.load false 1 (.t 1)) 67 true,zg 69 (.call 66 [.t 68,.t 4]) 67 true,zo 70 (.pick (.t 67) (.t 69) (.c (.bool false))),zm 5 70])) (zq [zl 72 1,zx 73 64 [.t 72,.c (.str [114,101,116,117,114,110])],zm 71 73] (.cond (.t 71) (zq [zf 74 0 4,zp (.store 1 (.t 74) (zu 5))] (.reg [zl 75 1,zx 76 31 [.t 75],zm 77 76,zg 78 (.load false 1 (.t 1)) 77 true,zg 79 (.fieldA 2 (.t 4)) 77 true,zg 80 (.call 68 [.t 78,.t 79]) 77 true,zo 81 (.pick (.t 77) (.t 80) (.c (.bool false))),zm 82 81,zg 83 (.load false 1 (.t 1)) 82 true,zg 84 (.call 69 [.t 83,.c (.str [59])]) 82 true,zo 85 (.pick (.t 82) (.t 84) (.c (.bool false))),zm 5 85])) (.reg [zl 17 1,zx 18 70 [.t 17,zi 101]])))))))))))) (zr [zm 86 5,zo 87 (.un .not (.t 86))] 87 (zq [zo 88 (.build [zU 0,.str [],zU 0,.str [],zI 0,zN,zN,zN,zI 0] []),zp (.store 9 (.t 2) (.t 88)),zo 3 (.mv (.c (.bool false)))] (.exit 1000000)) .skip (zq [zt 89 9 4,zp (.store 9 (.t 2) (.t 89)),zo 3 (.mv (.c (.bool true)))] (.exit 1000000)))))))))) (zq [zo 92 (.pf .isU [.t 91])] (.cond (.t 92) (zq [zo 92 (.pf .isU [.t 90])] (.cond (.t 92) (zq [zt 94 9 2,zm 95 3,zo 93 (.pf .tup [.t 94,.t 95])] .ret) (.reg [zp .bad]))) (zq [zo 92 (.pf .isU [.t 90])] (.cond (.t 92) (zq [zo 92 (.pf (.isF 63 1) [.t 91]),zo 94 (.pf (.capt 0) [.t 91]),zp (.call 3135 [.t 94])] (zq [zt 94 9 2,zm 95 3,zo 93 (.pf .tup [.t 94,.t 95])] .ret)) (.reg [zp .bad]))))),[.t 93]⟩
theorem Qc:MU Tryz.prog (some ⟨[],(some (63,1,false))⟩) 32=some QE:=by kernel_rfl
def Qy:bV:=⟨20,zq [zo 4 (.mv (.c (.bool false)))] (zq [zm 5 0,zc 6 5,zf 7 1 6,zf 8 0 7,zl 9 8,zo 10 (.bin .eql (.t 9) (zu 3)),zm 11 10,zg 12 (.mv (.t 0)) 11 true,zg 13 (.nilChk (.t 12)) 11 true,zg 14 (.fieldA 1 (.t 13)) 11 true,zg 15 (.fieldA 1 (.t 14)) 11 true,zg 16 (.load false 1 (.t 15)) 11 true,zg 17 (.mv (.t 1)) 11 true,zg 18 (.bin .eql (.t 16) (.t 17)) 11 true,zo 19 (.pick (.t 11) (.t 18) (.c (.bool false))),zm 4 19] .ret),[.t 4]⟩
theorem PZ:cN Tryz.prog 64=some Qy:=by kernel_rfl
def Qx:bV:=⟨38,zq [zo 4 (.mv (.c (.bool false)))] (zr [zm 5 0,zc 6 5,zf 7 1 6,zf 8 0 7,zl 9 8,zo 10 (.bin .neq (.t 9) (zu 2))] 10 (zq [zm 11 0,zx 12 70 [.t 11,zi 101],zm 4 12] .ret) .skip (zq [zm 13 1,zm 14 0,zc 15 14,zf 16 1 15,zf 17 1 16,zl 18 17,zc 19 13,zf 20 1 19,zs 20 18] (zq [zm 21 0,zx 22 31 [.t 21],zm 23 22,zg 24 (.mv (.t 0)) 23 true,zg 25 (.call 69 [.t 24,.c (.str [61])]) 23 true,zo 26 (.pick (.t 23) (.t 25) (.c (.bool false))),zm 27 26,zg 28 (.mv (.t 0)) 27 true,zg 29 (.mv (.t 1)) 27 true,zg 30 (.nilChk (.t 29)) 27 true,zg 31 (.fieldA 2 (.t 30)) 27 true,zg 32 (.call 68 [.t 28,.t 31]) 27 true,zo 33 (.pick (.t 27) (.t 32) (.c (.bool false))),zm 34 33,zg 35 (.mv (.t 0)) 34 true,zg 36 (.call 69 [.t 35,.c (.str [59])]) 34 true,zo 37 (.pick (.t 34) (.t 36) (.c (.bool false))),zm 4 37] .ret))),[.t 4]⟩
theorem PY:cN Tryz.prog 65=some Qx:=by kernel_rfl
def c68:bV:=⟨20,zq [zo 4 (.mv (.c (.bool false)))] (zq [zm 8 0,zc 9 8,zf 10 10 9,zl 11 10,zo 12 (.callv (.t 11) []),zm 7 12,ze 13 0 7,ze 14 1 7,zo 5 (.new [zU 0,.str [],zI 0,zN]),zp (.store 4 (.t 5) (.t 13)),zm 6 14] (zr [zm 15 6] 15 (.reg [zm 16 1,zt 17 4 5,zc 18 16,zp (.store 4 (.t 18) (.t 17))]) .skip (zq [zm 19 6,zm 4 19] .ret))),[.t 4]⟩
theorem PV:cN Tryz.prog 68=some c68:=by kernel_rfl
def c66:bV:=⟨25,zq [zo 4 (.mv (.c (.bool false)))] (zq [zm 5 0,zx 6 69 [.t 5,.c (.str [40])],zm 7 6,zg 8 (.mv (.t 0)) 7 true,zg 9 (.mv (.t 1)) 7 true,zg 10 (.nilChk (.t 9)) 7 true,zg 11 (.fieldA 2 (.t 10)) 7 true,zg 12 (.call 68 [.t 8,.t 11]) 7 true,zo 13 (.pick (.t 7) (.t 12) (.c (.bool false))),zm 14 13,zg 15 (.mv (.t 0)) 14 true,zg 16 (.call 69 [.t 15,.c (.str [41])]) 14 true,zo 17 (.pick (.t 14) (.t 16) (.c (.bool false))),zm 18 17,zg 19 (.mv (.t 0)) 18 true,zg 20 (.mv (.t 1)) 18 true,zg 21 (.nilChk (.t 20)) 18 true,zg 22 (.fieldA 6 (.t 21)) 18 true,zg 23 (.call 67 [.t 19,.t 22]) 18 true,zo 24 (.pick (.t 18) (.t 23) (.c (.bool false))),zm 4 24] .ret),[.t 4]⟩
theorem PX:cN Tryz.prog 66=some c66:=by kernel_rfl
def c67:bV:=⟨32,zq [zo 4 (.mv (.c (.bool false)))] (zr [zm 7 0,zx 8 69 [.t 7,.c (.str [123])],zo 9 (.un .not (.t 8))] 9 (zq [zo 4 (.mv (.c (.bool false)))] .ret) .skip (.seq (.block 0 (.loop (zr [zm 10 0,zo 11 (.buildSl 1 [.str []] [(0,1,.c (.str [125]))]),zx 12 58 [.t 10,.t 11],zo 13 (.un .not (.t 12))] 13 .skip (.exit 0) (.block 1 (zq [zm 15 0,zx 16 32 [.t 15],zm 14 16,ze 17 0 14,ze 18 1 14,zo 5 (.new [zU 0,.str [],zU 0,.str [],zI 0,zN,zN,zN,zI 0]),zp (.store 9 (.t 5) (.t 17)),zm 6 18] (zr [zm 19 6,zo 20 (.un .not (.t 19))] 20 (zq [zo 4 (.mv (.c (.bool false)))] .ret) .skip (.seq (.draw [zm 21 1,zc 22 21,zl 23 22,zt 24 9 5,zh 25 23,zo 26 (.buildSl 1 [zU 0,.str [],zU 0,.str [],zI 0,zN,zN,zN,zI 0] [(0,9,.c (.agg [zU 0,.str [],zU 0,.str [],zI 0,zN,zN,zN,zI 0]))]),zo 27 (.append 9 136 (.t 23) (.t 26)),zo 28 (.idxA 9 (.t 27) (.t 25)),zp (.store 9 (.t 28) (.t 24)),zc 29 21,zs 29 27] [[],[],[6],[6],[],[],[],[],[],[],[]]) (.reg [zp (.pf .apart [.t 29,.t 28])])))))))) (zq [zm 30 0,zx 31 31 [.t 30],zm 4 31] .ret))),[.t 4]⟩
theorem PW:cN Tryz.prog 67=some c67:=by kernel_rfl
def Le:bV:=⟨8,.reg [zl 1 0,zc 2 1,zf 3 7 2,zl 4 3,zk 5 .sub 4 1,zc 6 1,zf 7 7 6,zs 7 5],[]⟩
theorem Lu:MU Tryz.prog none 3132=some Le:=by kernel_rfl
def Ld:bV:=⟨8,.reg [zl 1 0,zc 2 1,zf 3 7 2,zl 4 3,zk 5 .sub 4 1,zc 6 1,zf 7 7 6,zs 7 5],[]⟩
theorem Lt:MU Tryz.prog none 3135=some Ld:=by kernel_rfl
end
open Go.Abs Go.Abs.S
def cM(s:Bs)(w:Wd)(g x y:Int)(orv:ab):List ab:=.str s::(fx w.k w.S w.n w.line w.at_ w.en++[.int .i64 g,.int .i64 x,.int .i64 y,orv])
structure Fp(pb:Nat)(H H':aa):Prop where
 next:H.next<=H'.next
 old:∀c,c<H.next->c≠pb->H'.get c=H.get c
theorem Fp.refl(pb:Nat)(H:aa):Fp pb H H:=⟨Nat.le_refl _,fun _ _ _=>rfl⟩
theorem Fp.trans{pb:Nat}{H H' H2:aa}(a:Fp pb H H')(b:Fp pb H' H2):Fp pb H H2:=
 ⟨Nat.le_trans a.next b.next,fun c h1 h2=>by rw[b.old c (Q4 h1 a.next) h2,a.old c h1 h2]⟩
theorem lM{s:Bs}{p:Nat}{w:Wd}(h:cW s p=.ok w):fm s (p:Int)=dg (fx w.k w.S w.n w.line w.at_ w.en) (dQ 0 0):=by
 unfold cW at h
 unfold fm
 by_cases a1:16384<s.length
 ·rw[if_pos a1]at h; first | (simp at h; done) | (simp only[Except.error.injEq]at h; subst h; rw[if_pos a1])
 rw[if_neg a1]at h ⊢
 by_cases a2:s.length<p
 ·rw[if_pos a2]at h
  have a2':(p:Int)<0∨(s.length:Int)<(p:Int):=.inr om
  first | (simp at h; done) | (simp only[Except.error.injEq]at h; subst h; rw[if_pos a2'])
 have a2':¬((p:Int)<0∨(s.length:Int)<(p:Int)):=om
 rw[if_neg a2]at h
 rw[if_neg a2',Int.toNat_natCast]
 by_cases a3:ba s p=s.length
 ·rw[if_pos a3]at h ⊢
  first | (simp at h; done) | (simp only[Except.ok.injEq]at h; subst h; rfl)
 rw[if_neg a3]at h ⊢
 split at h <;> first | (simp at h; done) | skip
 rename_i ht
 first | simp only[Except.ok.injEq]at h | simp only[Except.error.injEq]at h
 subst h
 simp only[ht]
theorem mQ{s:Bs}{p:Nat}{e:gB}(h:cW s p=.error e):fm s (p:Int)=dg (fx 0 [] 0 0 0 0) (dQ e.1 e.2):=by
 unfold cW at h
 unfold fm
 by_cases a1:16384<s.length
 ·rw[if_pos a1]at h; first | (simp at h; done) | (simp only[Except.error.injEq]at h; subst h; rw[if_pos a1])
 rw[if_neg a1]at h ⊢
 by_cases a2:s.length<p
 ·rw[if_pos a2]at h
  have a2':(p:Int)<0∨(s.length:Int)<(p:Int):=.inr om
  first | (simp at h; done) | (simp only[Except.error.injEq]at h; subst h; rw[if_pos a2'])
 have a2':¬((p:Int)<0∨(s.length:Int)<(p:Int)):=om
 rw[if_neg a2]at h
 rw[if_neg a2',Int.toNat_natCast]
 by_cases a3:ba s p=s.length
 ·rw[if_pos a3]at h ⊢
  first | (simp at h; done) | (simp only[Except.ok.injEq]at h; subst h; rfl)
 rw[if_neg a3]at h ⊢
 split at h <;> first | (simp at h; done) | skip
 rename_i ht
 first | simp only[Except.ok.injEq]at h | simp only[Except.error.injEq]at h
 subst h
 simp only[ht]
theorem cE{H:aa}{b n:Nat}{l l':List ab}(h:aT H b l)(hn:l.length=n){i:Nat}(hi:i<n){x:ab}(hx:x.one=true)(e:l.set i x=l') :
  ∃H',a8 1 H (ae b n i) x=some H'/\aT H' b l'/\H'.next=H.next/\∀c,c≠b->H'.get c=H.get c:=by
 subst e; exact ci h hn hi hx
theorem gn{H:aa}{b n:Nat}{l l':List ab}(h:aT H b l)(hn:l.length=n){i k:Nat}(hik:i+k<=n){xs:List ab}(hx:xs.length=k)(ho:xs.all ab.one=true)(e:l.take i++(xs++l.drop (i+k))=l') :
  ∃H',a8 k H (ae b n i) (.agg xs)=some H'/\aT H' b l'/\H'.next=H.next/\∀c,c≠b->H'.get c=H.get c:=by
 subst e; exact As h hn hik hx ho
theorem Gu:MK aA:=⟨fun f hf=>by show Nat.beq f 153=false; rw[bD]; exact decide_eq_false hf,rfl,fun s H hs=>by
 show (bif Nat.beq 153 153 then tM H [.str s] else none)=_
 rw[show Nat.beq 153 153=true from rfl,cond_true]
 simp only[tM,QS hs,cond_true]⟩
open Go.Abs Go.Abs.S
theorem mP{s:Bs}{p:Nat}{e:gB}(h:cW s p=.error e):e.1≠0:=by
 unfold cW at h
 split at h
 ·simp only[Except.error.injEq]at h; subst h; simp
 split at h
 ·simp only[Except.error.injEq]at h; subst h; simp
 split at h
 ·simp at h
 split at h
 ·simp at h
 ·simp only[Except.error.injEq]at h; subst h; simp
theorem bZ{H:aa}{pb:Nat}{s:Bs}{w:Wd}{g x y:Int}{orv:ab}(hr:aT H pb (cM s w g x y orv))(hpb:pb<H.next)(hw:w.en<=9223372036854775807) :
  aq Tryz.prog aA 31 [ae pb 11 0] H fun v H'=>(match bC s w with
   | .ok w'=>v=.bool true/\aT H' pb (cM s w' g x y orv)
   | .error e=>v=.bool false/\aT H' pb (cM s w g e.1 e.2 orv))/\Fp pb H H':=by
 refine af rfl Qd rfl ?_
 obtain⟨H1,hH1⟩:∃H1,H1=(H.push (.cells ZW 0 false)).push (.cells Z2 0 false):=⟨_,rfl⟩
 have n1:H1.next=H.next+2:=by rw[hH1]; rfl
 have k1:∀c,c<H.next->H1.get c=H.get c:=fun c hc=>by rw[hH1,aa.get_push,if_neg (by rw[aZ]; omega),aE hc]
 have g3:H1.get H.next=some (.cells ZW 0 false):=by rw[hH1,aa.get_push,if_neg (by rw[aZ]; omega),aa.get_push,if_pos rfl]
 have g4:H1.get (H.next+1)=some (.cells Z2 0 false):=by rw[hH1,aa.get_push,if_pos (by rw[aZ])]
 have r1:=hr.same (k1 pb hpb)
 have l0:am false 1 H1 (ae pb 11 0)=some (.str s):=ah r1 rfl rfl
 have l6:am false 1 H1 (ae pb 11 6)=some (.int .i64 (w.en:Int)):=ah r1 rfl rfl
 simp only[ZW,Z2]at hH1 g3 g4
 simp only[c31,sA,sB,seval]
 refine zE ?_
 simp only[aF,et,bY,<- hH1]
 simp only[sA,sB,seval,sR,ol,aw,aB,fld0,l0,l6]
 refine (uT Gu (s:=s) (p:=(w.en:Int)) om om).mono ?_
 rintro v H2 ⟨rfl,E2⟩
 have e2:=E2.next
 have r2:=r1.same (E2.old pb om)
 have q3:H2.get H.next=_:=(E2.old _ om).trans g3
 have q4:H2.get (H.next+1)=_:=(E2.old _ om).trans g4
 have cl3:fT H2 H.next _ none=some (ae H.next 6 0):=j9 q3 rfl
 have dl3:fT H1 H.next _ none=some (ae H.next 6 0):=j9 g3 rfl
 have dl4:fT H1 (H.next+1) _ none=some (ae (H.next+1) 2 0):=j9 g4 rfl
 have cl4:fT H2 (H.next+1) _ none=some (ae (H.next+1) 2 0):=j9 q4 rfl
 cases hn:bC s w with
 | ok w'=>
  rw[lM hn]
  obtain⟨H3,m3,r3,n3,k3⟩:=aj (H:=H2) (b:=H.next) ⟨0,q3,Nat.zero_le _⟩ (n:=6) rfl (xs:=fx w'.k w'.S w'.n w'.line w'.at_ w'.en) rfl rfl
  obtain⟨H4,m4,r4,n4,k4⟩:=aj (H:=H3) (b:=H.next+1) ⟨0,(k3 _ om).trans q4,Nat.zero_le _⟩ (n:=2) rfl (xs:=dQ 0 0) rfl rfl
  have s4:=r2.same (H':=H4) (by rw[k4 _ om,k3 _ om])
  have z4:am false 1 H4 (ae (H.next+1) 2 0)=some (.int .i64 0):=ah r4 rfl rfl
  have w4:=al (r3.same (k4 _ om)) (n:=6) rfl
  obtain⟨H5,m5,r5,n5,k5⟩:=gn s4 (n:=11) rfl (i:=1) (k:=6) om (xs:=fx w'.k w'.S w'.n w'.line w'.at_ w'.en) rfl rfl (l':=cM s w' g x y orv) rfl
  simp only[sA,sB,seval,sR,dg,b9,b7,ol,cl3,cl4,m3,m4]
  simp only[cw,cx,bR,pV,cy,db,and_true,true_and,List.map_cons,List.map_nil,sA,sB,seval]
  refine⟨⟨⟨_,rfl,fun _=>⟨_,dl3,mY _ _ _⟩⟩,⟨_,rfl,fun _=>⟨_,dl4,mY _ _ _⟩⟩⟩,?_⟩
  simp only[sA,sB,seval,aw,aB,fld0,z4,w4,m5]
  exact⟨⟨tt,r5⟩,om,fun c hc hp=>by rw[k5 c hp,k4 c om,k3 c om,E2.old c om,k1 c hc]⟩
 | error e=>
  rw[mQ hn]
  have he:=mP hn
  obtain⟨H3,m3,r3,n3,k3⟩:=aj (H:=H2) (b:=H.next) ⟨0,q3,Nat.zero_le _⟩ (n:=6) rfl (xs:=fx 0 [] 0 0 0 0) rfl rfl
  obtain⟨H4,m4,r4,n4,k4⟩:=aj (H:=H3) (b:=H.next+1) ⟨0,(k3 _ om).trans q4,Nat.zero_le _⟩ (n:=2) rfl (xs:=dQ e.1 e.2) rfl rfl
  have s4:=r2.same (H':=H4) (by rw[k4 _ om,k3 _ om])
  have z4:am false 1 H4 (ae (H.next+1) 2 0)=some (.int .i64 (e.1:Int)):=ah r4 rfl rfl
  have w4:=al r4 (n:=2) rfl
  have he':¬(e.1:Int)=0:=om
  obtain⟨H5,m5,r5,n5,k5⟩:=gn s4 (n:=11) rfl (i:=8) (k:=2) om (xs:=dQ e.1 e.2) rfl rfl (l':=cM s w g e.1 e.2 orv) rfl
  simp only[sA,sB,seval,sR,dg,b9,b7,ol,cl3,cl4,m3,m4]
  simp only[cw,cx,bR,pV,cy,db,and_true,true_and,List.map_cons,List.map_nil,sA,sB,seval]
  refine⟨⟨⟨_,rfl,fun _=>⟨_,dl3,mY _ _ _⟩⟩,⟨_,rfl,fun _=>⟨_,dl4,mY _ _ _⟩⟩⟩,?_⟩
  simp only[sA,sB,seval,aw,aB,fld0,z4,he',w4,m5]
  exact⟨⟨tt,r5⟩,om,fun c hc hp=>by rw[k5 c hp,k4 c om,k3 c om,E2.old c om,k1 c hc]⟩
theorem DL{H:aa}{v:ab}{l:List Bs}{n:Nat}(c:xj n H v (l.map ab.str))(x:Bs)(hl:l.length<=1000):aq Tryz.prog aA 130 [v,.str x] H fun u H'=>H=H'/\∃i:Int,u=.int .i64 i/\(0<=i↔l.contains x=true):=by
 refine af rfl Nz rfl ?_
 simp only[OU,sA,sB,seval,c.len,Q5]
 refine aG (fun m (T:bG) H'=>H=H'/\∃i:Nat,m=l.length-i/\i<=l.length/\T 0=v/\T 1=.str x/\T 7=.int .i64 (l.length:Int)/\T 8=.int .i64 (i:Int)/\(l.take i).contains x=false) l.length
  ⟨rfl,0,rfl,om,by simp only[sA,sB,seval],by simp only[sA,sB,seval],by simp only[sA,sB,seval],by simp only[sA,sB,seval]; try rfl,by simp⟩ ?_
 rintro m T _ ⟨rfl,i,rfl,hi,t0,t1,t7,t8,hx⟩
 by_cases hlt:i<l.length
 case neg=>
  obtain rfl:i=l.length:=om
  have hlt':¬(l.length:Int)<(l.length:Int):=om
  rw[List.take_length]at hx
  simp only[sA,sB,seval,t7,t8,hlt']
  exact⟨tt,_,rfl,by rw[hx]; simp⟩
 have hlt':(i:Int)<(l.length:Int):=om
 obtain⟨y,hy⟩:∃y,l[i]?=some y:=⟨_,QQ hlt⟩
 have io:=c.idx .i64 (i:=i) (by rw[Q5]; exact hlt)
 have lo:=c.load (i:=i) (x:=.str y) (by rw[List.getElem?_map,hy]; rfl)
 have wk:IntKind.i64.wrap ((i:Int)+1)=((i+1:Nat):Int):=xh
 by_cases he:x=y
 ·subst he
  simp only[sA,sB,seval,t0,t1,t7,t8,hlt',io,lo,Ih]
  refine⟨tt,_,rfl,?_⟩
  have:l.contains x=true:=by simpa using QY hy
  simp only[this,iff_true]; omega
 ·simp only[sA,sB,seval,t0,t1,t7,t8,hlt',io,lo,he,wk]
  refine⟨l.length-(i+1),om,tt,i+1,rfl,om,tt,tt,tt,tt,?_⟩
  rw[List.take_add_one,hy]
  simp only[Option.toList_some,List.contains_eq_mem,List.mem_append,List.mem_singleton,decide_eq_false_iff_not]at hx ⊢
  rintro (h | h)
  ·exact hx h
  ·exact he h
theorem uh{H:aa}{v:ab}{l:List Bs}{n:Nat}(c:xj n H v (l.map ab.str))(x:Bs)(hl:l.length<=1000):aq Tryz.prog aA 99 [v,.str x] H fun u H'=>H=H'/\u=.bool (l.contains x):=by
 refine af rfl PD rfl ?_
 simp only[c99,sA,sB,seval]
 refine (DL c x hl).mono ?_
 rintro _ _ ⟨rfl,i,rfl,hi⟩
 simp only[sA,sB,seval]
 refine⟨tt,?_⟩
 congr 1
 rw[<- Bool.coe_iff_coe,<- hi]; simp
theorem ij{H:aa}{pb:Nat}{s:Bs}{w:Wd}{g x y:Int}{orv v:ab}{l:List Bs}{n:Nat}(hr:aT H pb (cM s w g x y orv))(c:xj n H v (l.map ab.str))(hl:l.length<=1000):aq Tryz.prog aA 58 [ae pb 11 0,v] H fun u H'=>H=H'/\u=.bool (fq w l):=by
 refine af rfl P2 rfl ?_
 have l1:am false 1 H (ae pb 11 1)=some (.int .u8 (w.k:Int)):=ah hr rfl rfl
 have l2:am false 1 H (ae pb 11 2)=some (.str w.S):=ah hr rfl rfl
 by_cases hk:w.k=4
 ·have hk':(w.k:Int)=4:=om
  simp only[QA,sA,sB,seval,aw,aB,fld0,l1,hk',l2]
  refine (uh c w.S hl).mono ?_
  rintro _ _ ⟨rfl,rfl⟩
  have e:fq w l=l.contains w.S:=by simp only[fq,hk]; rfl
  rw[e]
  simp only[sA,sB,seval]
  exact⟨tt,tt⟩
 ·have hk':¬(w.k:Int)=4:=om
  have e:fq w l=false:=by
   have:Nat.beq w.k 4=false:=by rw[bD]; exact decide_eq_false hk
   simp only[fq,this]; rfl
  simp only[QA,sA,sB,seval,aw,aB,fld0,l1,hk',e]
  exact⟨tt,tt⟩
theorem iS{H:aa}{pb:Nat}{s:Bs}{w:Wd}{g x y:Int}{orv:ab}(hr:aT H pb (cM s w g x y orv))(t:Bs):aq Tryz.prog aA 64 [ae pb 11 0,.str t] H fun u H'=>H=H'/\u=.bool (j6 w t):=by
 refine af rfl PZ rfl ?_
 have l1:am false 1 H (ae pb 11 1)=some (.int .u8 (w.k:Int)):=ah hr rfl rfl
 have l2:am false 1 H (ae pb 11 2)=some (.str w.S):=ah hr rfl rfl
 by_cases hk:w.k=3
 ·have hk':(w.k:Int)=3:=om
  have e:j6 w t=decide (w.S=t):=by simp only[j6,hk]; rfl
  simp only[Qy,sA,sB,seval,aw,aB,fld0,l1,hk',l2,e]
  exact⟨tt,tt⟩
 ·have hk':¬(w.k:Int)=3:=om
  have e:j6 w t=false:=by
   have:Nat.beq w.k 3=false:=by rw[bD]; exact decide_eq_false hk
   simp only[j6,this]; rfl
  simp only[Qy,sA,sB,seval,aw,aB,fld0,l1,hk',e]
  exact⟨tt,tt⟩
theorem ja{H:aa}{pb:Nat}{s:Bs}{w:Wd}{g x y:Int}{orv:ab}(hr:aT H pb (cM s w g x y orv))(e:Nat):aq Tryz.prog aA 70 [ae pb 11 0,.int .i64 (e:Int)] H fun u H'=>u=.bool false/\aT H' pb (cM s w g e w.line orv)/\Fp pb H H':=by
 refine af rfl PT rfl ?_
 have l4:am false 1 H (ae pb 11 4)=some (.int .i64 (w.line:Int)):=ah hr rfl rfl
 have bf:bB [.int .i64 0,.int .i64 0] [(0,1,.int .i64 (e:Int)),(1,1,.int .i64 (w.line:Int))]=some (.agg (dQ e w.line)):=rfl
 obtain⟨H5,m5,r5,n5,k5⟩:=gn hr (n:=11) rfl (i:=8) (k:=2) om (xs:=dQ e w.line) rfl rfl (l':=cM s w g e w.line orv) rfl
 simp only[c70,sA,sB,seval,aw,aB,fld0,l4,bf,m5]
 exact⟨tt,r5,om,fun c _ hp=>k5 c hp⟩
theorem uM{H:aa}{pb:Nat}{s:Bs}{w:Wd}{g:Nat}{x y:Int}{orv:ab}(hr:aT H pb (cM s w g x y orv))(h:200<=g):aq Tryz.prog aA 59 [ae pb 11 0] H fun u H'=>u=.bool false/\aT H' pb (cM s w g 102 w.line orv)/\Fp pb H H':=by
 refine af rfl M0 rfl ?_
 have l7:am false 1 H (ae pb 11 7)=some (.int .i64 (g:Int)):=ah hr rfl rfl
 have h':(200:Int)<=(g:Int):=om
 simp only[Qz,sA,sB,seval,aw,aB,fld0,l7,h']
 refine (ja hr 102).mono ?_
 rintro _ H1 ⟨rfl,r1,f1⟩
 simp only[sA,sB,seval]
 exact⟨tt,r1,f1⟩
theorem uL{H:aa}{pb:Nat}{s:Bs}{w:Wd}{g:Nat}{x y:Int}{orv:ab}(hr:aT H pb (cM s w g x y orv))(h:¬200<=g):aq Tryz.prog aA 59 [ae pb 11 0] H fun u H'=>u=.bool true/\aT H' pb (cM s w ((g+1:Nat):Int) x y orv)/\Fp pb H H'/\H'.next=H.next:=by
 refine af rfl M0 rfl ?_
 have l7:am false 1 H (ae pb 11 7)=some (.int .i64 (g:Int)):=ah hr rfl rfl
 have h':¬(200:Int)<=(g:Int):=om
 have wk:IntKind.i64.wrap ((g:Int)+1)=((g+1:Nat):Int):=xh
 obtain⟨H5,m5,r5,n5,k5⟩:=cE hr (n:=11) rfl (i:=7) om (x:=.int .i64 ((g+1:Nat):Int)) rfl (l':=cM s w ((g+1:Nat):Int) x y orv) rfl
 simp only[Qz,sA,sB,seval,aw,aB,fld0,l7,h',wk,m5]
 exact⟨tt,r5,⟨om,fun c _ hp=>k5 c hp⟩,n5⟩
theorem mL(H:aa)(c:Bs):xj (H.push (.cells [.str c] 0 false)).next (H.push (.cells [.str c] 0 false)) (AC H) ([c].map ab.str):=(dA H [.str c]).cel rfl (Nat.lt_succ_self _)
theorem ef{H:aa}{pb:Nat}{s:Bs}{w:Wd}{g x y:Int}{orv:ab}(hr:aT H pb (cM s w g x y orv))(hpb:pb<H.next)(hw:w.en<=9223372036854775807)(c:Bs) :
  aq Tryz.prog aA 69 [ae pb 11 0,.str c] H fun v H'=>(match bE s c w with
   | .ok w'=>v=.bool true/\aT H' pb (cM s w' g x y orv)
   | .error e=>v=.bool false/\aT H' pb (cM s w g e.1 e.2 orv))/\Fp pb H H':=by
 refine af rfl PU rfl ?_
 have bs:=fS (.str []) H (x:=.str c) rfl
 have r1:=hr.same (H':=H.push (.cells [.str c] 0 false)) (aE hpb)
 have f1:Fp pb H (H.push (.cells [.str c] 0 false)):=⟨by rw[aZ]; omega,fun c hc _=>aE hc⟩
 simp only[c69,sA,sB,seval,bs]
 refine (ij r1 (mL H c) (by simp)).mono ?_
 rintro _ _ ⟨rfl,rfl⟩
 cases hs:fq w [c] with
 | true=>
  simp only[sA,sB,seval]
  refine (bZ r1 (by rw[aZ]; omega) hw).mono ?_
  rintro v H2 ⟨h2,f2⟩
  have e:bE s c w=bC s w:=by unfold bE; rw[if_pos hs]
  rw[e]
  simp only[sA,sB,seval]
  exact⟨h2,f1.trans f2⟩
 | false=>
  simp only[sA,sB,seval]
  refine (ja r1 101).mono ?_
  rintro v H2 ⟨rfl,h2,f2⟩
  have e:bE s c w=.error (101,w.line):=by unfold bE; rw[if_neg (by rw[hs]; simp)]
  rw[e]
  simp only[sA,sB,seval]
  exact⟨⟨tt,h2⟩,f1.trans f2⟩
open Go.Abs Go.Abs.S
def Aa(n pb:Nat)(H:aa):Nat->ab->Prop
 | 0,v=>v=.func (.func 30) [ae pb 11 0] []
 | k+1,v=>∃c0 c1 c2 c3 b m vb,v=.func (.func 57) [] [ae c0 1 0,ae c1 1 0,ae c2 1 0,ae c3 1 0]/\aT H c0 [vb]/\aT H c1 [ae pb 11 0]/\aT H c2 [qL b m (.known m)]/\aT H c3 [.bool (!Nat.beq (k+1) 3)]/\aT H b ((yr (k+1)).map ab.str)/\((yr (k+1)).map ab.str).length=m/\(∀c,c=c0∨c=c1∨c=c2∨c=c3∨c=b->c<n/\c≠pb)/\Aa n pb H k vb
theorem Aa.keep{n pb:Nat}{H H':aa}(q:∀c,c<n->c≠pb->H'.get c=H.get c):∀{k:Nat} {v:ab},Aa n pb H k v->Aa n pb H' k v
 | 0,_,h=>h
 | k+1,_,h=>by
  obtain⟨c0,c1,c2,c3,b,m,vb,h1,h2,h3,h4,h5,h6,h7,h8,h9⟩:=h
  have q':∀c,c=c0∨c=c1∨c=c2∨c=c3∨c=b->H'.get c=H.get c:=fun c hc=>q c (h8 c hc).1 (h8 c hc).2
  exact⟨c0,c1,c2,c3,b,m,vb,h1,h2.same (q' _ (by simp)),h3.same (q' _ (by simp)),h4.same (q' _ (by simp)),h5.same (q' _ (by simp)),h6.same (q' _ (by simp)),h7,h8,Aa.keep q h9⟩
theorem Aa.more{n n' pb:Nat}{H:aa}(hn:n<=n'):∀{k:Nat} {v:ab},Aa n pb H k v->Aa n' pb H k v
 | 0,_,h=>h
 | k+1,_,h=>by
  obtain⟨c0,c1,c2,c3,b,m,vb,h1,h2,h3,h4,h5,h6,h7,h8,h9⟩:=h
  exact⟨c0,c1,c2,c3,b,m,vb,h1,h2,h3,h4,h5,h6,h7,fun c hc=>⟨Q4 (h8 c hc).1 hn,(h8 c hc).2⟩,Aa.more hn h9⟩
structure PA(n pb:Nat)(s:Bs)(H:aa)(w:Wd)(g:Nat)(x y:Int)(orv:ab):Prop where
 row:aT H pb (cM s w g x y orv)
 hpb:pb<n
 hn:n<=H.next
 or:Aa n pb H 5 orv
 ok:fy s w
 hg:g<=200
theorem PA.fwd{n pb:Nat}{s:Bs}{H H':aa}{w w':Wd}{g g':Nat}{x y x' y':Int}{orv:ab}(h:PA n pb s H w g x y orv)(f:Fp pb H H')(r:aT H' pb (cM s w' g' x' y' orv))(hw:fy s w')(hg:g'<=200):PA n pb s H' w' g' x' y' orv:=
 ⟨r,h.hpb,Nat.le_trans h.hn f.next,h.or.keep fun c hc hp=>f.old c (Q4 hc h.hn) hp,hw,hg⟩
theorem PA.lt{n pb:Nat}{s:Bs}{H:aa}{w:Wd}{g:Nat}{x y:Int}{orv:ab}(h:PA n pb s H w g x y orv):pb<H.next:=Q4 h.hpb h.hn
theorem PA.en{n pb:Nat}{s:Bs}{H:aa}{w:Wd}{g:Nat}{x y:Int}{orv:ab}(h:PA n pb s H w g x y orv):w.en<=9223372036854775807:=by
 have h1:=h.ok.en
 have h2:=h.ok.long
 omega
def MJ(pb:Nat)(s:Bs)(g:Nat)(x y:Int)(orv:ab)(H:aa)(r:dt Ex)(u:ab)(H':aa):Prop:=
 (match r with
 | .ok (e,w')=>∃xs,u=.tuple [.agg xs,.bool true]/\XE (In H.next H'.next) H' e xs/\aT H' pb (cM s w' g x y orv)/\fy s w'
 | .error e=>∃xs w',u=.tuple [.agg xs,.bool false]/\xs.length=4/\(xs.all ab.one=true/\aeqs xs xs=true)/\aT H' pb (cM s w' g e.1 e.2 orv))/\Fp pb H H'
def QL(pb:Nat)(s:Bs)(g:Nat)(x y:Int)(orv:ab)(S:Bs)(H:aa)(r:dt Ex)(u:ab)(H':aa):Prop:=
 (match r with
 | .ok (e,w')=>∃kids v C,e=.mk 4 S 0 kids/\u=.tuple [v,.bool true]/\eX (In H.next H'.next) H' 4 v kids.length C/\qd (In H.next H'.next) H' kids C/\aT H' pb (cM s w' g x y orv)/\fy s w'
 | .error e=>∃v w',u=.tuple [v,.bool false]/\(v.one=true/\aeq v v=true)/\aT H' pb (cM s w' g e.1 e.2 orv))/\Fp pb H H'
def CV(v:ab)(H:aa)(K:ab->aa->Prop):Prop:=nV (aq Tryz.prog aA) v [] H K
theorem CV.mono{v:ab}{H:aa}{K K':ab->aa->Prop}(h:CV v H K)(k:∀u H',K u H'->K' u H'):CV v H K':=by
 obtain⟨g,a,b,h1,h2,h3⟩:=h
 exact⟨g,a,b,h1,h2,h3.mono k⟩
def mG(n pb:Nat)(s:Bs)(f k:Nat):Prop:=∀(H:aa) (w:Wd) (g:Nat) (x y:Int) (orv v:ab) (r:dt Ex),PA n pb s H w g x y orv->Aa n pb H k v->pE s f (.rule k) g w=some r->CV v H (MJ pb s g x y orv H r)
def IH(n pb:Nat)(s:Bs)(f:Nat):Prop:=∀(H:aa) (w:Wd) (g:Nat) (x y:Int) (orv:ab) (r:dt Ex),PA n pb s H w g x y orv->pE s f .prim g w=some r->aq Tryz.prog aA 61 [ae pb 11 0] H (MJ pb s g x y orv H r)
def Lg(s:Bs)(pe:NT->Nat->Wd->Option (dt Ex))(S:Bs)(g:Nat)(w:Wd):Option (dt Ex):=dn (bC s w) fun w2=>if fq w2 [[41]] then dn (bC s w2) fun w3=>aV (.mk 4 S 0 []) w3 else pe (.args S []) g w2
def IL(n pb:Nat)(s:Bs)(f:Nat):Prop:=∀(S:Bs) (H:aa) (w:Wd) (g:Nat) (x y:Int) (orv:ab) (r:dt Ex),PA n pb s H w g x y orv->fq w [[40]]=true->Lg s (pE s f) S g w=some r->aq Tryz.prog aA 100 [ae pb 11 0] H (QL pb s g x y orv S H r)
theorem cJ{α:Type}{o:Except gB Wd}{f:Wd->Option (dt α)}{r:dt α}(h:dn o f=some r):(∃e,o=.error e/\r=.error e)∨∃w,o=.ok w/\f w=some r:=by
 cases o with
 | error e=>simp only[dn,sJ]at h; exact .inl ⟨e,rfl,h.symm⟩
 | ok w=>exact .inr ⟨w,rfl,h⟩
theorem cG{α β:Type}{o:Option (dt α)}{f:α->Wd->Option (dt β)}{r:dt β}(h:fF o f=some r):(∃e,o=some (.error e)/\r=.error e)∨∃a w,o=some (.ok (a,w))/\f a w=some r:=by
 cases o with
 | none=>simp[fF]at h
 | some o=>
  cases o with
  | error e=>simp only[fF,sJ]at h; exact .inl ⟨e,rfl,h.symm⟩
  | ok p=>obtain⟨a,w⟩:=p; exact .inr ⟨a,w,rfl,h⟩
theorem kF(x:ab):jt .isU [x]=some (.bool (isU x)):=_root_.id rfl
theorem jh(f:Fn)(a b:List ab):isU (.func f a b)=false:=_root_.id rfl
theorem oS:isU (.tuple [])=true:=_root_.id rfl
theorem kG(g:Nat)(x:ab):jt (.isF g 1) [.func (.func g) [] [x]]=some (.bool true):=by
 simp[jt,Ka]
theorem jc(f:Fn)(x:ab):jt (.capt 0) [.func f [] [x]]=some x:=_root_.id rfl
theorem Cl(f:Nat)(a b:List ab):jt .dset [.tuple [],.func (.func f) a b]=some (.func (.func f) a b):=_root_.id rfl
theorem iK(x y:ab):jt .tup [x,y]=some (.tuple [x,y]):=_root_.id rfl
theorem ml{H:aa}{pb c:Nat}{s:Bs}{w:Wd}{g:Nat}{x y:Int}{orv:ab}(hc:aT H c [ae pb 11 0])(hr:aT H pb (cM s w ((g+1:Nat):Int) x y orv))(hg:g<=1000):aq Tryz.prog aA 3132 [ae c 1 0] H fun _ H'=>aT H' pb (cM s w (g:Int) x y orv)/\H'.next=H.next/\∀k,k≠pb->H'.get k=H.get k:=by
 refine kU rfl Lu rfl ?_
 have lc:am false 1 H (ae c 1 0)=some (ae pb 11 0):=ah hc rfl rfl
 have l7:am false 1 H (ae pb 11 7)=some (.int .i64 ((g+1:Nat):Int)):=ah hr rfl rfl
 have wk:IntKind.i64.wrap (((g+1:Nat):Int)-1)=(g:Int):=xh
 obtain⟨H5,m5,r5,n5,k5⟩:=cE hr (n:=11) rfl (i:=7) om (x:=.int .i64 (g:Int)) rfl (l':=cM s w (g:Int) x y orv) rfl
 simp only[Le,sA,sB,seval,lc,aw,aB,l7,wk,m5]
 exact⟨[],rfl,r5,n5,k5⟩
theorem iu(b n i:Nat):(ae b n i).cells=[ae b n i]:=_root_.id rfl
theorem EG:bB [.int .u8 0,.str [],.int .i64 0,.slice none 0 (.known 0)] []=some (.agg [.int .u8 0,.str [],.int .i64 0,.slice none 0 (.known 0)]):=_root_.id rfl
theorem CT(S:Bs)(v:ab)(hv:v.one=true):bB [.int .u8 0,.str [],.int .i64 0,.slice none 0 (.known 0)] [(0,1,.int .u8 3),(1,1,.str S),(3,1,v)]=some (.agg [.int .u8 3,.str S,.int .i64 0,v]):=by
 cases v <;> first | rfl | (simp[ab.one]at hv)
theorem Aj(H:aa)(a b:Bs):cD 2 [.str []] H [(0,1,.str a),(1,1,.str b)]=some (qL H.next 2 (.known 2),H.push (.cells [.str a,.str b] 0 false)):=_root_.id rfl
theorem Fo{n pb:Nat}{s:Bs}{f:Nat}(ihr:mG n pb s f 0)(ihp:IH n pb s f):mG n pb s (f+1) 0:=by
 intro H w g x y orv v r A hv hr
 rw[show v=.func (.func 30) [ae pb 11 0] [] from hv]
 show nV _ _ _ _ _
 rw[iz _ _ _ _ _ dD]
 refine kU rfl Qe rfl ?_
 rw[cH]at hr
 simp only[cK]at hr
 have hlt:=A.lt
 obtain⟨H1,m1,r1,n1,k1⟩:=au H [ae pb 11 0] (n:=1) rfl
 obtain⟨H2,m2,r2,n2,k2⟩:=au H1 [.int .u8 0,.str [],.int .i64 0,.slice none 0 (.known 0)] (n:=4) rfl
 have g41:pv ([ae pb 11 0]++[]++[]) 41=.tuple []:=rfl
 have g42:pv ([ae pb 11 0]++[]++[]) 42=.tuple []:=rfl
 have F2:Fp pb H H2:=⟨om,fun c hc _=>by rw[k2 c om,k1 c om]⟩
 have A2:=A.fwd F2 (A.row.same (by rw[k2 pb om,k1 pb om])) A.ok A.hg
 have c1:aT H2 H.next [ae pb 11 0]:=r1.same (k2 _ om)
 have l1:∀{K:aa},Fp pb H2 K->am false 1 K (ae H.next 1 0)=some (ae pb 11 0):=fun q=>ah (c1.same (q.old _ om om)) rfl rfl
 have l1':=l1 (Fp.refl pb H2)
 have b0:=EG
 simp only[List.nil_append,Q9,List.append_nil]at g41 g42
 by_cases hg:200<=g
 ·rw[if_pos hg]at hr
  simp only[jq,sJ]at hr
  subst hr
  simp only[List.nil_append,Q9,List.append_nil,QF,sA,sB,seval,iu,m1,m2,l1']
  refine (uM A2.row hg).mono ?_
  rintro _ H3 ⟨rfl,r3,F3⟩
  obtain⟨H4,m4,r4,n4,k4⟩:=aj (r2.same (F3.old _ om om)) (n:=4) rfl (xs:=[.int .u8 0,.str [],.int .i64 0,.slice none 0 (.known 0)]) rfl rfl
  have l4:=al r4 (n:=4) rfl
  have f3:=F3.next
  simp only[sA,sB,seval,b0,m4,g41,g42,kF,oS,l4,iK]
  refine⟨⟨_,w,tt,rfl,⟨rfl,rfl⟩,r3.same (k4 _ om)⟩,om,fun c hc hp=>by rw[k4 c om,F3.old c om hp,F2.old c hc hp]⟩
 rw[if_neg hg]at hr
 simp only[List.nil_append,Q9,List.append_nil,QF,sA,sB,seval,iu,m1,m2,l1']
 refine (uL A2.row hg).mono ?_
 rintro _ H3 ⟨rfl,r3,F3,n3⟩
 have A3:=A2.fwd F3 r3 A.ok om
 have l3:=l1 F3
 have F4:Fp pb H3 (H3.push (.cells [.str [45],.str [33]] 0 false)):=⟨by rw[aZ]; omega,fun c hc _=>aE hc⟩
 have A4:=A3.fwd F4 (r3.same (aE A3.lt)) A.ok om
 have c4:xj (H3.push (.cells [.str [45],.str [33]] 0 false)).next (H3.push (.cells [.str [45],.str [33]] 0 false)) (qL H3.next 2 (.known 2)) ([[45],[33]].map ab.str):=(dA H3 [.str [45],.str [33]]).cel rfl (Nat.lt_succ_self _)
 simp only[sA,sB,seval,g42,Cl,l3,Aj]
 refine (ij A4.row c4 (by simp)).mono ?_
 rintro _ _ ⟨rfl,rfl⟩
 have l4:=l1 (F3.trans F4)
 have F24:=F3.trans F4
 generalize H3.push (.cells [.str [45],.str [33]] 0 false)=H4 at *
 have e4:=F24.next
 cases hs:fq w [[45],[33]] with
 | false=>
  rw[if_neg (by rw[hs]; simp)]at hr
  simp only[sA,sB,seval,l4]
  refine (ihp H4 w (g+1) x y orv r A4 hr).mono ?_
  rintro u H5 ⟨ho,F5⟩
  have e5:=F5.next
  have F25:=F24.trans F5
  have r2':aT H5 H1.next _:=r2.same (F25.old _ om om)
  have dM:∀(xs:List ab),xs.length=4->xs.all ab.one=true->∃H6,a8 4 H5 (ae H1.next 4 0) (.agg xs)=some H6/\aT H6 H1.next xs/\H6.next=H5.next/\∀c,c≠H1.next->H6.get c=H5.get c:=fun xs h1 h2=>aj r2' (n:=4) rfl h1 h2
  cases r with
  | error e=>
   obtain⟨xs,w',rfl,x1,⟨x2,x3⟩,r5⟩:=ho
   obtain⟨H6,m6,r6,n6,k6⟩:=dM xs x1 x2
   simp only[sA,sB,seval,b9,b7,m6,kF,jh,g41,oS,kG,jc]
   refine (ml (c1.same (by rw[k6 _ om,F25.old _ om om])) (r5.same (k6 _ om)) om).mono ?_
   rintro _ H7 ⟨r7,n7,k7⟩
   have l7:=al (r6.same (k7 _ om)) x1
   simp only[sA,sB,seval,l7,iK]
   exact⟨⟨xs,w',tt,x1,⟨x2,x3⟩,r7⟩,om,fun c hc hp=>by rw[k7 c hp,k6 c om,F25.old c om hp,F2.old c hc hp]⟩
  | ok p=>
   obtain⟨e,w'⟩:=p
   obtain⟨xs,rfl,x1,r5,o5⟩:=ho
   obtain⟨H6,m6,r6,n6,k6⟩:=dM xs x1.len x1.one
   simp only[sA,sB,seval,b9,b7,m6,kF,jh,g41,oS,kG,jc]
   refine (ml (c1.same (by rw[k6 _ om,F25.old _ om om])) (r5.same (k6 _ om)) om).mono ?_
   rintro _ H7 ⟨r7,n7,k7⟩
   have l7:=al (r6.same (k7 _ om)) x1.len
   simp only[sA,sB,seval,l7,iK]
   refine⟨⟨xs,tt,x1.mono fun b hb=>?_,r7,o5⟩,om,fun c hc hp=>by rw[k7 c hp,k6 c om,F25.old c om hp,F2.old c hc hp]⟩
   have h1:=hb.1
   have h2:=hb.2
   exact⟨⟨om,om⟩,by rw[k7 b om,k6 b om]⟩
 | true=>
  rw[if_pos hs]at hr
  have l2:am false 1 H4 (ae pb 11 2)=some (.str w.S):=ah A4.row rfl rfl
  simp only[sA,sB,seval,l4,aw,aB,l2]
  refine (bZ A4.row A4.lt A4.en).mono ?_
  rintro u H5 ⟨ho,F5⟩
  have e5:=F5.next
  have F25:=F24.trans F5
  have l5:=l1 F25
  rcases cJ hr with⟨e,he,rfl⟩ | ⟨w1,he,hr⟩
  ·rw[he]at ho
   obtain⟨rfl,r5⟩:=ho
   obtain⟨H6,m6,r6,n6,k6⟩:=aj (r2.same (F25.old _ om om)) (n:=4) rfl (xs:=[.int .u8 0,.str [],.int .i64 0,.slice none 0 (.known 0)]) rfl rfl
   simp only[sA,sB,seval,b0,m6,kF,jh,g41,oS,kG,jc]
   refine (ml (c1.same (by rw[k6 _ om,F25.old _ om om])) (r5.same (k6 _ om)) om).mono ?_
   rintro _ H7 ⟨r7,n7,k7⟩
   have l7:=al (r6.same (k7 _ om)) (n:=4) rfl
   simp only[sA,sB,seval,l7,iK]
   exact⟨⟨_,w,tt,rfl,⟨rfl,rfl⟩,r7⟩,om,fun c hc hp=>by rw[k7 c hp,k6 c om,F25.old c om hp,F2.old c hc hp]⟩
  rw[he]at ho
  obtain⟨rfl,r5⟩:=ho
  have A5:=A4.fwd F5 r5 (aK he A.ok (by rw[fl hs]; omega)).1 om
  simp only[sA,sB,seval,l5]
  have hc:∀{r':dt Ex},pE s f (.rule 0) (g+1) w1=some r'->aq Tryz.prog aA 30 [ae pb 11 0] H5 (MJ pb s ((g+1:Nat)) x y orv H5 r'):=by
   intro r' h'
   have:=ihr H5 w1 (g+1) x y orv _ r' A5 rfl h'
   rw[CV,iz _ _ _ _ _ dD]at this
   exact this
  rcases cG hr with⟨e,he2,rfl⟩ | ⟨e1,w2,he2,hr⟩
  ·refine (hc he2).mono ?_
   rintro u H6 ⟨⟨xs,w',rfl,x1,⟨x2,_⟩,r6⟩,F6⟩
   have e6:=F6.next
   have F26:=F25.trans F6
   obtain⟨H7,m7,r7,n7,k7⟩:=au H6 [.int .u8 0,.str [],.int .i64 0,.slice none 0 (.known 0)] (n:=4) rfl
   obtain⟨H8,m8,r8,n8,k8⟩:=aj r7 (n:=4) rfl x1 x2
   obtain⟨H9,m9,r9,n9,k9⟩:=aj (r2.same (H':=H8) (by rw[k8 _ om,k7 _ om,F26.old _ om om])) (n:=4) rfl (xs:=[.int .u8 0,.str [],.int .i64 0,.slice none 0 (.known 0)]) rfl rfl
   have e29:∀c,c<H2.next->c≠pb->c≠H1.next->H9.get c=H2.get c:=fun c h1 h2 h3=>by rw[k9 c h3,k8 c om,k7 c om,F26.old c h1 h2]
   simp only[sA,sB,seval,b9,b7,m7,m8,b0,m9,kF,jh,g41,oS,kG,jc]
   refine (ml (c1.same (e29 _ om om om)) (r6.same (by rw[k9 _ om,k8 _ om,k7 _ om])) om).mono ?_
   rintro _ Ha ⟨ra,na,ka⟩
   have la:=al (r9.same (ka _ om)) (n:=4) rfl
   simp only[sA,sB,seval,la,iK]
   exact⟨⟨_,w',tt,rfl,⟨rfl,rfl⟩,ra⟩,om,fun c hc hp=>by rw[ka c hp,e29 c om hp om,F2.old c hc hp]⟩
  simp only[aV,sJ]at hr
  subst hr
  refine (hc he2).mono ?_
  rintro u H6 ⟨⟨xs,rfl,x1,r6,o6⟩,F6⟩
  have e6:=F6.next
  have F26:=F25.trans F6
  obtain⟨H7,m7,r7,n7,k7⟩:=au H6 [.int .u8 0,.str [],.int .i64 0,.slice none 0 (.known 0)] (n:=4) rfl
  obtain⟨H8,m8,r8,n8,k8⟩:=aj r7 (n:=4) rfl x1.len x1.one
  have l8:=al r8 x1.len
  have bs:=jp (z:=[.int .u8 0,.str [],.int .i64 0,.slice none 0 (.known 0)]) (m:=4) H8 rfl x1.len
  have rP:aT (H8.push (.cells xs 0 false)) H8.next xs:=dA _ _
  obtain⟨H9,m9,r9,n9,k9⟩:=aj (H:=H8.push (.cells xs 0 false)) (r2.same (by rw[aE om,k8 _ om,k7 _ om,F26.old _ om om])) (n:=4) rfl (xs:=[.int .u8 3,.str w.S,.int .i64 0,jO H8 4]) rfl rfl
  rw[aZ]at n9
  have k9':∀c,c<H8.next->c≠H1.next->H9.get c=H8.get c:=fun c h1 h2=>by rw[k9 c h2,aE h1]
  have e29:∀c,c<H2.next->c≠pb->c≠H1.next->H9.get c=H2.get c:=fun c h1 h2 h3=>by rw[k9' c om h3,k8 c om,k7 c om,F26.old c h1 h2]
  simp only[sA,sB,seval,b9,b7,m7,m8,l8,bs,CT _ (jO H8 4) rfl,m9,kF,jh,g41,oS,kG,jc]
  refine (ml (c1.same (e29 _ om om om)) (r6.same (by rw[k9' _ om om,k8 _ om,k7 _ om])) om).mono ?_
  rintro _ Ha ⟨ra,na,ka⟩
  have la:=al (r9.same (ka _ om)) (n:=4) rfl
  have rk:aT Ha H8.next xs:=rP.same (by rw[ka _ om,k9 _ om])
  simp only[sA,sB,seval,la,iK]
  refine⟨⟨_,tt,⟨jO H8 4,xs,rfl,.row rk x1.len rfl ⟨om,om⟩,.sing (x1.mono fun b hb=>?_)⟩,ra,o6⟩,om,fun c hc hp=>by rw[ka c hp,e29 c om hp om,F2.old c hc hp]⟩
  have h1:=hb.1
  have h2:=hb.2
  exact⟨⟨om,om⟩,by rw[ka b om,k9' b om om,k8 b om,k7 b om]⟩
open Go.Abs Go.Abs.S
theorem gr{T:bG}{H:aa}(g:Bool)(n i j:Nat)(K:ab->aa->Prop):dM [.cell g n i,.t j] K .ret T H=dy (am g n H (T i)) fun v=>K (.tuple [v,T j]) H:=by
 rw[CE]
 simp only[nB]
 cases am g n H (T i) with
 | none=>simp[dy]
 | some v=>simp only[aP]; rfl
theorem N9(H:aa){xs ys:List ab}(hx:xs.length=4)(hy:ys.length=4):cD 2 [.int .u8 0,.str [],.int .i64 0,.slice none 0 (.known 0)] H [(0,4,.agg xs),(4,4,.agg ys)]=some (.slice (some ⟨H.next,8,0⟩) 2 (.known 2),H.push (.cells (xs++ys) 0 false)):=by
 match xs,hx with
 | [a,b,c,d],_=>
  match ys,hy with
  | [e,f,g,h],_=>rfl
theorem Lv{n pb:Nat}{s:Bs}{f k:Nat}(hk:k+1<=5)(ihr:∀f',f'<=f->mG n pb s f' k):mG n pb s (f+1) (k+1):=by
 intro H w g x y orv v r A hv hr
 obtain⟨c0,c1,c2,c3,b,m,vb,rfl,R0,R1,R2,R3,Rb,hm,hc,hvb⟩:=id hv
 show nV _ _ _ _ _
 rw[iz _ _ _ _ _ dD]
 refine af rfl P3 rfl ?_
 rw[cH]at hr
 simp only[cK]at hr
 have hlt:=A.lt
 have hnn:=A.hn
 obtain⟨hc0,hp0⟩:=hc c0 (by simp)
 obtain⟨hc1,hp1⟩:=hc c1 (by simp)
 obtain⟨hc2,hp2⟩:=hc c2 (by simp)
 obtain⟨hc3,hp3⟩:=hc c3 (by simp)
 obtain⟨hcb,hpb'⟩:=hc b (by simp)
 obtain⟨H1,m1,r1,n1,k1⟩:=au H [.int .u8 0,.str [],.int .i64 0,.slice none 0 (.known 0)] (n:=4) rfl
 have F1:Fp pb H H1:=⟨om,fun c hc _=>k1 c om⟩
 have A1:=A.fwd F1 (A.row.same (k1 pb om)) A.ok A.hg
 have l0:∀{K:aa},Fp pb H K->am false 1 K (ae c0 1 0)=some vb:=fun q=>ah (R0.same (q.old _ om hp0)) rfl rfl
 have l1:∀{K:aa},Fp pb H K->am false 1 K (ae c1 1 0)=some (ae pb 11 0):=fun q=>ah (R1.same (q.old _ om hp1)) rfl rfl
 have l2:∀{K:aa},Fp pb H K->am false 1 K (ae c2 1 0)=some (qL b m (.known m)):=fun q=>ah (R2.same (q.old _ om hp2)) rfl rfl
 have l3:∀{K:aa},Fp pb H K->am false 1 K (ae c3 1 0)=some (.bool (!Nat.beq (k+1) 3)):=fun q=>ah (R3.same (q.old _ om hp3)) rfl rfl
 have lb:∀{K:aa},Fp pb H K->xj K.next K (qL b m (.known m)) ((yr (k+1)).map ab.str):=fun q=>(Rb.same (q.old _ om hpb')).cel hm (by have:=q.next; omega)
 have hlv:(yr (k+1)).length<=1000:=by
  match k,hk with
  | 0,_ | 1,_ | 2,_ | 3,_ | 4,_=>decide
 have l01:=l0 F1
 have b0:=EG
 simp only[List.nil_append,Q9,List.append_nil,c57,sW,sL,iZ,iI,nf,sB,seval,m1,l01]
 obtain⟨r0,hr0⟩:∃r0,pE s f (.rule k) g w=some r0:=by
  rcases cG hr with⟨e,he,rfl⟩ | ⟨e1,w2,he,_⟩
  ·exact⟨_,he⟩
  ·exact⟨_,he⟩
 refine (ihr f rL H1 w g x y orv vb r0 A1 (hvb.keep fun c h1 h2=>F1.old c om h2) hr0).mono ?_
 rintro u H2 ⟨ho,F2⟩
 have e2:=F2.next
 have start:∃xs ok,u=.tuple [.agg xs,.bool ok]/\xs.length=4/\xs.all ab.one=true:=by
  cases r0 with
  | error e=>obtain⟨xs,w',rfl,x1,⟨x2,_⟩,_⟩:=ho; exact⟨xs,false,rfl,x1,x2⟩
  | ok p=>obtain⟨e,w'⟩:=p; obtain⟨xs,rfl,x1,_⟩:=ho; exact⟨xs,true,rfl,x1.len,x1.one⟩
 obtain⟨xs,ok,rfl,x1,x2⟩:=start
 obtain⟨H3,m3,r3,n3,k3⟩:=au H2 [.int .u8 0,.str [],.int .i64 0,.slice none 0 (.known 0)] (n:=4) rfl
 obtain⟨H4,m4,r4,n4,k4⟩:=aj r3 (n:=4) rfl x1 x2
 simp only[sW,sL,iZ,iI,nf,sB,seval,b9,b7,m3,m4]
 rw[dS]
 have k42:∀c,c<H2.next->H4.get c=H2.get c:=fun c hc=>by rw[k4 c om,k3 c om]
 have F4:Fp pb H H4:=⟨om,fun c hc hp=>by rw[k42 c om,F2.old c om hp,F1.old c hc hp]⟩
 have r14:aT H4 H.next _:=r1.same (by rw[k42 _ om,F2.old _ om om])
 refine fu (fun (T:bG) H'=>T 4=ae H.next 4 0/\T 6=ae H2.next 4 0/\aT H' H.next [.int .u8 0,.str [],.int .i64 0,.slice none 0 (.known 0)]/\Fp pb H H'/\H.next<H'.next/\((∃e w' xs,r=.ok (e,w')/\T 7=.bool true/\aT H' H2.next xs/\XE (In (H.next+1) H'.next) H' e xs/\aT H' pb (cM s w' g x y orv)/\fy s w')∨∃e w',r=.error e/\T 7=.bool false/\aT H' pb (cM s w' g e.1 e.2 orv))) (bH _ _) ?_ ?_
 rotate_left
 ·rintro T H5 ⟨t4,t6,q4,F5,lt5,⟨e,w',xs,rfl,t7,rx,hx,rp,hw⟩ | ⟨e,w',rfl,t7,rp⟩⟩
  ·have lx:=al rx hx.len
   obtain⟨H6,m6,r6,n6,k6⟩:=aj q4 (n:=4) rfl hx.len hx.one
   have l6:=al r6 hx.len
   simp only[sA,sB,seval,t4,t6,t7,lx,m6,gr,l6,aP]
   refine⟨⟨xs,tt,hx.mono fun c hc=>⟨⟨Nat.le_of_succ_le hc.1,by rw[n6]; exact hc.2⟩,k6 c (by have:=hc.1; omega)⟩,rp.same (k6 _ om),hw⟩,by rw[n6]; exact F5.next,fun c hc hp=>by rw[k6 c om,F5.old c hc hp]⟩
  ·obtain⟨H6,m6,r6,n6,k6⟩:=aj q4 (n:=4) rfl (xs:=[.int .u8 0,.str [],.int .i64 0,.slice none 0 (.known 0)]) rfl rfl
   have l6:=al r6 (n:=4) rfl
   simp only[sA,sB,seval,t4,t6,t7,b0,m6,gr,l6,aP]
   exact⟨⟨_,w',tt,rfl,⟨rfl,rfl⟩,rp.same (k6 _ om)⟩,by rw[n6]; exact F5.next,fun c hc hp=>by rw[k6 c om,F5.old c hc hp]⟩
 refine aG (fun m' (T:bG) H'=>m'<=f/\T 0=ae c0 1 0/\T 1=ae c1 1 0/\T 2=ae c2 1 0/\T 3=ae c3 1 0/\T 4=ae H.next 4 0/\T 6=ae H2.next 4 0/\aT H' H.next [.int .u8 0,.str [],.int .i64 0,.slice none 0 (.known 0)]/\Fp pb H H'/\H2.next<H'.next/\((∃e w' xs,pE s m' (.loop (k+1) e) g w'=some r/\T 7=.bool true/\aT H' H2.next xs/\XE (fun c=>In (H.next+1) H'.next c/\c≠H2.next) H' e xs/\aT H' pb (cM s w' g x y orv)/\fy s w')∨∃e w' xs,r=.error e/\T 7=.bool false/\aT H' H2.next xs/\aT H' pb (cM s w' g e.1 e.2 orv))) f ?_ ?_
 ·refine⟨Nat.le_refl _,by simp only[sA,sB,seval]; try rfl,by simp only[sA,sB,seval]; try rfl,by simp only[sA,sB,seval]; try rfl,by simp only[sA,sB,seval]; try rfl,by simp only[sA,sB,seval],by simp only[sA,sB,seval],r14,F4,om,?_⟩
  rcases cG hr with⟨e,he,rfl⟩ | ⟨e1,w2,he,hr'⟩
  ·rw[hr0]at he
   simp only[sJ]at he
   subst he
   obtain⟨xs',w',hu,_,_,rp⟩:=ho
   simp only[ab.tuple.injEq,List.cons.injEq,ab.agg.injEq,ab.bool.injEq,and_true]at hu
   obtain⟨rfl,rfl⟩:=hu
   exact .inr ⟨e,w',xs,rfl,by simp only[sA,sB,seval],r4,rp.same (k42 _ om)⟩
  ·rw[hr0]at he
   simp only[sJ]at he
   subst he
   obtain⟨xs',hu,hx,rp,hw⟩:=ho
   simp only[ab.tuple.injEq,List.cons.injEq,ab.agg.injEq,ab.bool.injEq,and_true]at hu
   obtain⟨rfl,rfl⟩:=hu
   refine .inl ⟨e1,w2,xs,hr',by simp only[sA,sB,seval],r4,hx.mono fun c hc=>?_,rp.same (k42 _ om),hw⟩
   have h1:=hc.1
   have h2:=hc.2
   exact⟨⟨⟨om,om⟩,om⟩,k42 c h2⟩
 rintro m' T H5 ⟨hm',t0,t1,t2,t3,t4,t6,q4,F5,lt5,⟨e,w',xs,hp,t7,rx,hx,rp,hw⟩ | ⟨e,w',xs,rfl,t7,rx,rp⟩⟩
 rotate_left
 ·simp only[sA,sB,seval,t7]
  exact⟨t4,t6,q4,F5,om,.inr ⟨e,w',rfl,tt,rp⟩⟩
 cases m' with
 | zero=>simp[pE]at hp
 | succ m'=>
 rw[cH]at hp
 simp only[cK,Nat.add_sub_cancel]at hp
 have A5:=A.fwd F5 rp hw A.hg
 have l15:=l1 F5
 have l25:=l2 F5
 simp only[sA,sB,seval,t0,t1,t2,t3,t4,t6,t7,l15,l25]
 refine (ij rp (lb F5) hlv).mono ?_
 rintro _ _ ⟨rfl,rfl⟩
 cases hs:fq w' (yr (k+1)) with
 | false=>
  rw[if_neg (by rw[hs]; simp)]at hp
  simp only[aV,sJ]at hp
  subst hp
  simp only[sA,sB,seval]
  exact⟨by simp only[sA,sB,seval,t4],by simp only[sA,sB,seval,t6],q4,F5,om,.inl ⟨e,w',xs,rfl,by simp only[sA,sB,seval,t7],rx,hx.mono fun c hc=>⟨hc.1,rfl⟩,rp,hw⟩⟩
 | true=>
 rw[if_pos hs]at hp
 have lS:am false 1 H5 (ae pb 11 2)=some (.str w'.S):=ah rp rfl rfl
 simp only[sA,sB,seval,t0,t1,t2,t3,t4,t6,t7,l15,aw,aB,lS]
 refine (bZ rp A5.lt A5.en).mono ?_
 rintro u H6 ⟨h6,F6⟩
 have e6:=F6.next
 have F56:=F5.trans F6
 rcases cJ hp with⟨e',he,rfl⟩ | ⟨w1,he,hp⟩
 ·rw[he]at h6
  obtain⟨rfl,r6⟩:=h6
  obtain⟨H7,m7,r7,n7,k7⟩:=aj (q4.same (F6.old _ om om)) (n:=4) rfl (xs:=[.int .u8 0,.str [],.int .i64 0,.slice none 0 (.known 0)]) rfl rfl
  have l7:=al r7 (n:=4) rfl
  simp only[sA,sB,seval,t0,t1,t2,t3,t4,t6,t7,b0,m7,gr,l7,aP]
  exact⟨⟨_,w',tt,rfl,⟨rfl,rfl⟩,r6.same (k7 _ om)⟩,by have:=F5.next; omega,fun c hc hp=>by rw[k7 c om,F56.old c hc hp]⟩
 rw[he]at h6
 obtain⟨rfl,r6⟩:=h6
 obtain⟨hw1,-⟩:=aK he hw (by rw[fl hs]; omega)
 obtain⟨H7,m7,r7,n7,k7⟩:=au H6 [.int .u8 0,.str [],.int .i64 0,.slice none 0 (.known 0)] (n:=4) rfl
 have F7:Fp pb H H7:=⟨by have:=F56.next; omega,fun c hc hp=>by rw[k7 c (by have:=F56.next; omega),F56.old c hc hp]⟩
 have r67:=r6.same (k7 pb om)
 have A7:=A.fwd F7 r67 hw1 A.hg
 have l07:=l0 F7
 simp only[sA,sB,seval,t0,t1,t2,t3,t4,t6,t7,m7,l07]
 obtain⟨r2,hr2⟩:∃r2,pE s m' (.rule k) g w1=some r2:=by
  rcases cG hp with⟨e,he,rfl⟩ | ⟨e1,w2,he,_⟩
  ·exact⟨_,he⟩
  ·exact⟨_,he⟩
 refine (ihr m' om H7 w1 g x y orv vb r2 A7 (hvb.keep fun c h1 h2=>F7.old c om h2) hr2).mono ?_
 rintro u H8 ⟨h8,F8⟩
 have e8:=F8.next
 have F78:=F7.trans F8
 have start:∃ys ok,u=.tuple [.agg ys,.bool ok]/\ys.length=4/\ys.all ab.one=true:=by
  cases r2 with
  | error e=>obtain⟨xs,w',rfl,x1,⟨x2,_⟩,_⟩:=h8; exact⟨xs,false,rfl,x1,x2⟩
  | ok p=>obtain⟨e,w'⟩:=p; obtain⟨xs,rfl,x1,_⟩:=h8; exact⟨xs,true,rfl,x1.len,x1.one⟩
 obtain⟨ys,ok2,rfl,y1,y2⟩:=start
 obtain⟨H9,m9,r9,n9,k9⟩:=aj (r7.same (F8.old _ om om)) (n:=4) rfl y1 y2
 have l9:=al r9 y1
 have k97:∀c,c<H6.next->c≠pb->H9.get c=H6.get c:=fun c h1 h2=>by rw[k9 c om,F8.old c om h2,k7 c om]
 have k95:∀c,c<H5.next->c≠pb->H9.get c=H5.get c:=fun c h1 h2=>by rw[k97 c om h2,F6.old c h1 h2]
 have rx9:=rx.same (k95 H2.next lt5 om)
 have lx9:=al rx9 hx.len
 have bs:=N9 H9 hx.len y1
 have rP:aT (H9.push (.cells (xs++ys) 0 false)) H9.next (xs++ys):=dA _ _
 obtain⟨Ha,ma,ra,na,ka⟩:=aj (H:=H9.push (.cells (xs++ys) 0 false)) (rx9.same (aE om)) (n:=4) hx.len (xs:=[.int .u8 3,.str w'.S,.int .i64 0,.slice (some ⟨H9.next,8,0⟩) 2 (.known 2)]) rfl rfl
 rw[aZ]at na
 have ka9:∀c,c<H9.next->c≠H2.next->Ha.get c=H9.get c:=fun c h1 h2=>by rw[ka c h2,aE h1]
 have Fa:Fp pb H Ha:=⟨by have:=F78.next; omega,fun c hc hp=>by rw[ka9 c (by have:=F78.next; omega) om,k9 c (by have:=F7.next; omega),F78.old c hc hp]⟩
 have l3a:=l3 Fa
 have q4a:aT Ha H.next _:=q4.same (by rw[ka9 _ om om,k95 _ om om])
 have hpa:Ha.get pb=H8.get pb:=by rw[ka9 _ om om,k9 _ om]
 simp only[sA,sB,seval,b9,b7,t0,t1,t2,t3,t4,t6,t7,m9,lx9,l9,bs,CT w'.S (.slice (some ⟨H9.next,8,0⟩) 2 (.known 2)) rfl,ma,l3a]
 have eb:∀q:Ex×Wd,r2=.ok q->XE (fun c=>In (H.next+1) Ha.next c/\c≠H2.next) Ha (.mk 3 w'.S 0 [e,q.1]) [.int .u8 3,.str w'.S,.int .i64 0,.slice (some ⟨H9.next,8,0⟩) 2 (.known 2)]/\aT Ha pb (cM s q.2 g x y orv)/\fy s q.2:=by
  rintro ⟨e2,w2⟩ rfl
  obtain⟨ys',hu,hy,rp2,hw2⟩:=h8
  simp only[ab.tuple.injEq,List.cons.injEq,ab.agg.injEq,ab.bool.injEq,and_true]at hu
  obtain⟨rfl,rfl⟩:=hu
  refine⟨⟨_,xs++ys,rfl,.row (rP.same (ka _ om)) (by rw[lA,hx.len,y1]) rfl ⟨⟨om,om⟩,om⟩,xs,ys,rfl,hx.mono fun c hc=>?_,.sing (hy.mono fun c hc=>?_)⟩,rp2.same hpa,hw2⟩
  ·have h1:=hc.1.1
   have h2:=hc.1.2
   exact⟨⟨⟨h1,om⟩,hc.2⟩,by rw[ka9 c om hc.2,k95 c h2 om]⟩
  ·have h1:=hc.1
   have h2:=hc.2
   exact⟨⟨⟨om,om⟩,om⟩,by rw[ka9 c om om,k9 c om]⟩
 cases hb3:Nat.beq (k+1) 3 with
 | false=>
  rw[hb3]at hp
  simp only[cond_false,Q1,if_false]at hp
  simp only[sA,sB,seval,Bool.not_false]
  refine⟨m',om,om,by simp only[sA,sB,seval,t0],by simp only[sA,sB,seval,t1],by simp only[sA,sB,seval,t2],by simp only[sA,sB,seval,t3],by simp only[sA,sB,seval,t4],by simp only[sA,sB,seval,t6],q4a,Fa,om,?_⟩
  rcases cG hp with⟨e',he',rfl⟩ | ⟨e1,w2,he',hp'⟩
  ·rw[hr2]at he'
   simp only[sJ]at he'
   subst he'
   obtain⟨ys',w2,hu,_,_,rp2⟩:=h8
   simp only[ab.tuple.injEq,List.cons.injEq,ab.agg.injEq,ab.bool.injEq,and_true]at hu
   obtain⟨rfl,rfl⟩:=hu
   exact .inr ⟨e',w2,_,rfl,by simp only[sA,sB,seval],ra,rp2.same hpa⟩
  ·rw[hr2]at he'
   simp only[sJ]at he'
   subst he'
   obtain⟨z1,z2,z3⟩:=eb _ rfl
   obtain⟨ys',hu,_⟩:=h8
   simp only[ab.tuple.injEq,List.cons.injEq,ab.agg.injEq,ab.bool.injEq,and_true]at hu
   obtain⟨rfl,rfl⟩:=hu
   exact .inl ⟨_,w2,_,hp',by simp only[sA,sB,seval],ra,z1,z2,z3⟩
 | true=>
  rw[hb3]at hp
  simp only[if_true]at hp
  simp only[sA,sB,seval,Bool.not_true]
  refine⟨by simp only[sA,sB,seval,t4],by simp only[sA,sB,seval,t6],q4a,Fa,om,?_⟩
  rcases cG hp with⟨e',he',rfl⟩ | ⟨e1,w2,he',hp'⟩
  ·rw[hr2]at he'
   simp only[sJ]at he'
   subst he'
   obtain⟨ys',w2,hu,_,_,rp2⟩:=h8
   simp only[ab.tuple.injEq,List.cons.injEq,ab.agg.injEq,ab.bool.injEq,and_true]at hu
   obtain⟨rfl,rfl⟩:=hu
   exact .inr ⟨e',w2,rfl,by simp only[sA,sB,seval],rp2.same hpa⟩
  ·rw[hr2]at he'
   simp only[sJ]at he'
   subst he'
   obtain⟨z1,z2,z3⟩:=eb _ rfl
   obtain⟨ys',hu,_⟩:=h8
   simp only[ab.tuple.injEq,List.cons.injEq,ab.agg.injEq,ab.bool.injEq,and_true]at hu
   obtain⟨rfl,rfl⟩:=hu
   simp only[aV,sJ]at hp'
   subst hp'
   exact .inl ⟨_,w2,_,rfl,by simp only[sA,sB,seval],ra,z1.mono fun c hc=>⟨hc.1,rfl⟩,z2,z3⟩
open Go.Abs Go.Abs.S
theorem kE{pb:Nat}{H:aa}(o:dV):Fp pb H (H.push o):=⟨by rw[aZ]; omega,fun c hc _=>aE hc⟩
theorem PA.push{n pb:Nat}{s:Bs}{H:aa}{w:Wd}{g:Nat}{x y:Int}{orv:ab}(h:PA n pb s H w g x y orv)(o:dV):PA n pb s (H.push o) w g x y orv:=h.fwd (kE o) (h.row.same (aE h.lt)) h.ok h.hg
theorem PA.lor{n pb:Nat}{s:Bs}{H:aa}{w:Wd}{g:Nat}{x y:Int}{orv:ab}(h:PA n pb s H w g x y orv):am false 1 H (ae pb 11 10)=some orv:=ah h.row rfl rfl
theorem Df{n pb:Nat}{s:Bs}{f:Nat}(hf:f<=1000000)(ihr:∀f',f'<f->mG n pb s f' 5):IL n pb s f:=by
 intro S H w g x y orv r A hs hr
 refine af rfl N3 rfl ?_
 have hlt:=A.lt
 have t1:bE s [40] w=bC s w:=by unfold bE; rw[if_pos hs]
 simp only[Pc,sA,sB,seval]
 refine (ef A.row hlt A.en [40]).mono ?_
 rintro u H1 ⟨ho,F1⟩
 rw[t1]at ho
 have e1:=F1.next
 unfold Lg at hr
 rcases cJ hr with⟨e,he,rfl⟩ | ⟨w1,he,hr⟩
 ·rw[he]at ho
  obtain⟨rfl,r1⟩:=ho
  simp only[sA,sB,seval]
  exact⟨⟨_,w,tt,⟨rfl,rfl⟩,r1⟩,F1⟩
 rw[he]at ho
 obtain⟨rfl,r1⟩:=ho
 have hw1:=(aK he A.ok (by rw[fl hs]; omega)).1
 have A1:=A.fwd F1 r1 hw1 A.hg
 have bs:=fS (.str []) H1 (x:=.str [41]) rfl
 have A2:=A1.push (.cells [.str [41]] 0 false)
 have F2:Fp pb H (H1.push (.cells [.str [41]] 0 false)):=F1.trans (kE _)
 simp only[sA,sB,seval,bs]
 refine (ij A2.row (mL H1 [41]) (by simp)).mono ?_
 rintro _ _ ⟨rfl,rfl⟩
 generalize H1.push (.cells [.str [41]] 0 false)=H2 at *
 cases hs2:fq w1 [[41]] with
 | true=>
  rw[if_pos hs2]at hr
  simp only[sA,sB,seval]
  refine (bZ A2.row A2.lt A2.en).mono ?_
  rintro u H3 ⟨ho,F3⟩
  rcases cJ hr with⟨e,he,rfl⟩ | ⟨w2,he,hr⟩
  ·rw[he]at ho
   obtain⟨rfl,r3⟩:=ho
   simp only[sA,sB,seval]
   exact⟨⟨_,w1,tt,⟨rfl,rfl⟩,r3⟩,F2.trans F3⟩
  ·rw[he]at ho
   obtain⟨rfl,r3⟩:=ho
   simp only[aV,sJ]at hr
   subst hr
   simp only[sA,sB,seval]
   exact⟨⟨[],bP,[],rfl,tt,.nil _ _ _,rfl,r3,(aK he hw1 (by rw[fl hs2]; omega)).1⟩,F2.trans F3⟩
 | false=>
 rw[if_neg (by rw[hs2]; simp)]at hr
 have e2:=F2.next
 simp only[sA,sB,seval]
 refine aG (fun m (T:bG) H'=>∃out w' v,T 0=ae pb 11 0/\T 4=v/\GE H.next H' v out/\out.length+m<=f/\PA n pb s H' w' g x y orv/\Fp pb H H'/\pE s m (.args S out) g w'=some r) f
  ⟨[],w1,bP,by simp only[sA,sB,seval],by simp only[sA,sB,seval]; rfl,GE.nil _ _,by simp,A2,F2,hr⟩ ?_
 rintro m T H3 ⟨out,w',v,t0,t4,G3,hm,A3,F3,hp⟩
 cases m with
 | zero=>simp[pE]at hp
 | succ m=>
 rw[cH]at hp
 simp only[cK]at hp
 have l3:=A3.lor
 simp only[sA,sB,seval,t0,t4,aw,aB,l3]
 obtain⟨r0,hr0⟩:∃r0,pE s m (.rule 5) g w'=some r0:=by
  rcases cG hp with⟨e,he,rfl⟩ | ⟨e1,w2,he,_⟩
  ·exact⟨_,he⟩
  ·exact⟨_,he⟩
 have e3:=F3.next
 refine (ihr m om H3 w' g x y orv orv r0 A3 A3.or hr0).mono ?_
 rintro u H4 ⟨ho,F4⟩
 have e4:=F4.next
 have F34:=F3.trans F4
 rcases cG hp with⟨e,he,rfl⟩ | ⟨e1,w2,he,hp⟩
 ·rw[hr0]at he
  simp only[sJ]at he
  subst he
  obtain⟨xs,w2,rfl,x1,⟨x2,_⟩,r4⟩:=ho
  obtain⟨H5,m5,r5,n5,k5⟩:=au H4 [.int .u8 0,.str [],.int .i64 0,.slice none 0 (.known 0)] (n:=4) rfl
  obtain⟨H6,m6,r6,n6,k6⟩:=aj r5 (n:=4) rfl x1 x2
  have k64:∀c,c<H4.next->H6.get c=H4.get c:=fun c hc=>by rw[k6 c om,k5 c om]
  simp only[sA,sB,seval,b9,b7,m5,m6]
  exact⟨⟨_,w2,tt,⟨rfl,rfl⟩,r4.same (k64 _ om)⟩,om,fun c hc hp=>by rw[k64 c om,F34.old c hc hp]⟩
 rw[hr0]at he
 simp only[sJ]at he
 subst he
 obtain⟨xs,rfl,hx,r4,hw2⟩:=ho
 obtain⟨H5,m5,r5,n5,k5⟩:=au H4 [.int .u8 0,.str [],.int .i64 0,.slice none 0 (.known 0)] (n:=4) rfl
 obtain⟨H6,m6,r6,n6,k6⟩:=aj r5 (n:=4) rfl hx.len hx.one
 have l6:=al r6 hx.len
 have k64:∀c,c<H4.next->H6.get c=H4.get c:=fun c hc=>by rw[k6 c om,k5 c om]
 have F46:Fp pb H4 H6:=⟨om,fun c hc _=>k64 c hc⟩
 have F36:=F34.trans F46
 have bm:=jp (z:=[.int .u8 0,.str [],.int .i64 0,.slice none 0 (.known 0)]) (m:=4) H6 rfl hx.len
 have G6:GE H.next H6 v out:=G3.keep om fun c hc=>by
  have h1:=hc.1
  have h2:=hc.2
  rw[k64 c om,F4.old c h2 om]
 have hx6:XE (In H3.next H6.next) H6 e1 xs:=hx.mono fun c hc=>⟨⟨hc.1,by have:=hc.2; omega⟩,k64 c hc.2⟩
 have hb3:eJ v (·<H3.next):=by
  obtain⟨C,_,q,_⟩:=G3
  exact q.mono fun c hc=>hc.2
 obtain⟨v',H7,a7,G7,n7,k7⟩:=G6.push hx6 e3 om hb3 om (bytes:=56) om om
 have hvp:eJ v (pb≠·):=by
  obtain⟨C,_,q,_⟩:=G3
  exact q.mono fun c hc=>by have:=hc.1; omega
 have F67:Fp pb H H7:=⟨om,fun c hc hp=>by
  rw[k7 c om (by
   obtain⟨C,_,q,_⟩:=G3
   exact q.mono fun d hd=>by have:=hd.1; omega),F36.old c hc hp]⟩
 have r7:aT H7 pb (cM s w2 g x y orv):=r4.same (by rw[k7 pb om hvp,k64 pb om])
 have A7:=A.fwd F67 r7 hw2 A.hg
 have bs7:=fS (.str []) H7 (x:=.str [44]) rfl
 have A8:=A7.push (.cells [.str [44]] 0 false)
 have F8:Fp pb H (H7.push (.cells [.str [44]] 0 false)):=F67.trans (kE _)
 have G8:GE H.next (H7.push (.cells [.str [44]] 0 false)) v' (out++[e1]):=G7.keep (by rw[aZ]; omega) fun c hc=>aE hc.2
 simp only[sA,sB,seval,b9,b7,t0,t4,m5,m6,l6,bm,a7,bs7]
 refine (ij A8.row (mL H7 [44]) (by simp)).mono ?_
 rintro _ _ ⟨rfl,rfl⟩
 have e8:=F8.next
 generalize H7.push (.cells [.str [44]] 0 false)=H8 at *
 cases hs3:fq w2 [[44]] with
 | false=>
  rw[if_neg (by rw[hs3]; simp)]at hp
  simp only[sA,sB,seval,t0]
  refine (ef A8.row A8.lt A8.en [41]).mono ?_
  rintro u H9 ⟨ho,F9⟩
  rcases cJ hp with⟨e,he,rfl⟩ | ⟨w3,he,hp⟩
  ·rw[he]at ho
   obtain⟨rfl,r9⟩:=ho
   obtain⟨C,q1,_⟩:=G8.sl
   simp only[sA,sB,seval]
   exact⟨⟨_,w2,tt,⟨q1.one,q1.aeq⟩,r9⟩,F8.trans F9⟩
  ·rw[he]at ho
   obtain⟨rfl,r9⟩:=ho
   simp only[aV,sJ]at hp
   subst hp
   have G9:=G8.keep F9.next fun c hc=>F9.old c hc.2 (by have:=hc.1; omega)
   obtain⟨C,q1,q2⟩:=G9.sl
   simp only[sA,sB,seval]
   exact⟨⟨_,v',C,rfl,tt,q1,q2,r9,(bQ he hw2).2.2.1⟩,F8.trans F9⟩
 | true=>
  rw[if_pos hs3]at hp
  simp only[sA,sB,seval,t0]
  refine (bZ A8.row A8.lt A8.en).mono ?_
  rintro u H9 ⟨ho,F9⟩
  rcases cJ hp with⟨e,he,rfl⟩ | ⟨w3,he,hp⟩
  ·rw[he]at ho
   obtain⟨rfl,r9⟩:=ho
   simp only[sA,sB,seval]
   exact⟨⟨_,w2,tt,⟨rfl,rfl⟩,r9⟩,F8.trans F9⟩
  ·rw[he]at ho
   obtain⟨rfl,r9⟩:=ho
   have G9:=G8.keep F9.next fun c hc=>F9.old c hc.2 (by have:=hc.1; omega)
   simp only[sA,sB,seval]
   exact⟨m,om,out++[e1],w3,v',by simp only[sA,sB,seval,t0],by simp only[sA,sB,seval],G9,by simp; omega,A8.fwd F9 r9 (aK he hw2 (by rw[fl hs3]; omega)).1 A.hg,F8.trans F9,hp⟩
open Go.Abs Go.Abs.S
theorem HS(n:ab)(hn:n.one=true):bB [.int .u8 0,.str [],.int .i64 0,.slice none 0 (.known 0)] [(0,1,.int .u8 1),(2,1,n)]=some (.agg [.int .u8 1,.str [],n,.slice none 0 (.known 0)]):=by
 cases n <;> first | rfl | (simp[ab.one]at hn)
theorem CU(S:Bs):bB [.int .u8 0,.str [],.int .i64 0,.slice none 0 (.known 0)] [(0,1,.int .u8 2),(1,1,.str S)]=some (.agg [.int .u8 2,.str S,.int .i64 0,.slice none 0 (.known 0)]):=_root_.id rfl
theorem CW(S:Bs)(v:ab)(hv:v.one=true):bB [.int .u8 0,.str [],.int .i64 0,.slice none 0 (.known 0)] [(0,1,.int .u8 4),(1,1,.str S),(3,1,v)]=some (.agg [.int .u8 4,.str S,.int .i64 0,v]):=by
 cases v <;> first | rfl | (simp[ab.one]at hv)
theorem DU(k:Int)(S:Bs)(n:Int){v:ab}(h:v.one=true):([.int .u8 k,.str S,.int .i64 n,v]:List ab).all ab.one=true:=by
 simp only[List.all_cons,List.all_nil,h]; rfl
theorem vL(k:Int)(S:Bs)(n:Int){v:ab}(h:aeq v v=true):aeqs [.int .u8 k,.str S,.int .i64 n,v] [.int .u8 k,.str S,.int .i64 n,v]=true:=by
 simp only[aeqs,jI,jH,h,Bool.and_self]
theorem qQ(P:Nat->Prop)(H:aa)(k:Nat)(S:Bs)(n:Int):XE P H (.mk k S n []) [.int .u8 (k:Int),.str S,.int .i64 n,.slice none 0 (.known 0)]:=⟨bP,[],rfl,.nil _ _ _,rfl⟩
theorem Jf{n pb:Nat}{s:Bs}{f:Nat}(ihr:mG n pb s f 5)(iha:IL n pb s f):IH n pb s (f+1):=by
 intro H w g x y orv r A hr
 rw[cH]at hr
 simp only[cK]at hr
 refine af rfl P1 rfl ?_
 have hlt:=A.lt
 obtain⟨H1,m1,r1,n1,k1⟩:=au H [.int .u8 0,.str [],.int .i64 0,.slice none 0 (.known 0)] (n:=4) rfl
 obtain⟨H2,m2,r2,n2,k2⟩:=au H1 [.int .u8 0,.str [],.int .i64 0,.int .i64 0,.int .i64 0,.int .i64 0] (n:=6) rfl
 obtain⟨H3,m3,r3,n3,k3⟩:=aj r2 (n:=6) rfl (xs:=fx w.k w.S w.n w.line w.at_ w.en) rfl rfl
 have lw:am true 6 H1 (ae pb 11 1)=some (.agg (fx w.k w.S w.n w.line w.at_ w.en)):=eA (A.row.same (k1 pb om)) (n:=11) rfl (i:=1) (k:=6) om
 have F3:Fp pb H H3:=⟨om,fun c hc _=>by rw[k3 c om,k2 c om,k1 c om]⟩
 have A3:=A.fwd F3 (A.row.same (by rw[k3 pb om,k2 pb om,k1 pb om])) A.ok A.hg
 have q1:aT H3 H.next _:=r1.same (by rw[k3 _ om,k2 _ om])
 have f0:∀{K:aa},Fp pb H3 K->am false 1 K (ae H1.next 6 0)=some (.int .u8 (w.k:Int)):=fun q=>ah (r3.same (q.old _ om om)) rfl rfl
 have f1:∀{K:aa},Fp pb H3 K->am false 1 K (ae H1.next 6 1)=some (.str w.S):=fun q=>ah (r3.same (q.old _ om om)) rfl rfl
 have f2:∀{K:aa},Fp pb H3 K->am false 1 K (ae H1.next 6 2)=some (.int .i64 (w.n:Int)):=fun q=>ah (r3.same (q.old _ om om)) rfl rfl
 have b0:=EG
 have f03:=f0 (Fp.refl pb H3)
 have f23:=f2 (Fp.refl pb H3)
 have dM:∀{K:aa},Fp pb H3 K->∀(xs:List ab),xs.length=4->xs.all ab.one=true->∃K',a8 4 K (ae H.next 4 0) (.agg xs)=some K'/\am true 4 K' (ae H.next 4 0)=some (.agg xs)/\K'.next=K.next/\(∀c,c≠H.next->K'.get c=K.get c)/\Fp pb H K':=by
  intro K q xs h1 h2
  obtain⟨K',a1,a2,a3,a4⟩:=aj (q1.same (q.old _ om om)) (n:=4) rfl h1 h2
  exact⟨K',a1,al a2 h1,a3,a4,by have:=q.next; omega,fun c hc hp=>by rw[a4 c om,q.old c om hp,F3.old c hc hp]⟩
 simp only[c61,sA,sB,seval,m1,aw,aB,fld0,lw,m2,m3,f03]
 by_cases c1:w.k=1
 ·have c1':(w.k:Int)=1:=om
  rw[if_pos c1]at hr
  simp only[sA,sB,seval,c1']
  refine cr rfl ?_
  simp only[sR,sA,sB,seval,aB,fld0,f23,HS (.int .i64 (w.n:Int)) rfl]
  refine (bZ A3.row A3.lt A3.en).mono ?_
  rintro u H4 ⟨ho,F4⟩
  have f24:=f2 F4
  obtain⟨H5,m5,l5,n5,k5,F5⟩:=dM F4 [.int .u8 1,.str [],.int .i64 (w.n:Int),.slice none 0 (.known 0)] rfl rfl
  have hp5:H5.get pb=H4.get pb:=k5 pb om
  simp only[sR,sA,sB,seval,m5]
  simp only[cw,cx,bR,cy,db,and_true,true_and,List.map_cons,List.map_nil,sA,sB,seval,aB,fld0]
  refine⟨⟨_,rfl,fun _=>⟨_,f24,jI _ _⟩⟩,?_⟩
  rcases cJ hr with⟨e,he,rfl⟩ | ⟨w1,he,hr⟩
  ·rw[he]at ho
   obtain⟨rfl,r4⟩:=ho
   simp only[sA,sB,seval,gr,l5,aP]
   exact⟨⟨_,w,tt,rfl,⟨rfl,by simp[aeqs,jI,jH]; rfl⟩,r4.same hp5⟩,F5⟩
  ·rw[he]at ho
   obtain⟨rfl,r4⟩:=ho
   simp only[aV,sJ]at hr
   subst hr
   simp only[sA,sB,seval,gr,l5,aP]
   exact⟨⟨_,tt,qQ _ _ 1 [] (w.n:Int),r4.same hp5,(aK he A.ok om).1⟩,F5⟩
 have c1':¬(w.k:Int)=1:=om
 rw[if_neg c1]at hr
 by_cases c2:w.k=2
 ·have c2':(w.k:Int)=2:=om
  rw[if_pos c2]at hr
  simp only[sA,sB,seval,c1',c2',fld0,f03]
  refine (bZ A3.row A3.lt A3.en).mono ?_
  rintro u H4 ⟨ho,F4⟩
  rcases cJ hr with⟨e,he,rfl⟩ | ⟨w1,he,hr⟩
  ·rw[he]at ho
   obtain⟨rfl,r4⟩:=ho
   obtain⟨H5,m5,l5,n5,k5,F5⟩:=dM F4 [.int .u8 0,.str [],.int .i64 0,.slice none 0 (.known 0)] rfl rfl
   simp only[sA,sB,seval,b0,m5,gr,l5,aP]
   exact⟨⟨_,w,tt,rfl,⟨rfl,rfl⟩,r4.same (k5 pb om)⟩,F5⟩
  rw[he]at ho
  obtain⟨rfl,r4⟩:=ho
  have hw1:=(aK he A.ok om).1
  have A4:=A3.fwd F4 r4 hw1 A.hg
  have bs:=fS (.str []) H4 (x:=.str [40]) rfl
  have A5:=A4.push (.cells [.str [40]] 0 false)
  have F5:Fp pb H3 (H4.push (.cells [.str [40]] 0 false)):=F4.trans (kE _)
  simp only[sA,sB,seval,bs]
  refine (ij A5.row (mL H4 [40]) (by simp)).mono ?_
  rintro _ _ ⟨rfl,rfl⟩
  generalize H4.push (.cells [.str [40]] 0 false)=H5 at *
  have f15:=f1 F5
  cases hs:fq w1 [[40]] with
  | false=>
   rw[if_neg (by rw[hs]; simp)]at hr
   simp only[aV,sJ]at hr
   subst hr
   obtain⟨H6,m6,l6,n6,k6,F6⟩:=dM F5 [.int .u8 2,.str w.S,.int .i64 0,.slice none 0 (.known 0)] rfl rfl
   simp only[sA,sB,seval,aB,f15,CU,m6,gr,l6,aP]
   exact⟨⟨_,tt,qQ _ _ 2 w.S 0,A5.row.same (k6 pb om),hw1⟩,F6⟩
  | true=>
   rw[if_pos hs]at hr
   simp only[sA,sB,seval]
   refine (iha w.S H5 w1 g x y orv r A5 hs hr).mono ?_
   rintro u H6 ⟨ho,F6⟩
   have F56:=F5.trans F6
   have f16:=f1 F56
   cases r with
   | error e=>
    obtain⟨v,w',rfl,⟨v1,v2⟩,r6⟩:=ho
    obtain⟨H7,m7,l7,n7,k7,F7⟩:=dM F56 [.int .u8 4,.str w.S,.int .i64 0,v] rfl (DU _ _ _ v1)
    simp only[sA,sB,seval,b9,b7,aB,f16,CW w.S v v1,m7,gr,l7,aP]
    exact⟨⟨_,w',tt,rfl,⟨DU _ _ _ v1,vL _ _ _ v2⟩,r6.same (k7 pb om)⟩,F7⟩
   | ok p=>
    obtain⟨e,w'⟩:=p
    obtain⟨kids,v,C,rfl,rfl,z1,z2,r6,o6⟩:=ho
    obtain⟨H7,m7,l7,n7,k7,F7⟩:=dM F56 [.int .u8 4,.str w.S,.int .i64 0,v] rfl (DU _ _ _ z1.one)
    simp only[sA,sB,seval,b9,b7,aB,f16,CW w.S v z1.one,m7,gr,l7,aP]
    have e5:=F5.next
    have km:∀b,In H5.next H6.next b->In H.next H7.next b/\H7.get b=H6.get b:=fun b hb=>⟨⟨by have:=hb.1; omega,by have:=hb.2; omega⟩,k7 b (by have:=hb.1; omega)⟩
    exact⟨⟨_,tt,⟨v,C,rfl,z1.mono km,z2.mono km⟩,r6.same (k7 pb om),o6⟩,F7⟩
 have c2':¬(w.k:Int)=2:=om
 rw[if_neg c2]at hr
 have bs:=fS (.str []) H3 (x:=.str [40]) rfl
 have A5:=A3.push (.cells [.str [40]] 0 false)
 have F5:Fp pb H3 (H3.push (.cells [.str [40]] 0 false)):=kE _
 simp only[sA,sB,seval,c1',c2',fld0,f03,bs]
 refine (ij A5.row (mL H3 [40]) (by simp)).mono ?_
 rintro _ _ ⟨rfl,rfl⟩
 generalize H3.push (.cells [.str [40]] 0 false)=H5 at *
 have e5:=F5.next
 cases hs:fq w [[40]] with
 | false=>
  rw[if_neg (by rw[hs]; simp)]at hr
  simp only[jq,sJ]at hr
  subst hr
  simp only[sA,sB,seval,b0]
  refine (ja A5.row 101).mono ?_
  rintro _ H6 ⟨rfl,r6,F6⟩
  obtain⟨H7,m7,l7,n7,k7,F7⟩:=dM (F5.trans F6) [.int .u8 0,.str [],.int .i64 0,.slice none 0 (.known 0)] rfl rfl
  simp only[sA,sB,seval,m7,gr,l7,aP]
  exact⟨⟨_,w,tt,rfl,⟨rfl,rfl⟩,r6.same (k7 pb om)⟩,F7⟩
 | true=>
  rw[if_pos hs]at hr
  simp only[sA,sB,seval]
  refine (bZ A5.row A5.lt A5.en).mono ?_
  rintro u H6 ⟨ho,F6⟩
  have F56:=F5.trans F6
  rcases cJ hr with⟨e,he,rfl⟩ | ⟨w1,he,hr⟩
  ·rw[he]at ho
   obtain⟨rfl,r6⟩:=ho
   obtain⟨H7,m7,l7,n7,k7,F7⟩:=dM F56 [.int .u8 0,.str [],.int .i64 0,.slice none 0 (.known 0)] rfl rfl
   simp only[sA,sB,seval,b0,m7,gr,l7,aP]
   exact⟨⟨_,w,tt,rfl,⟨rfl,rfl⟩,r6.same (k7 pb om)⟩,F7⟩
  rw[he]at ho
  obtain⟨rfl,r6⟩:=ho
  have hw1:=(aK he A.ok (by rw[fl hs]; omega)).1
  have A6:=A5.fwd F6 r6 hw1 A.hg
  have lo:=A6.lor
  have e6:=F6.next
  simp only[sA,sB,seval,aw,aB,lo]
  obtain⟨r0,hr0⟩:∃r0,pE s f (.rule 5) g w1=some r0:=by
   rcases cG hr with⟨e,he,rfl⟩ | ⟨e1,w2,he,_⟩
   ·exact⟨_,he⟩
   ·exact⟨_,he⟩
  refine (ihr H6 w1 g x y orv orv r0 A6 A6.or hr0).mono ?_
  rintro u H7 ⟨ho,F7⟩
  have e7:=F7.next
  have F57:=F56.trans F7
  have start:∃xs ok,u=.tuple [.agg xs,.bool ok]/\xs.length=4/\xs.all ab.one=true/\aeqs xs xs=true:=by
   cases r0 with
   | error e=>obtain⟨xs,w',rfl,x1,⟨x2,x3⟩,_⟩:=ho; exact⟨xs,false,rfl,x1,x2,x3⟩
   | ok p=>obtain⟨e,w'⟩:=p; obtain⟨xs,rfl,x1,_⟩:=ho; exact⟨xs,true,rfl,x1.len,x1.one,x1.aeqs⟩
  obtain⟨xs,ok,rfl,x1,x2,x3⟩:=start
  obtain⟨H8,m8,r8,n8,k8⟩:=au H7 [.int .u8 0,.str [],.int .i64 0,.slice none 0 (.known 0)] (n:=4) rfl
  obtain⟨H9,m9,r9,n9,k9⟩:=aj r8 (n:=4) rfl x1 x2
  have l9:=al r9 x1
  have k97:∀c,c<H7.next->H9.get c=H7.get c:=fun c hc=>by rw[k9 c om,k8 c om]
  have F79:Fp pb H7 H9:=⟨om,fun c hc _=>k97 c hc⟩
  have F39:=F57.trans F79
  simp only[sA,sB,seval,b9,b7,m8,m9]
  rcases cG hr with⟨e,he',rfl⟩ | ⟨e1,w2,he',hr⟩
  ·rw[hr0]at he'
   simp only[sJ]at he'
   subst he'
   obtain⟨xs',w2,hu,_,_,r7⟩:=ho
   simp only[ab.tuple.injEq,List.cons.injEq,ab.agg.injEq,ab.bool.injEq,and_true]at hu
   obtain⟨rfl,rfl⟩:=hu
   obtain⟨Ha,ma,la,na,ka,Fa⟩:=dM F39 xs x1 x2
   refine cr rfl ?_
   simp only[sR,sA,sB,seval,l9,ma]
   simp only[cw,cx,bR,cy,db,and_true,true_and,List.map_cons,List.map_nil,sA,sB,seval]
   refine⟨⟨_,rfl,fun _=>⟨_,l9,by simpa[aeq] using x3⟩⟩,?_⟩
   simp only[sA,sB,seval,gr,la,aP]
   exact⟨⟨xs,w2,tt,x1,⟨x2,x3⟩,r7.same (by rw[ka pb om,k97 pb om])⟩,Fa⟩
  rw[hr0]at he'
  simp only[sJ]at he'
  subst he'
  obtain⟨xs',hu,hx,r7,o7⟩:=ho
  simp only[ab.tuple.injEq,List.cons.injEq,ab.agg.injEq,ab.bool.injEq,and_true]at hu
  obtain⟨rfl,rfl⟩:=hu
  have A9:=A6.fwd (F7.trans F79) (r7.same (k97 pb om)) o7 A.hg
  refine cr rfl ?_
  simp only[sR,sA,sB,seval,l9]
  refine (ef A9.row A9.lt A9.en [41]).mono ?_
  rintro u Ha ⟨ho,Fa⟩
  have ea:=Fa.next
  have la:=al (r9.same (Fa.old _ om om)) x1
  obtain⟨Hb,mb,lb,nb,kb,Fb⟩:=dM (F39.trans Fa) xs x1 x2
  rcases cJ hr with⟨e,he,rfl⟩ | ⟨w3,he,hr⟩
  ·rw[he]at ho
   obtain⟨rfl,ra⟩:=ho
   simp only[sR,sA,sB,seval,mb]
   simp only[cw,cx,bR,cy,db,and_true,true_and,List.map_cons,List.map_nil,sA,sB,seval]
   refine⟨⟨_,rfl,fun _=>⟨_,la,by simpa[aeq] using x3⟩⟩,?_⟩
   simp only[sA,sB,seval,gr,lb,aP]
   exact⟨⟨xs,w2,tt,x1,⟨x2,x3⟩,ra.same (kb pb om)⟩,Fb⟩
  ·rw[he]at ho
   obtain⟨rfl,ra⟩:=ho
   simp only[aV,sJ]at hr
   subst hr
   simp only[sR,sA,sB,seval,mb]
   simp only[cw,cx,bR,cy,db,and_true,true_and,List.map_cons,List.map_nil,sA,sB,seval]
   refine⟨⟨_,rfl,fun _=>⟨_,la,by simpa[aeq] using x3⟩⟩,?_⟩
   simp only[sA,sB,seval,gr,lb,aP]
   refine⟨⟨xs,tt,hx.mono fun c hc=>?_,ra.same (kb pb om),(bQ he o7).2.2.1⟩,Fb⟩
   have h1:=hc.1
   have h2:=hc.2
   exact⟨⟨om,om⟩,by rw[kb c om,Fa.old c om om,k97 c h2]⟩
structure QO(n pb:Nat)(s:Bs)(f:Nat):Prop where
 rule:∀k,k<=5->mG n pb s f k
 prim:IH n pb s f
 args:IL n pb s f
theorem Ir(n pb:Nat)(s:Bs):∀(f:Nat),f<=1000000->∀f',f'<=f->QO n pb s f'
 | 0,_,f',h=>by
  obtain rfl:f'=0:=om
  exact⟨fun k _ H w g x y orv v r _ _ hr=>by simp[pE]at hr,fun H w g x y orv r _ hr=>by simp[pE]at hr,Df om fun f' h=>absurd h (Nat.not_lt_zero _)⟩
 | f+1,hf,f',h=>by
  have ih:=Ir n pb s f om
  by_cases he:f'<=f
  ·exact ih f' he
  obtain rfl:f'=f+1:=om
  refine⟨fun k hk=>?_,Jf ((ih f rL).rule 5 om) (ih f rL).args,Df hf fun f' h=>(ih f' om).rule 5 om⟩
  cases k with
  | zero=>exact Fo ((ih f rL).rule 0 om) (ih f rL).prim
  | succ k=>exact Lv hk fun f' h=>(ih f' h).rule k om
open Go.Abs Go.Abs.S
abbrev Z9:List ab:=[.int .u8 0,.str [],.int .u8 0,.str [],.int .i64 0,.slice none 0 (.known 0),.slice none 0 (.known 0),.slice none 0 (.known 0),.int .i64 0]
theorem GS.pushZ{n m:Nat}{H:aa}{v:ab}{l:List St}(h:GS n H v l){e:St}{xs:List ab}(hx:XS (In m H.next) H e xs)(hm:n<=m)(hn:n<=H.next)(hv:eJ v (·<m))(hl:l.length<=1000000) :
  ∃v' H1 H' b lim,bJ 9 136 (H.push (.cells Z9 0 false)) v (jO H 9)=some (v',H1)/\eH 9 v' (.int .i64 (l.length:Int))=some (ae b lim (l.length*9))/\a8 9 H1 (ae b lim (l.length*9)) (.agg xs)=some H'/\v'.one=true/\GS n H' v' (l++[e])/\n<=b/\H.next<=H1.next/\H1.next=H'.next/\(∀c,c<H.next->eJ v (c≠·)->H1.get c=H.get c)/\(∀c,c<H.next->eJ v (c≠·)->c≠b)/\∀c,c<H.next->eJ v (c≠·)->H'.get c=H.get c:=by
 obtain⟨C,h1,h2,h3⟩:=h
 have hlC:C.length=9*l.length:=h3.len
 obtain⟨v',H1,a1,a2,a3,a4,a5⟩:=h1.pushB (xs:=Z9) rfl rfl om (bytes:=136) om om
 have hb2:=a4 _ h2
 have hb3:=fun c (hc:eJ v (c≠·))=>a4 _ hc
 rcases a2 with⟨_,_,hk⟩ | ⟨b,low,rfl,q2,q3,q4,q5,q6,q7⟩
 ·omega
 have hbn:n<=b:=by
  rcases hb2 _ _ _ rfl with hb | hb
  ·exact hb.1
  ·exact Nat.le_trans hn hb
 have hR:aT H1 b (C++Z9):=⟨low,q5,q6⟩
 have hlz:(C++Z9).length=C.length+9:=by simp
 obtain⟨H',m1,r1,n1,k1⟩:=gn hR (n:=(C++Z9).length) rfl (i:=l.length*9) (k:=9) om (xs:=xs) hx.len hx.one (l':=C++xs) (by
  rw[show l.length*9=C.length by omega,List.take_left',List.drop_of_length_le om,List.append_nil]; rfl)
 have hlx:(C++xs).length=(C++Z9).length:=by simp[hx.len]
 have ne:∀c,c<H.next->eJ v (c≠·)->c≠b:=fun c hc hd=>by
  rcases hb3 c hd _ _ _ rfl with hb | hb
  ·exact hb
  ·have hb':H.next<=b:=hb
   omega
 have k:∀c,In n H.next c->eJ v (c≠·)->In n H'.next c/\eJ (ab.slice (some ⟨b,(C++Z9).length,0⟩) (l.length+1) (.open_ 9)) (c≠·):=fun c hc hd=>
  ⟨⟨hc.1,by have:=hc.2; omega⟩,kl (ne c hc.2 hd)⟩
 have fr:∀c,c<H.next->eJ v (c≠·)->H'.get c=H.get c:=fun c hc hd=>by rw[k1 c (ne c hc hd),a5 c hc hd]
 refine⟨_,H1,H',b,_,a1,Qr .i64 om,m1,rfl,⟨C++xs,?_,kl ⟨hbn,(by omega:b<H'.next)⟩,gc.app (gc.sing ?_) ?_⟩,hbn,a3,om,a5,ne,fr⟩
 ·obtain⟨low',g1,g2⟩:=r1
  rw[<- hlx]
  exact .inr ⟨b,low',by simp,by simp[hx.len]; omega,Nat.zero_le _,om,g1,g2,by simp⟩
 ·refine hx.mono fun c hc=>⟨?_,fr c hc.2 ?_⟩
  ·exact k c ⟨Nat.le_trans hm hc.1,hc.2⟩ (hv.mono fun d hd=>by have:=hc.1; omega)
  ·exact hv.mono fun d hd=>by have:=hc.1; omega
 ·exact h3.mono fun c hc=>⟨k c hc.1 hc.2,fr c hc.1.2 hc.2⟩
structure Fs(pb sb:Nat)(H H':aa):Prop where
 next:H.next<=H'.next
 old:∀c,c<H.next->c≠pb->c≠sb->H'.get c=H.get c
theorem Fs.of{pb sb:Nat}{H H':aa}(f:Fp pb H H'):Fs pb sb H H':=⟨f.next,fun c h1 h2 _=>f.old c h1 h2⟩
theorem Fs.trans{pb sb:Nat}{H H' H2:aa}(a:Fs pb sb H H')(b:Fs pb sb H' H2):Fs pb sb H H2:=
 ⟨Nat.le_trans a.next b.next,fun c h1 h2 h3=>by rw[b.old c (Q4 h1 a.next) h2 h3,a.old c h1 h2 h3]⟩
theorem PA.fws{n pb sb:Nat}{s:Bs}{H H':aa}{w w':Wd}{g g':Nat}{x y x' y':Int}{orv:ab}(h:PA n pb s H w g x y orv)(hs:n<=sb)(f:Fs pb sb H H')(r:aT H' pb (cM s w' g' x' y' orv))(hw:fy s w')(hg:g'<=200):PA n pb s H' w' g' x' y' orv:=
 ⟨r,h.hpb,Nat.le_trans h.hn f.next,h.or.keep fun c hc hp=>f.old c (Q4 hc h.hn) hp om,hw,hg⟩
theorem nN{n pb sb:Nat}{s:Bs}{f:Nat}(ihr:mG n pb s f 5){H:aa}{w:Wd}{g:Nat}{x y:Int}{orv:ab}{r:dt Ex}(A:PA n pb s H w g x y orv)(hr:pE s f (.rule 5) g w=some r){l:List ab}(hl:aT H sb l)(hl9:l.length=9)(hs:n<=sb)(hsb:sb<H.next){i:Nat}(hi:i+4<=9) :
  aq Tryz.prog aA 68 [ae pb 11 0,ae sb 9 i] H fun u H'=>(match r with
   | .ok (e,w')=>u=.bool true/\∃xs,aT H' sb (l.take i++(xs++l.drop (i+4)))/\XE (In H.next H'.next) H' e xs/\aT H' pb (cM s w' g x y orv)/\fy s w'
   | .error e=>u=.bool false/\∃w',aT H' pb (cM s w' g e.1 e.2 orv))/\Fs pb sb H H':=by
 refine af rfl PV rfl ?_
 have lo:=A.lor
 have hlt:=A.lt
 have hpn:=A.hpb
 simp only[c68,sA,sB,seval,aw,aB,lo]
 refine (ihr H w g x y orv orv r A A.or hr).mono ?_
 rintro u H1 ⟨ho,F1⟩
 have e1:=F1.next
 cases r with
 | error e=>
  obtain⟨xs,w',rfl,x1,⟨x2,_⟩,r1⟩:=ho
  obtain⟨H2,m2,r2,n2,k2⟩:=au H1 [.int .u8 0,.str [],.int .i64 0,.slice none 0 (.known 0)] (n:=4) rfl
  obtain⟨H3,m3,r3,n3,k3⟩:=aj r2 (n:=4) rfl x1 x2
  simp only[sA,sB,seval,b9,b7,m2,m3]
  exact⟨⟨tt,w',r1.same (by rw[k3 _ om,k2 _ om])⟩,om,fun c h1 h2 _=>by rw[k3 c om,k2 c om,F1.old c h1 h2]⟩
 | ok p=>
  obtain⟨e,w'⟩:=p
  obtain⟨xs,rfl,hx,r1,o1⟩:=ho
  obtain⟨H2,m2,r2,n2,k2⟩:=au H1 [.int .u8 0,.str [],.int .i64 0,.slice none 0 (.known 0)] (n:=4) rfl
  obtain⟨H3,m3,r3,n3,k3⟩:=aj r2 (n:=4) rfl hx.len hx.one
  have l3:=al r3 hx.len
  obtain⟨H4,m4,r4,n4,k4⟩:=gn (hl.same (H':=H3) (by rw[k3 _ om,k2 _ om,F1.old sb hsb om])) hl9 (i:=i) (k:=4) hi hx.len hx.one rfl
  simp only[sA,sB,seval,b9,b7,m2,m3,l3,aw,m4]
  refine⟨⟨tt,xs,r4,hx.mono fun c hc=>?_,r1.same (by rw[k4 _ om,k3 _ om,k2 _ om]),o1⟩,om,fun c h1 h2 h3=>by rw[k4 c h3,k3 c om,k2 c om,F1.old c h1 h2]⟩
  have h1:=hc.1
  have h2:=hc.2
  exact⟨⟨h1,om⟩,by rw[k4 c om,k3 c om,k2 c om]⟩
def ee(k:Int)(S:Bs)(xs:List ab)(vb ve:ab)(line:Int):List ab:=.int .u8 k::.str S::(xs++[vb,ve,.int .i64 line])
abbrev Zx:List ab:=[.int .u8 0,.str [],.int .i64 0,.slice none 0 (.known 0)]
theorem qv{n pb sb:Nat}{s:Bs}{f:Nat}(ihr:mG n pb s f 5){H:aa}{w:Wd}{g:Nat}{x y:Int}{orv:ab}{k line:Nat}{r:dt (List St)}(A:PA n pb s H w g x y orv)(hr:jP s (pE s f) k line g w=some r)(hl:aT H sb (ee k [] Zx bP bP line))(hs:n<=sb)(hsb:sb<H.next) :
  aq Tryz.prog aA 65 [ae pb 11 0,ae sb 9 0] H fun u H'=>(match r with
   | .ok (l,w')=>u=.bool true/\∃e xs,l=[.mk k w.S e [] [] line]/\aT H' sb (ee k w.S xs bP bP line)/\XE (In H.next H'.next) H' e xs/\aT H' pb (cM s w' g x y orv)/\fy s w'
   | .error e=>u=.bool false/\∃w',aT H' pb (cM s w' g e.1 e.2 orv))/\Fs pb sb H H':=by
 refine af rfl PY rfl ?_
 unfold jP at hr
 have hlt:=A.lt
 have hpn:=A.hpb
 have l1:am false 1 H (ae pb 11 1)=some (.int .u8 (w.k:Int)):=ah A.row rfl rfl
 have l2:am false 1 H (ae pb 11 2)=some (.str w.S):=ah A.row rfl rfl
 by_cases hk:w.k=2
 case neg=>
  have hk':¬(w.k:Int)=2:=om
  rw[if_neg hk]at hr
  simp only[jq,sJ]at hr
  subst hr
  simp only[Qx,sA,sB,seval,aw,aB,fld0,l1,hk']
  refine (ja A.row 101).mono ?_
  rintro _ H1 ⟨rfl,r1,F1⟩
  simp only[sA,sB,seval]
  exact⟨⟨tt,w,r1⟩,.of F1⟩
 have hk':(w.k:Int)=2:=om
 rw[if_pos hk]at hr
 obtain⟨H1,m1,r1,n1,k1⟩:=cE hl (n:=9) rfl (i:=1) om (x:=.str w.S) rfl (l':=ee k w.S Zx bP bP line) rfl
 have F1:Fs pb sb H H1:=⟨om,fun c _ _ h=>k1 c h⟩
 have A1:=A.fws hs F1 (A.row.same (k1 pb om)) A.ok A.hg
 simp only[Qx,sA,sB,seval,aw,aB,fld0,l1,hk',l2,m1]
 refine (bZ A1.row A1.lt A1.en).mono ?_
 rintro u H2 ⟨ho,F2⟩
 have e2:=F2.next
 rcases cJ hr with⟨e,he,rfl⟩ | ⟨w1,he,hr⟩
 ·rw[he]at ho
  obtain⟨rfl,r2⟩:=ho
  simp only[sA,sB,seval]
  exact⟨⟨tt,w,r2⟩,F1.trans (.of F2)⟩
 rw[he]at ho
 obtain⟨rfl,r2⟩:=ho
 have A2:=A1.fwd F2 r2 (aK he A.ok om).1 A.hg
 simp only[sA,sB,seval]
 refine (ef A2.row A2.lt A2.en [61]).mono ?_
 rintro u H3 ⟨ho,F3⟩
 have e3:=F3.next
 have F13:=F2.trans F3
 rcases cJ hr with⟨e,he,rfl⟩ | ⟨w2,he,hr⟩
 ·rw[he]at ho
  obtain⟨rfl,r3⟩:=ho
  simp only[sA,sB,seval]
  exact⟨⟨tt,w1,r3⟩,F1.trans (.of F13)⟩
 rw[he]at ho
 obtain⟨rfl,r3⟩:=ho
 have A3:=A2.fwd F3 r3 (bQ he A2.ok).2.2.1 A.hg
 have q3:=r1.same (F13.old sb om om)
 obtain⟨r0,hr0⟩:∃r0,pE s f (.rule 5) g w2=some r0:=by
  rcases cG hr with⟨e,he,rfl⟩ | ⟨e1,w3,he,_⟩
  ·exact⟨_,he⟩
  ·exact⟨_,he⟩
 simp only[sA,sB,seval,aw,aB]
 refine (nN ihr A3 hr0 q3 rfl hs om (i:=2) om).mono ?_
 rintro u H4 ⟨ho,F4⟩
 have e4:=F4.next
 have F04:=(F1.trans (.of F13)).trans F4
 rcases cG hr with⟨e,he,rfl⟩ | ⟨e1,w3,he,hr⟩
 ·rw[hr0]at he
  simp only[sJ]at he
  subst he
  obtain⟨rfl,w',r4⟩:=ho
  simp only[sA,sB,seval]
  exact⟨⟨tt,w',r4⟩,F04⟩
 rw[hr0]at he
 simp only[sJ]at he
 subst he
 obtain⟨rfl,xs,q4,hx,r4,o4⟩:=ho
 have A4:=A3.fws hs F4 r4 o4 A.hg
 simp only[sA,sB,seval]
 refine (ef A4.row A4.lt A4.en [59]).mono ?_
 rintro u H5 ⟨ho,F5⟩
 rcases cJ hr with⟨e,he,rfl⟩ | ⟨w4,he,hr⟩
 ·rw[he]at ho
  obtain⟨rfl,r5⟩:=ho
  simp only[sA,sB,seval]
  exact⟨⟨tt,w3,r5⟩,F04.trans (.of F5)⟩
 rw[he]at ho
 obtain⟨rfl,r5⟩:=ho
 simp only[aV,sJ]at hr
 subst hr
 have e5:=F5.next
 simp only[sA,sB,seval]
 refine⟨⟨tt,e1,xs,rfl,q4.same (F5.old _ om om),hx.mono fun c hc=>?_,r5,(bQ he o4).2.2.1⟩,F04.trans (.of F5)⟩
 have h1:=hc.1
 have h2:=hc.2
 exact⟨⟨om,om⟩,F5.old c h2 om⟩
open Go.Abs Go.Abs.S
def QK(pb:Nat)(s:Bs)(g:Nat)(x y:Int)(orv:ab)(H:aa)(r:dt (List St))(u:ab)(H':aa):Prop:=
 (match r with
 | .ok (l,w')=>∃st xs,l=[st]/\u=.tuple [.agg xs,.bool true]/\XS (In H.next H'.next) H' st xs/\aT H' pb (cM s w' g x y orv)/\fy s w'
 | .error e=>u=.tuple [.agg Z9,.bool false]/\∃w',aT H' pb (cM s w' g e.1 e.2 orv))/\Fp pb H H'
def IG(n pb:Nat)(s:Bs)(f:Nat):Prop:=∀(H:aa) (w:Wd) (g:Nat) (x y:Int) (orv:ab) (r:dt (List St)),PA n pb s H w g x y orv->pS s f .stmt g w=some r->aq Tryz.prog aA 32 [ae pb 11 0] H (QK pb s g x y orv H r)
def Dv(n pb:Nat)(s:Bs)(f:Nat):Prop:=∀(H:aa) (w:Wd) (g:Nat) (x y:Int) (orv:ab) (r:dt (List St)) (sb i:Nat) (l:List ab),PA n pb s H w g x y orv->aT H sb l->l.length=9->n<=sb->sb<H.next->l[i]?=some bP->pS s f .body g w=some r ->
  aq Tryz.prog aA 67 [ae pb 11 0,ae sb 9 i] H fun u H'=>(match r with
   | .ok (out,w')=>u=.bool true/\∃v C,aT H' sb (l.set i v)/\eX (In H.next H'.next) H' 9 v out.length C/\gc (In H.next H'.next) H' out C/\aT H' pb (cM s w' g x y orv)/\fy s w'
   | .error e=>u=.bool false/\∃w',aT H' pb (cM s w' g e.1 e.2 orv))/\Fs pb sb H H'
theorem Gm{a b n m i j:Nat}(h:a≠b):jt .apart [ae a n i,ae b m j]=some (.bool true):=by
 show (bif J3 (ae a n i) (ae b m j) then some (ab.bool true) else none)=_
 have:J3 (ae a n i) (ae b m j)=true:=by
  simp only[J3,iB,ae]
  rw[show Nat.beq a b=false by rw[bD]; exact decide_eq_false h]; rfl
 rw[this]; rfl
theorem GS.len{n:Nat}{H:aa}{v:ab}{l:List St}(h:GS n H v l):gv false v=some (.int .i64 (l.length:Int)):=by
 obtain⟨C,h1,_⟩:=h; exact h1.len
theorem GS.aeq{n:Nat}{H:aa}{v:ab}{l:List St}(h:GS n H v l):aeq v v=true:=by
 obtain⟨C,h1,_⟩:=h.sl; exact h1.aeq
theorem FZ{l:List ab}{i:Nat}{x:ab}(h:l[i]?=some x):l.set i x=l:=by
 apply List.ext_getElem?
 intro j
 rw[List.getElem?_set]
 by_cases e:i=j
 ·subst e
  have:=(QR.1 h).1
  rw[if_pos rfl,if_pos this,h]
 ·rw[if_neg e]
theorem CR{n pb:Nat}{s:Bs}{f:Nat}(hf:f<=1000000)(ihs:∀f',f'<f->IG n pb s f'):Dv n pb s f:=by
 intro H w g x y orv r sb i l A hl hl9 hs hsb hi hr
 refine af rfl PW rfl ?_
 have hlt:=A.lt
 have hpn:=A.hpb
 have hi9:i<9:=by have:=(QR.1 hi).1; omega
 cases f with
 | zero=>simp[pS]at hr
 | succ f=>
 rw[iM]at hr
 simp only[ic]at hr
 simp only[c67,sA,sB,seval]
 refine (ef A.row hlt A.en [123]).mono ?_
 rintro u H1 ⟨ho,F1⟩
 have e1:=F1.next
 rcases cJ hr with⟨e,he,rfl⟩ | ⟨w1,he,hr⟩
 ·rw[he]at ho
  obtain⟨rfl,r1⟩:=ho
  simp only[sA,sB,seval]
  exact⟨⟨tt,w,r1⟩,.of F1⟩
 rw[he]at ho
 obtain⟨rfl,r1⟩:=ho
 have A1:=A.fwd F1 r1 (bQ he A.ok).2.2.1 A.hg
 simp only[sA,sB,seval]
 refine aG (fun m (T:bG) H'=>∃out w' v,T 0=ae pb 11 0/\T 1=ae sb 9 i/\GS H.next H' v out/\out.length+m<=f/\PA n pb s H' w' g x y orv/\aT H' sb (l.set i v)/\Fs pb sb H H'/\pS s m (.more out) g w'=some r) f
  ⟨[],w1,bP,by simp only[sA,sB,seval],by simp only[sA,sB,seval],GS.nil _ _,by simp,A1,by
   rw[FZ hi]; exact hl.same (F1.old sb hsb om),.of F1,hr⟩ ?_
 rintro m T H2 ⟨out,w',v,t0,t1,G2,hm,A2,q2,F2,hp⟩
 have e2:=F2.next
 cases m with
 | zero=>simp[pS]at hp
 | succ m=>
 rw[iM]at hp
 simp only[ic]at hp
 have bs:=fS (.str []) H2 (x:=.str [125]) rfl
 have A3:=A2.push (.cells [.str [125]] 0 false)
 have F3:Fp pb H2 (H2.push (.cells [.str [125]] 0 false)):=kE _
 simp only[sA,sB,seval,t0,t1,bs]
 refine (ij A3.row (mL H2 [125]) (by simp)).mono ?_
 rintro _ _ ⟨rfl,rfl⟩
 generalize H2.push (.cells [.str [125]] 0 false)=H3 at *
 have e3:=F3.next
 have F03:=F2.trans (.of F3)
 have q3:=q2.same (F3.old sb om om)
 have G3:GS H.next H3 v out:=G2.keep e3 fun c hc=>F3.old c hc.2 (by have:=hc.1; omega)
 cases hs2:fq w' [[125]] with
 | true=>
  rw[if_pos hs2]at hp
  simp only[sA,sB,seval,t0]
  refine (bZ A3.row A3.lt A3.en).mono ?_
  rintro u H4 ⟨ho,F4⟩
  have e4:=F4.next
  rcases cJ hp with⟨e,he,rfl⟩ | ⟨w2,he,hp⟩
  ·rw[he]at ho
   obtain⟨rfl,r4⟩:=ho
   simp only[sA,sB,seval]
   exact⟨⟨tt,w',r4⟩,F03.trans (.of F4)⟩
  ·rw[he]at ho
   obtain⟨rfl,r4⟩:=ho
   simp only[aV,sJ]at hp
   subst hp
   have G4:=G3.keep e4 fun c hc=>F4.old c hc.2 (by have:=hc.1; omega)
   obtain⟨C,z1,z2⟩:=G4.sl
   simp only[sA,sB,seval]
   exact⟨⟨tt,v,C,q3.same (F4.old sb om om),z1,z2,r4,(aK he A3.ok (by rw[fl hs2]; omega)).1⟩,F03.trans (.of F4)⟩
 | false=>
 rw[if_neg (by rw[hs2]; simp)]at hp
 obtain⟨r0,hr0⟩:∃r0,pS s m .stmt g w'=some r0:=by
  rcases cG hp with⟨e,he,rfl⟩ | ⟨e1,w2,he,_⟩
  ·exact⟨_,he⟩
  ·exact⟨_,he⟩
 simp only[sA,sB,seval,t0]
 refine (ihs m om H3 w' g x y orv r0 A3 hr0).mono ?_
 rintro u H4 ⟨ho,F4⟩
 have e4:=F4.next
 have F04:=F03.trans (.of F4)
 rcases cG hp with⟨e,he,rfl⟩ | ⟨st',w2,he,hp⟩
 ·rw[hr0]at he
  simp only[sJ]at he
  subst he
  obtain⟨rfl,w2,r4⟩:=ho
  obtain⟨H5,m5,r5,n5,k5⟩:=au H4 [.int .u8 0,.str [],.int .u8 0,.str [],.int .i64 0,.slice none 0 (.known 0),.slice none 0 (.known 0),.slice none 0 (.known 0),.int .i64 0] (n:=9) rfl
  obtain⟨H6,m6,r6,n6,k6⟩:=aj r5 (n:=9) rfl (xs:=Z9) rfl rfl
  simp only[sA,sB,seval,b9,b7,m5,m6]
  exact⟨⟨tt,w2,r4.same (by rw[k6 _ om,k5 _ om])⟩,om,fun c h1 h2 h3=>by rw[k6 c om,k5 c om,F04.old c h1 h2 h3]⟩
 rw[hr0]at he
 simp only[sJ]at he
 subst he
 obtain⟨st,xs,rfl,rfl,hx,r4,o4⟩:=ho
 obtain⟨H5,m5,r5,n5,k5⟩:=au H4 [.int .u8 0,.str [],.int .u8 0,.str [],.int .i64 0,.slice none 0 (.known 0),.slice none 0 (.known 0),.slice none 0 (.known 0),.int .i64 0] (n:=9) rfl
 obtain⟨H6,m6,r6,n6,k6⟩:=aj r5 (n:=9) rfl hx.len hx.one
 have k64:∀c,c<H4.next->H6.get c=H4.get c:=fun c hc=>by rw[k6 c om,k5 c om]
 have l6:=al r6 hx.len
 have F06:Fs pb sb H H6:=F04.trans ⟨om,fun c h1 _ _=>k64 c h1⟩
 have q6:=q3.same (H':=H6) (by rw[k64 sb om,F4.old sb om om])
 have lv:am false 1 H6 (ae sb 9 i)=some v:=ah q6 (by rw[List.length_set]; exact hl9) (by rw[List.getElem?_set]; simp[hl9,hi9])
 have G6:GS H.next H6 v out:=G3.keep om fun c hc=>by
  have h1:=hc.1
  have h2:=hc.2
  rw[k64 c om,F4.old c h2 om]
 have hx6:XS (In H3.next H6.next) H6 st xs:=hx.mono fun c hc=>⟨⟨hc.1,by have:=hc.2; omega⟩,k64 c hc.2⟩
 have hbs:eJ v (In H.next H3.next):=by
  obtain⟨C,_,q,_⟩:=G3
  exact q
 have bm:=jp (z:=[.int .u8 0,.str [],.int .u8 0,.str [],.int .i64 0,.slice none 0 (.known 0),.slice none 0 (.known 0),.slice none 0 (.known 0),.int .i64 0]) (xs:=[.int .u8 0,.str [],.int .u8 0,.str [],.int .i64 0,.slice none 0 (.known 0),.slice none 0 (.known 0),.slice none 0 (.known 0),.int .i64 0]) (m:=9) H6 rfl rfl
 obtain⟨v',H7,H8,b,lim,a7,i7,s7,o7,G8,hbn,e67,e78,fr7,neb,fr8⟩:=G6.pushZ hx6 om om (hbs.mono fun c hc=>hc.2) om
 have bsb:eJ v (sb≠·):=hbs.mono fun c hc=>by have:=hc.1; omega
 have bpb:eJ v (pb≠·):=hbs.mono fun c hc=>by have:=hc.1; omega
 have nsb:sb≠b:=om
 have npb:pb≠b:=om
 obtain⟨H9,m9,r9,n9,k9⟩:=cE (q6.same (fr8 sb om bsb)) (n:=9) (by rw[List.length_set]; exact hl9) (i:=i) hi9 (x:=v') o7 (l':=l.set i v') (by rw[List.set_set])
 have lvP:am false 1 (H6.push (.cells Z9 0 false)) (ae sb 9 i)=some v:=ah (q6.same (aE om)) (by rw[List.length_set]; exact hl9) (by rw[List.getElem?_set]; simp[hl9,hi9])
 have lxP:am true 9 (H6.push (.cells Z9 0 false)) (ae H4.next 9 0)=some (.agg xs):=al (r6.same (aE om)) hx.len
 simp only[Z9]at a7 lvP lxP
 have ln:=G6.len
 simp only[sA,sB,seval,b9,b7,m5,m6]
 refine cr rfl ?_
 simp only[sR,sA,sB,seval,t0,t1,aw,lv,l6,ln,bm,a7,i7,s7,m9]
 simp only[cw,cx,bR,cy,db,and_true,true_and,List.map_cons,List.map_nil,sA,sB,seval,t0,t1]
 refine⟨⟨⟨_,rfl,fun _=>⟨_,lvP,G6.aeq⟩⟩,⟨_,rfl,fun _=>⟨_,lxP,by simpa[aeq] using hx.aeqs⟩⟩⟩,?_⟩
 simp only[sA,sB,seval,Gm nsb]
 have F9:Fs pb sb H H9:=⟨om,fun c h1 h2 h3=>by
  rw[k9 c h3,fr8 c om (hbs.mono fun d hd=>by have:=hd.1; omega),F06.old c h1 h2 h3]⟩
 refine⟨m,om,out++[st],w2,v',by simp only[sA,sB,seval,t0],by simp only[sA,sB,seval,t1],G8.keep om fun c hc=>k9 c (by have:=hc.1; omega),by simp; omega,A.fws hs F9 ?_ o4 A.hg,r9,F9,hp⟩
 exact r4.same (by rw[k9 pb om,fr8 pb om bpb,k64 pb om])
end Go.Proofs.Wo
