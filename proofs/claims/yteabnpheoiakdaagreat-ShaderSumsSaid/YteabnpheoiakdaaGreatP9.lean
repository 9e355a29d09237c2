/- Part of a proof (QC1 QN0 W0 W1 QW2 QW3 QW4 QW5 QW6 QW7 QW8 QW9 QWA QWB QWD QWI QWJ QWK QP0 QPF); no condition. -/
import Derived.Test.YteabnpheoiakdaaGreatProg
import Derived.KernelRfl
import Derived.Test.YteabnpheoiakdaaGreatP8
set_option linter.unusedSimpArgs false
set_option linter.unusedVariables false
set_option linter.unnecessarySimpa false
namespace Go.Proofs.Wo
open Go.Abs Go.Abs.S
noncomputable section
def c32:bY:=⟨110,zq [zo 4 (.new [zU 0,.str [],zI 0,zI 0,zI 0,zI 0]),zo 5 (.new [zI 0,zI 0])] (zr [zm 11 0,zo 12 (.len true (.t 11)),zk 13 .gtr 12 16384] 13 (zq [zo 14 (.build [zU 0,.str [],zI 0,zI 0,zI 0,zI 0] []),zo 15 (.build [zI 0,zI 0] [(0,1,zi 3)]),zp (.store 6 (.t 4) (.t 14)),zp (.store 2 (.t 5) (.t 15))] .ret) .skip (zr [zm 16 1,zk 17 .lss 16 0,zm 18 17,zg 19 (.mv (.t 1)) 18 false,zg 20 (.mv (.t 0)) 18 false,zg 21 (.len true (.t 20)) 18 false,zg 22 (.bin .gtr (.t 19) (.t 21)) 18 false,zo 23 (.pick (.t 18) (.c (.bool true)) (.t 22))] 23 (zq [zo 24 (.build [zU 0,.str [],zI 0,zI 0,zI 0,zI 0] []),zo 25 (.build [zI 0,zI 0] [(0,1,zi 2)]),zp (.store 6 (.t 4) (.t 24)),zp (.store 2 (.t 5) (.t 25))] .ret) .skip (zq [zm 26 0,zm 27 1,zx 28 61 [.t 26,.t 27],zm 1 28] (zq [zm 29 1,zm 30 1,zm 31 0,zm 32 1,zo 33 (.slStr (.t 31) none (some (.t 32))),zx 34 62 [.t 33,.c (.str [10])],zo 35 (.bin .add (zi 1) (.t 34)),zo 36 (.build [zU 0,.str [],zI 0,zI 0,zI 0,zI 0] [(4,1,.t 29),(5,1,.t 30),(3,1,.t 35)]),zo 6 (.new [zU 0,.str [],zI 0,zI 0,zI 0,zI 0]),zp (.store 6 (.t 6) (.t 36))] (zq [zf 37 3 6,zl 38 37,zo 39 (.build [zI 0,zI 0] [(0,1,zi 100),(1,1,.t 38)]),zo 7 (.new [zI 0,zI 0]),zp (.store 2 (.t 7) (.t 39))] (.seq (.block 0 (zq [zm 57 1,zm 58 0,zo 59 (.len true (.t 58)),zb 60 .eql 57 59,zm 56 60] (.cond (.t 56) (.reg [zf 61 0 6,zp (.store 1 (.t 61) (zu 5))]) (zq [zm 63 0,zm 64 1,zo 65 (.idxS (.t 63) (.t 64)),zx 66 63 [.t 65],zm 62 66] (.cond (.t 62) (zq [zm 67 0,zm 68 1,zx 69 64 [.t 67,.t 68],zf 70 5 6,zs 70 69] (zq [zm 72 0,zm 73 1,zf 74 5 6,zl 75 74,zo 76 (.slStr (.t 72) (some (.t 73)) (some (.t 75))),zx 77 65 [.t 76],zm 71 77,ze 78 0 71,ze 79 1 71,zm 8 78,zm 9 79] (zr [zm 80 9,zo 81 (.un .not (.t 80))] 81 (.seq (.draw [zo 82 (.build [zU 0,.str [],zI 0,zI 0,zI 0,zI 0] []),zt 83 2 7,zp (.store 6 (.t 4) (.t 82)),zp (.store 2 (.t 5) (.t 83))] [[],[3],[],[]]) .ret) .skip (.reg [zm 84 8,zf 85 0 6,zp (.store 1 (.t 85) (zu 1)),zf 86 2 6,zs 86 84])))) (zq [zm 88 0,zm 89 1,zo 90 (.idxS (.t 88) (.t 89)),zx 91 66 [.t 90],zm 87 91] (.cond (.t 87) (zq [zm 92 0,zm 93 1,zx 94 67 [.t 92,.t 93,.f 68],zf 95 5 6,zs 95 94] (zq [zm 96 0,zm 97 1,zf 98 5 6,zl 99 98,zo 100 (.slStr (.t 96) (some (.t 97)) (some (.t 99))),zx 101 69 [.t 100],zf 102 0 6,zp (.store 1 (.t 102) (zu 2)),zf 103 1 6,zs 103 101] (zq [zf 104 1 6,zl 105 104,zx 106 70 [.t 105]] (.cond (.t 106) (.reg [zf 107 0 6,zp (.store 1 (.t 107) (zu 3))]) .skip)))) (zq [zm 40 0,zm 41 1,zx 42 71 [.t 40,.t 41],zm 10 42] (zr [zm 43 10,zo 44 (.bin .eql (.t 43) (.c (.str [])))] 44 (.seq (.draw [zo 45 (.build [zU 0,.str [],zI 0,zI 0,zI 0,zI 0] []),zt 46 2 7,zp (.store 6 (.t 4) (.t 45)),zp (.store 2 (.t 5) (.t 46))] [[],[3],[],[]]) .ret) .skip (.reg [zm 47 10,zx 48 69 [.t 47],zm 49 1,zm 50 10,zo 51 (.len true (.t 50)),zb 52 .add 49 51,zf 53 0 6,zp (.store 1 (.t 53) (zu 4)),zf 54 1 6,zs 54 48,zf 55 5 6,zs 55 52])))))))))) (zq [zt 108 6 6,zo 109 (.build [zI 0,zI 0] []),zp (.store 6 (.t 4) (.t 108)),zp (.store 2 (.t 5) (.t 109))] .ret))))))),[.cell true 6 4,.cell true 2 5]⟩
theorem Rz:cN Tryz.prog 32=some c32:=by kernel_rfl
def c61:bY:=⟨22,zq [zo 4 (.mv (zi 0))] (.block 0 (.loop (.block 1 (zq [zm 5 0,zm 6 1,zx 7 67 [.t 5,.t 6,.f 108],zm 1 7] (zr [zm 8 1,zm 9 0,zo 10 (.len true (.t 9)),zb 11 .eql 8 10,zm 12 11,zg 13 (.mv (.t 0)) 12 false,zg 14 (.mv (.t 1)) 12 false,zg 15 (.idxS (.t 13) (.t 14)) 12 false,zg 16 (.bin .neq (.t 15) (zu 35)) 12 false,zo 17 (.pick (.t 12) (.c (.bool true)) (.t 16))] 17 (zq [zm 18 1,zm 4 18] .ret) .skip (.reg [zm 19 0,zm 20 1,zx 21 67 [.t 19,.t 20,.f 109],zm 1 21])))))),[.t 4]⟩
theorem Rh:cN Tryz.prog 61=some c61:=by kernel_rfl
def c67:bY:=⟨21,zq [zo 6 (.mv (zi 0))] (.seq (.block 0 (.loop (zr [zm 7 1,zm 8 0,zo 9 (.len true (.t 8)),zb 10 .lss 7 9,zm 11 10,zg 12 (.mv (.t 2)) 11 true,zg 13 (.mv (.t 0)) 11 true,zg 14 (.mv (.t 1)) 11 true,zg 15 (.idxS (.t 13) (.t 14)) 11 true,zg 16 (.callv (.t 12) [.t 15]) 11 true,zo 17 (.pick (.t 11) (.t 16) (.c (.bool false)))] 17 .skip (.exit 0) (.block 1 (.reg [zm 18 1,zk 19 .add 18 1,zm 1 19]))))) (zq [zm 20 1,zm 6 20] .ret)),[.t 6]⟩
theorem Q7:cN Tryz.prog 67=some c67:=by kernel_rfl
def Qr:bY:=⟨17,zq [zo 2 (.mv (.c (.bool false)))] (zq [zm 3 0,zo 4 (.bin .eql (.t 3) (zu 9)),zm 5 4,zg 6 (.mv (.t 0)) 5 false,zg 7 (.bin .eql (.t 6) (zu 10)) 5 false,zo 8 (.pick (.t 5) (.c (.bool true)) (.t 7)),zm 9 8,zg 10 (.mv (.t 0)) 9 false,zg 11 (.bin .eql (.t 10) (zu 13)) 9 false,zo 12 (.pick (.t 9) (.c (.bool true)) (.t 11)),zm 13 12,zg 14 (.mv (.t 0)) 13 false,zg 15 (.bin .eql (.t 14) (zu 32)) 13 false,zo 16 (.pick (.t 13) (.c (.bool true)) (.t 15)),zm 2 16] .ret),[.t 2]⟩
theorem Po:cN Tryz.prog 108=some Qr:=by kernel_rfl
def Qq:bY:=⟨5,zq [zo 2 (.mv (.c (.bool false)))] (zq [zm 3 0,zo 4 (.bin .neq (.t 3) (zu 10)),zm 2 4] .ret),[.t 2]⟩
theorem Pn:cN Tryz.prog 109=some Qq:=by kernel_rfl
def c62:bY:=⟨34,zq [zo 4 (.mv (zi 0))] (zr [zm 7 1,zo 8 (.len true (.t 7)),zk 9 .eql 8 0] 9 (zq [zm 10 0,zx 11 110 [.t 10],zk 12 .add 11 1,zm 4 12] .ret) .skip (zr [zm 13 1,zo 14 (.len true (.t 13)),zk 15 .eql 14 1] 15 (zq [zm 16 0,zm 17 1,zo 18 (.idxS (.t 17) (zi 0)),zo 19 (.pf .cbs [.t 16,.t 18]),zm 4 19] .ret) .skip (zq [zo 5 (.mv (zi 0))] (.block 0 (.loop (.block 1 (zq [zm 20 0,zm 21 1,zx 22 112 [.t 20,.t 21],zm 6 22] (zr [zm 23 6,zo 24 (.bin .eql (.t 23) (.c (.int .i64 (.negSucc 0))))] 24 (zq [zm 25 5,zm 4 25] .ret) .skip (zq [zm 26 5,zk 27 .add 26 1,zm 5 27] (.reg [zm 28 0,zm 29 6,zm 30 1,zo 31 (.len true (.t 30)),zb 32 .add 29 31,zo 33 (.slStr (.t 28) (some (.t 32)) none),zm 0 33])))))))))),[.t 4]⟩
theorem Rf:cN Tryz.prog 62=some c62:=by kernel_rfl
def Of:bY:=⟨143,zq [zo 4 (.mv (zi 0))] (zq [zm 14 1,zo 15 (.len true (.t 14)),zm 5 15] (.seq (.block 0 (zq [zm 17 5,zk 18 .eql 17 0,zm 19 18,zg 20 (.mv (.t 1)) 19 false,zg 21 (.mv (.t 0)) 19 false,zg 22 (.bin .eql (.t 20) (.t 21)) 19 false,zo 23 (.pick (.t 19) (.c (.bool true)) (.t 22)),zm 16 23] (.cond (.t 16) (zq [zo 4 (.mv (zi 0))] .ret) (zq [zm 25 5,zk 26 .eql 25 1,zm 24 26] (.cond (.t 24) (zq [zm 27 0,zm 28 1,zo 29 (.idxS (.t 28) (zi 0)),zx 30 137 [.t 27,.t 29],zm 4 30] .ret) (zq [zm 32 5,zm 33 0,zo 34 (.len true (.t 33)),zb 35 .geq 32 34,zm 31 35] (.cond (.t 31) (zq [zo 4 (.mv (.c (.int .i64 (.negSucc 0))))] .ret) (zq [zm 37 5,zo 38 (.hf (.gLd 0 false 1) []),zb 39 .leq 37 38,zm 40 39,zg 41 (.mv (.t 0)) 40 true,zg 42 (.len true (.t 41)) 40 true,zg 43 (.bin .leq (.t 42) (zi 64)) 40 true,zo 44 (.pick (.t 40) (.t 43) (.c (.bool false))),zm 36 44] (.cond (.t 36) (zq [zm 45 0,zm 46 1,zx 47 149 [.t 45,.t 46],zm 4 47] .ret) .skip))))))))) (zq [zm 48 1,zo 49 (.idxS (.t 48) (zi 0)),zm 6 49] (zq [zm 50 1,zo 51 (.idxS (.t 50) (zi 1)),zm 7 51] (zq [zo 8 (.mv (zi 0))] (zq [zm 52 0,zo 53 (.len true (.t 52)),zm 54 5,zb 55 .sub 53 54,zk 56 .add 55 1,zm 9 56] (zq [zo 10 (.mv (zi 0))] (.seq (.block 1 (.loop (zr [zm 57 8,zm 58 9,zb 59 .lss 57 58] 59 .skip (.exit 1) (.block 2 (zr [zm 60 0,zm 61 8,zo 62 (.idxS (.t 60) (.t 61)),zm 63 6,zb 64 .neq 62 63] 64 (zq [zm 65 0,zm 66 8,zk 67 .add 66 1,zm 68 9,zo 69 (.slStr (.t 65) (some (.t 67)) (some (.t 68))),zm 70 6,zx 71 137 [.t 69,.t 70],zm 11 71] (zr [zm 72 11,zk 73 .lss 72 0] 73 (zq [zo 4 (.mv (.c (.int .i64 (.negSucc 0))))] .ret) .skip (.reg [zm 74 8,zm 75 11,zk 76 .add 75 1,zb 77 .add 74 76,zm 8 77]))) .skip (zr [zm 78 0,zm 79 8,zk 80 .add 79 1,zo 81 (.idxS (.t 78) (.t 80)),zm 82 7,zb 83 .eql 81 82,zm 84 83,zg 85 (.mv (.t 0)) 84 true,zg 86 (.mv (.t 8)) 84 true,zg 87 (.mv (.t 8)) 84 true,zg 88 (.mv (.t 5)) 84 true,zg 89 (.bin .add (.t 87) (.t 88)) 84 true,zg 90 (.slStr (.t 85) (some (.t 86)) (some (.t 89))) 84 true,zg 91 (.mv (.t 1)) 84 true,zg 92 (.bin .eql (.t 90) (.t 91)) 84 true,zo 93 (.pick (.t 84) (.t 92) (.c (.bool false)))] 93 (zq [zm 94 8,zm 4 94] .ret) .skip (zq [zm 95 8,zk 96 .add 95 1,zm 8 96] (zq [zm 97 10,zk 98 .add 97 1,zm 10 98] (zq [zm 99 5,zo 100 (.hf (.gLd 0 false 1) []),zb 101 .leq 99 100,zm 102 101,zg 103 (.mv (.t 10)) 102 true,zg 104 (.mv (.t 8)) 102 true,zg 105 (.call 150 [.t 104]) 102 true,zg 106 (.bin .gtr (.t 103) (.t 105)) 102 true,zo 107 (.pick (.t 102) (.t 106) (.c (.bool false)))] (.cond (.t 107) (zq [zm 108 0,zm 109 8,zo 110 (.slStr (.t 108) (some (.t 109)) none),zm 111 1,zx 112 149 [.t 110,.t 111],zm 12 112] (zr [zm 113 12,zk 114 .geq 113 0] 114 (zq [zm 115 12,zm 116 8,zb 117 .add 115 116,zm 4 117] .ret) .skip (zq [zo 4 (.mv (.c (.int .i64 (.negSucc 0))))] .ret))) (zq [zm 118 5,zo 119 (.hf (.gLd 0 false 1) []),zb 120 .gtr 118 119,zm 121 120,zg 122 (.mv (.t 10)) 121 true,zg 123 (.mv (.t 8)) 121 true,zg 124 (.bin .shr (.t 123) (.c (.int .u64 (.ofNat 4)))) 121 true,zg 125 (.bin .add (zi 4) (.t 124)) 121 true,zg 126 (.bin .geq (.t 122) (.t 125)) 121 true,zo 127 (.pick (.t 121) (.t 126) (.c (.bool false))),zm 128 127,zg 129 (.mv (.t 8)) 128 true,zg 130 (.mv (.t 9)) 128 true,zg 131 (.bin .lss (.t 129) (.t 130)) 128 true,zo 132 (.pick (.t 128) (.t 131) (.c (.bool false)))] (.cond (.t 132) (zq [zm 133 0,zm 134 8,zo 135 (.slStr (.t 133) (some (.t 134)) none),zm 136 1,zx 137 151 [.t 135,.t 136],zm 13 137] (zr [zm 138 13,zk 139 .lss 138 0] 139 (zq [zo 4 (.mv (.c (.int .i64 (.negSucc 0))))] .ret) .skip (zq [zm 140 8,zm 141 13,zb 142 .add 140 141,zm 4 142] .ret))) .skip)))))))))))) (zq [zo 4 (.mv (.c (.int .i64 (.negSucc 0))))] .ret))))))))),[.t 4]⟩
theorem O6:cN Tryz.prog 134=some Of:=by kernel_rfl
def Od:bY:=⟨8,zq [zo 4 (.mv (zi 0))] (zq [zm 5 0,zm 6 1,zo 7 (.pf .ibs [.t 5,.t 6]),zm 4 7] .ret),[.t 4]⟩
theorem LY:cN Tryz.prog 137=some Od:=by kernel_rfl
def QK:bY:=⟨9,zq [zo 2 (.mv (.c (.bool false)))] (zq [zm 3 0,zo 4 (.bin .leq (zu 48) (.t 3)),zm 5 4,zg 6 (.mv (.t 0)) 5 true,zg 7 (.bin .leq (.t 6) (zu 57)) 5 true,zo 8 (.pick (.t 5) (.t 7) (.c (.bool false))),zm 2 8] .ret),[.t 2]⟩
theorem Re:cN Tryz.prog 63=some QK:=by kernel_rfl
def c64:bY:=⟨36,zq [zo 4 (.mv (zi 0))] (zq [zm 7 0,zm 8 1,zx 9 67 [.t 7,.t 8,.f 63],zm 5 9] (zr [zm 10 5,zm 11 1,zb 12 .eql 10 11,zm 13 12,zg 14 (.mv (.t 5)) 13 false,zg 15 (.mv (.t 0)) 13 false,zg 16 (.len true (.t 15)) 13 false,zg 17 (.bin .eql (.t 14) (.t 16)) 13 false,zo 18 (.pick (.t 13) (.c (.bool true)) (.t 17)),zm 19 18,zg 20 (.mv (.t 0)) 19 false,zg 21 (.mv (.t 5)) 19 false,zg 22 (.idxS (.t 20) (.t 21)) 19 false,zg 23 (.bin .neq (.t 22) (zu 46)) 19 false,zo 24 (.pick (.t 19) (.c (.bool true)) (.t 23))] 24 (zq [zm 25 5,zm 4 25] .ret) .skip (.seq (zq [zm 26 0,zm 27 5,zk 28 .add 27 1,zx 29 67 [.t 26,.t 28,.f 63],zm 6 29] (zq [zm 30 6,zm 31 5,zk 32 .add 31 1,zb 33 .gtr 30 32] (.cond (.t 33) (zq [zm 34 6,zm 4 34] .ret) .skip))) (zq [zm 35 5,zm 4 35] .ret)))),[.t 4]⟩
theorem Ra:cN Tryz.prog 64=some c64:=by kernel_rfl
def Sj:bY:=⟨51,zq [zo 2 (.mv (zi 0)),zo 3 (.mv (.c (.bool false)))] (zr [zm 9 0,zo 10 (.bin .eql (.t 9) (.c (.str []))),zm 11 10,zg 12 (.mv (.t 0)) 11 false,zg 13 (.idxS (.t 12) (zi 0)) 11 false,zg 14 (.call 63 [.t 13]) 11 false,zg 15 (.un .not (.t 14)) 11 false,zo 16 (.pick (.t 11) (.c (.bool true)) (.t 15)),zm 17 16,zg 18 (.mv (.t 0)) 17 false,zg 19 (.call 64 [.t 18,zi 0]) 17 false,zg 20 (.mv (.t 0)) 17 false,zg 21 (.len true (.t 20)) 17 false,zg 22 (.bin .neq (.t 19) (.t 21)) 17 false,zo 23 (.pick (.t 17) (.c (.bool true)) (.t 22))] 23 (zq [zo 2 (.mv (zi 0)),zo 3 (.mv (.c (.bool false)))] .ret) .skip (zq [zm 25 0,zx 26 113 [.t 25,.c (.str [46])],zm 24 26,ze 27 0 24,ze 28 1 24,ze 29 2 24,zm 4 27,zm 5 28,zm 6 29] (zq [zo 7 (.mv (zi 0))] (.seq (zq [zm 30 4,zo 31 (.len true (.t 30)),zo 32 (.mv (zi 0))] (.block 0 (.loop (zq [zb 33 .lss 32 31] (.seq (.cond (.t 33) .skip (.exit 0)) (.seq (.block 1 (zq [zm 34 32,zm 8 34] (zq [zm 35 7,zk 36 .mul 35 10,zm 37 4,zm 38 8,zo 39 (.idxS (.t 37) (.t 38)),zo 40 (.bin .sub (.t 39) (zu 48)),zv 41 .i64 40,zb 42 .add 36 41,zm 7 42] (zq [zm 43 7,zk 44 .geq 43 2147483648] (.cond (.t 44) (zq [zo 2 (.mv (zi 0)),zo 3 (.mv (.c (.bool false)))] .ret) .skip))))) (.reg [zk 45 .add 32 1,zm 32 45]))))))) (zq [zm 46 7,zo 47 (.bin .shl (.t 46) (.c (.int .u64 (.ofNat 32)))),zm 48 5,zx 49 114 [.t 48],zb 50 .or 47 49,zm 2 50,zo 3 (.mv (.c (.bool true)))] .ret))))),[.t 2,.t 3]⟩
theorem Q9:cN Tryz.prog 65=some Sj:=by kernel_rfl
def Qp:bY:=⟨13,zq [zo 4 (.mv (.c (.str []))),zo 5 (.mv (.c (.str []))),zo 6 (.mv (.c (.bool false)))] (zq [zm 7 0,zm 8 1,zx 9 135 [.t 7,.t 8],ze 10 0 9,ze 11 1 9,ze 12 2 9,zm 4 10,zm 5 11,zm 6 12] .ret),[.t 4,.t 5,.t 6]⟩
theorem Pm:cN Tryz.prog 113=some Qp:=by kernel_rfl
def Qc:bY:=⟨23,zq [zo 4 (.mv (.c (.str []))),zo 5 (.mv (.c (.str []))),zo 6 (.mv (.c (.bool false)))] (.seq (zq [zm 8 0,zm 9 1,zx 10 134 [.t 8,.t 9],zm 7 10] (zq [zm 11 7,zk 12 .geq 11 0] (.cond (.t 12) (zq [zm 13 0,zm 14 7,zo 15 (.slStr (.t 13) none (some (.t 14))),zm 16 0,zm 17 7,zm 18 1,zo 19 (.len true (.t 18)),zb 20 .add 17 19,zo 21 (.slStr (.t 16) (some (.t 20)) none),zm 4 15,zm 5 21,zo 6 (.mv (.c (.bool true)))] .ret) .skip))) (zq [zm 22 0,zm 4 22,zo 5 (.mv (.c (.str []))),zo 6 (.mv (.c (.bool false)))] .ret)),[.t 4,.t 5,.t 6]⟩
theorem O5:cN Tryz.prog 135=some Qc:=by kernel_rfl
def Qo:bY:=⟨47,zq [zo 2 (.mv (zi 0))] (zq [zo 3 (.new [zU 0,zU 0,zU 0,zU 0,zU 0,zU 0,zU 0,zU 0,zU 0,zU 0,zU 0,zU 0,zU 0,zU 0,zU 0,zU 0,zU 0,zU 0,zU 0,zU 0,zU 0,zU 0,zU 0,zU 0,zU 0,zU 0,zU 0,zU 0,zU 0,zU 0,zU 0,zU 0])] (.seq (zq [zm 9 0,zo 10 (.len true (.t 9)),zo 11 (.pf (.mm false) [.t 10,zi 32]),zo 12 (.mv (zi 0))] (.block 0 (.loop (zq [zb 13 .lss 12 11] (.seq (.cond (.t 13) .skip (.exit 0)) (.seq (.block 1 (zq [zm 14 12,zm 4 14] (.reg [zm 15 4,zm 16 0,zm 17 4,zo 18 (.idxS (.t 16) (.t 17)),zo 19 (.bin .sub (.t 18) (zu 48)),zo 20 (.idxArr 32 1 (.t 3) (.t 15)),zs 20 19]))) (.reg [zk 21 .add 12 1,zm 12 21]))))))) (zq [zo 5 (.mv (zi 0))] (.seq (zq [zo 22 (.mv (zi 0))] (.block 2 (.loop (zq [zk 23 .lss 22 32] (.seq (.cond (.t 23) .skip (.exit 2)) (.seq (.block 3 (zq [zo 6 (.mv (zu 0))] (.seq (zq [zo 7 (.mv (zi 31))] (.block 4 (.loop (zr [zm 24 7,zk 25 .geq 24 0] 25 .skip (.exit 4) (.seq (.block 5 (zq [zm 28 7,zo 29 (.idxArr 32 1 (.t 3) (.t 28)),zl 30 29,zo 31 (.bin .mul (.t 30) (zu 2)),zm 32 6,zb 33 .add 31 32,zm 8 33] (.reg [zm 34 7,zm 35 8,zo 36 (.bin .rem (.t 35) (zu 10)),zm 37 8,zo 38 (.bin .quo (.t 37) (zu 10)),zo 39 (.idxArr 32 1 (.t 3) (.t 34)),zs 39 36,zm 6 38]))) (.reg [zm 26 7,zk 27 .sub 26 1,zm 7 27])))))) (.reg [zm 40 5,zo 41 (.bin .shl (.t 40) (.c (.int .u64 (.ofNat 1)))),zm 42 6,zv 43 .i64 42,zb 44 .or 41 43,zm 5 44])))) (.reg [zk 45 .add 22 1,zm 22 45]))))))) (zq [zm 46 5,zm 2 46] .ret))))),[.t 2]⟩
theorem Pk:cN Tryz.prog 114=some Qo:=by kernel_rfl
def c66:bY:=⟨21,zq [zo 2 (.mv (.c (.bool false)))] (zq [zm 3 0,zo 4 (.bin .leq (zu 97) (.t 3)),zm 5 4,zg 6 (.mv (.t 0)) 5 true,zg 7 (.bin .leq (.t 6) (zu 122)) 5 true,zo 8 (.pick (.t 5) (.t 7) (.c (.bool false))),zm 9 8,zg 10 (.mv (.t 0)) 9 false,zg 11 (.bin .leq (zu 65) (.t 10)) 9 false,zg 12 (.mv (.t 11)) 9 false,zg 13 (.mv (.t 0)) 12 true,zg 14 (.bin .leq (.t 13) (zu 90)) 12 true,zg 15 (.pick (.t 12) (.t 14) (.c (.bool false))) 9 false,zo 16 (.pick (.t 9) (.c (.bool true)) (.t 15)),zm 17 16,zg 18 (.mv (.t 0)) 17 false,zg 19 (.bin .eql (.t 18) (zu 95)) 17 false,zo 20 (.pick (.t 17) (.c (.bool true)) (.t 19)),zm 2 20] .ret),[.t 2]⟩
theorem Q8:cN Tryz.prog 66=some c66:=by kernel_rfl
def c68:bY:=⟨9,zq [zo 2 (.mv (.c (.bool false)))] (zq [zm 3 0,zx 4 66 [.t 3],zm 5 4,zg 6 (.mv (.t 0)) 5 false,zg 7 (.call 63 [.t 6]) 5 false,zo 8 (.pick (.t 5) (.c (.bool true)) (.t 7)),zm 2 8] .ret),[.t 2]⟩
theorem Q6:cN Tryz.prog 68=some c68:=by kernel_rfl
def c69:bY:=⟨5,zq [zo 2 (.mv (.c (.str [])))] (zq [zm 3 0,zx 4 115 [.t 3],zm 2 4] .ret),[.t 2]⟩
theorem Q5:cN Tryz.prog 69=some c69:=by kernel_rfl
def MR:bY:=⟨11,zq [zo 2 (.mv (.c (.bool false)))] (.seq (zq [zm 3 0] (.block 0 (zr [zo 5 (.bin .eql (.t 3) (.c (.str [108,101,116]))),zm 4 5] 4 .skip (zq [zo 6 (.bin .eql (.t 3) (.c (.str [115,101,116]))),zm 4 6] (.cond (.t 4) .skip (zq [zo 7 (.bin .eql (.t 3) (.c (.str [105,102]))),zm 4 7] (.cond (.t 4) .skip (zq [zo 8 (.bin .eql (.t 3) (.c (.str [101,108,115,101]))),zm 4 8] (.cond (.t 4) .skip (zq [zo 9 (.bin .eql (.t 3) (.c (.str [119,104,105,108,101]))),zm 4 9] (.cond (.t 4) .skip (.reg [zo 10 (.bin .eql (.t 3) (.c (.str [114,101,116,117,114,110]))),zm 4 10]))))))))) (.cond (.t 4) (zq [zo 2 (.mv (.c (.bool true)))] .ret) .skip)))) (zq [zo 2 (.mv (.c (.bool false)))] .ret)),[.t 2]⟩
theorem Q4:cN Tryz.prog 70=some MR:=by kernel_rfl
def c71:bY:=⟨26,zq [zo 4 (.mv (.c (.str [])))] (zq [zm 8 0,zm 9 1,zo 10 (.slStr (.t 8) (some (.t 9)) none),zm 5 10] (.seq (zq [zo 11 (.build [.str [],.str [],.str [],.str [],.str [],.str []] [(0,1,.c (.str [38,38])),(1,1,.c (.str [124,124])),(2,1,.c (.str [61,61])),(3,1,.c (.str [33,61])),(4,1,.c (.str [60,61])),(5,1,.c (.str [62,61]))]),zo 12 (.mv (zi 0))] (.block 0 (.loop (zq [zk 13 .lss 12 6] (.seq (.cond (.t 13) .skip (.exit 0)) (.seq (.block 1 (zq [zo 14 (.idx 6 1 false (.t 11) (.t 12)),zm 7 14] (zq [zm 15 5,zm 16 7,zx 17 116 [.t 15,.t 16]] (.cond (.t 17) (zq [zm 18 7,zm 4 18] .ret) .skip)))) (.reg [zk 19 .add 12 1,zm 12 19]))))))) (zr [zm 20 5,zo 21 (.idxS (.t 20) (zi 0)),zx 22 117 [.c (.str [60,62,43,45,42,47,33,40,41,123,125,44,59,61]),.t 21],zk 23 .geq 22 0] 23 (zq [zm 24 5,zo 25 (.slStr (.t 24) none (some (zi 1))),zm 4 25] .ret) .skip (zq [zo 4 (.mv (.c (.str [])))] .ret)))),[.t 4]⟩
theorem Q3:cN Tryz.prog 71=some c71:=by kernel_rfl
def Qn:bY:=⟨8,zq [zo 4 (.mv (.c (.bool false)))] (zq [zm 5 0,zm 6 1,zx 7 136 [.t 5,.t 6],zm 4 7] .ret),[.t 4]⟩
theorem Pj:cN Tryz.prog 116=some Qn:=by kernel_rfl
def Oe:bY:=⟨18,zq [zo 4 (.mv (.c (.bool false)))] (zq [zm 5 0,zo 6 (.len true (.t 5)),zm 7 1,zo 8 (.len true (.t 7)),zb 9 .geq 6 8,zm 10 9,zg 11 (.mv (.t 0)) 10 true,zg 12 (.mv (.t 1)) 10 true,zg 13 (.len true (.t 12)) 10 true,zg 14 (.slStr (.t 11) none (some (.t 13))) 10 true,zg 15 (.mv (.t 1)) 10 true,zg 16 (.bin .eql (.t 14) (.t 15)) 10 true,zo 17 (.pick (.t 10) (.t 16) (.c (.bool false))),zm 4 17] .ret),[.t 4]⟩
theorem O4:cN Tryz.prog 136=some Oe:=by kernel_rfl
def Qm:bY:=⟨8,zq [zo 4 (.mv (zi 0))] (zq [zm 5 0,zm 6 1,zx 7 137 [.t 5,.t 6],zm 4 7] .ret),[.t 4]⟩
theorem Pi:cN Tryz.prog 117=some Qm:=by kernel_rfl
end
end Go.Proofs.Wo
namespace Go.Proofs.Wo
open Go.Abs Go.Abs.S Go.Proofs
def mdT:Nat->Option Eg:=fun f=>bif Nat.beq f 14 then some ⟨[],some (30,1,false)⟩ else bif Nat.beq f 16 then some ⟨[],some (33,1,false)⟩ else bif Nat.beq f 42 then some ⟨[],some (73,2,false)⟩ else none
def uq(H:ae):List aa->Option (aa×ae)
 | [.str s]=>bif Nat.ble s.length 281474976710656 then some (.str s,H) else none
 | _=>none
def nat:gH:=⟨fun f=>Nat.beq f 115,fun f args H=>bif Nat.beq f 115 then uq H args else none,fun _=>none⟩
abbrev aH:gH:=PR nat mdT
open Go.Abs Go.Abs.S
abbrev Bs:=List UInt8
def gb(b:UInt8):Bool:=decide (48<=b.toNat)&&decide (b.toNat<=57)
def beg(b:UInt8):Bool:=((decide (97<=b.toNat)&&decide (b.toNat<=122))||(decide (65<=b.toNat)&&decide (b.toNat<=90)))||decide (b.toNat=95)
def nW(b:UInt8):Bool:=beg b||gb b
def blk(b:UInt8):Bool:=((decide (b.toNat=9)||decide (b.toNat=10))||decide (b.toNat=13))||decide (b.toNat=32)
def zB(b:UInt8):Bool:=!decide (b.toNat=10)
def bX(p:UInt8->Bool)(s:Bs)(at_:Nat):Nat:=at_+((s.drop at_).takeWhile p).length
theorem eY{s:Bs}{i:Nat}{c:UInt8}(h:s[i]?=some c):s.drop i=c::s.drop (i+1):=by
 have hlt:=(SC.1 h).1
 rw[List.drop_eq_getElem_cons hlt]
 congr 1
 rw[SB hlt]at h
 simpa using h
theorem mn{p:UInt8->Bool}{s:Bs}{i:Nat}{c:UInt8}(h:s[i]?=some c)(hp:p c=true):bX p s i=bX p s (i+1):=by
 unfold bX
 rw[eY h,List.takeWhile_cons_of_pos hp,SF]
 omega
theorem CC{p:UInt8->Bool}{s:Bs}{i:Nat}{c:UInt8}(h:s[i]?=some c)(hp:p c=false):bX p s i=i:=by
 unfold bX
 rw[eY h,List.takeWhile_cons_of_neg (by simp[hp])]
 simp
theorem HB{p:UInt8->Bool}{s:Bs}{i:Nat}(h:s.length<=i):bX p s i=i:=by
 unfold bX
 rw[List.drop_eq_nil_of_le h]
 simp
theorem ik(p:UInt8->Bool)(s:Bs)(i:Nat):i<=bX p s i:=Nat.le_add_right _ _
theorem jd{p:UInt8->Bool}{s:Bs}{i:Nat}(h:i<=s.length):bX p s i<=s.length:=by
 unfold bX
 have:=(List.takeWhile_sublist (p:=p) (l:=s.drop i)).length_le
 simp only[SY]at this
 omega
theorem CE{p:UInt8->Bool}{s:Bs}{i j:Nat}(h1:i<=j)(h2:j<bX p s i):∃c,s[j]?=some c/\p c=true:=by
 unfold bX at h2
 have hj:j-i<((s.drop i).takeWhile p).length:=om
 have hm:=List.getElem_mem hj
 have hp:=List.all_takeWhile (p:=p) (l:=s.drop i)
 refine⟨((s.drop i).takeWhile p)[j-i],?_,List.all_eq_true.1 hp _ hm⟩
 obtain⟨t,ht⟩:=List.takeWhile_prefix p (l:=s.drop i)
 have:(s.drop i)[j-i]?=some ((s.drop i).takeWhile p)[j-i]:=by
  conv=>lhs; rw[<- ht]
  rw[SS hj,SB hj]
 rw[List.getElem?_drop,show i+(j-i)=j by omega]at this
 exact this
theorem yQ{p:UInt8->Bool}{s:Bs}{i:Nat}{c:UInt8}(h:s[bX p s i]?=some c):p c=false:=by
 unfold bX at h
 rw[<- List.getElem?_drop]at h
 generalize s.drop i=l at h
 induction l with
 | nil=>simp at h
 | cons a l ih=>
  cases ha:p a with
  | true=>
   rw[List.takeWhile_cons_of_pos ha]at h
   simp only[SF,SN]at h
   exact ih h
  | false=>
   rw[List.takeWhile_cons_of_neg (by simp[ha])]at h
   simp only[SG,SL,sJ]at h
   rw[<- h]; exact ha
def gW(s:Bs)(i:Nat):Nat:=
 if bX gb s i=i∨s[bX gb s i]?≠some 46 then bX gb s i
 else if bX gb s i+1<bX gb s (bX gb s i+1) then bX gb s (bX gb s i+1) else bX gb s i
theorem KP(s:Bs)(i:Nat):i<=gW s i:=by
 unfold gW
 have h1:=ik gb s i
 have h2:=ik gb s (bX gb s i+1)
 split
 ·exact h1
 ·split <;> omega
theorem xA{s:Bs}{i:Nat}(h:i<=s.length):gW s i<=s.length:=by
 unfold gW
 have h1:=jd (p:=gb) h
 split
 ·exact h1
 ·rename_i hn
  have hs:s[bX gb s i]?=some 46:=by
   by_cases c:s[bX gb s i]?=some 46
   ·exact c
   ·exact absurd (.inr c) hn
  have hlt:=(SC.1 hs).1
  split
  ·exact jd om
  ·exact h1
mutual
def bl:Bs->Bs
 | []=>[]
 | c::r=>if blk c then bl r else if c.toNat=35 then rm r else c::r
def rm:Bs->Bs
 | []=>[]
 | c::r=>if c.toNat=10 then bl r else rm r
end
def bM(s:Bs)(i:Nat):Nat:=s.length-(bl (s.drop i)).length
mutual
theorem Ja:∀l:Bs,(bl l).length<=l.length
 | []=>by simp[bl]
 | c::r=>by
  have h1:=Ja r
  have h2:=Mt r
  simp only[bl]
  split
  ·simp; omega
  ·split
   ·simp; omega
   ·simp
theorem Mt:∀l:Bs,(rm l).length<=l.length
 | []=>by simp[rm]
 | c::r=>by
  have h1:=Ja r
  have h2:=Mt r
  simp only[rm]
  split
  ·simp; omega
  ·simp; omega
end
theorem Ht{s:Bs}{i:Nat}(h:i<=s.length):i<=bM s i:=by
 unfold bM
 have:=Ja (s.drop i)
 simp only[SY]at this
 omega
theorem sO(s:Bs)(i:Nat):bM s i<=s.length:=by unfold bM; omega
theorem vx{s:Bs}{i:Nat}{c:UInt8}(h:s[i]?=some c)(hb:blk c=false)(hc:c.toNat≠35):bM s i=i:=by
 have hlt:=(SC.1 h).1
 unfold bM
 rw[eY h,bl,if_neg (by simp[hb]),if_neg hc,<- eY h,SY]
 omega
theorem Hs{s:Bs}{i:Nat}(h:s.length=i):bM s i=i:=by
 unfold bM
 rw[List.drop_eq_nil_of_le om,bl]
 simp; omega
theorem Hq(s:Bs)(i:Nat):bM s (bX blk s i)=bM s i:=by
 have key:∀l:Bs,bl (l.drop (l.takeWhile blk).length)=bl l:=by
  intro l
  induction l with
  | nil=>simp
  | cons a l ih=>
   cases ha:blk a with
   | true=>rw[List.takeWhile_cons_of_pos ha,SF,List.drop_succ_cons,ih,bl,if_pos ha]
   | false=>rw[List.takeWhile_cons_of_neg (by simp[ha])]; simp
 unfold bM bX
 rw[<- List.drop_drop,key]
theorem HC:∀l:Bs,rm l=bl (l.drop (l.takeWhile zB).length)
 | []=>by simp[rm,bl]
 | c::r=>by
  by_cases h:c.toNat=10
  ·have hn:zB c=false:=by simp[zB,h]
   have hb:blk c=true:=by simp[blk,h]
   rw[rm,if_pos h,List.takeWhile_cons_of_neg (by simp[hn]),SG,List.drop_zero,bl,if_pos hb]
  ·have hn:zB c=true:=by simp[zB,h]
   rw[rm,if_neg h,List.takeWhile_cons_of_pos hn,SF,List.drop_succ_cons,HC r]
theorem yM{s:Bs}{i:Nat}{c:UInt8}(h:s[i]?=some c)(hc:c.toNat=35):bM s i=bM s (bX zB s i):=by
 have hb:blk c=false:=by simp[blk,hc]
 have hn:zB c=true:=by simp[zB,hc]
 rw[mn h hn]
 unfold bM bX
 rw[eY h,bl,if_neg (by simp[hb]),if_pos hc,HC,List.drop_drop]
def cq(s:Bs)(i:Nat):Nat:=1+(s.take i).count 10
def dv(c:UInt8):Nat:=c.toNat-48
def fR(l:Bs):Nat:=l.foldl (fun n c=>n*10+dv c) 0
theorem FE(l:Bs)(n:Nat):l.foldl (fun n c=>n*10+dv c) n=n*10 ^ l.length+fR l:=by
 induction l generalizing n with
 | nil=>simp[fR]
 | cons c l ih=>
  simp only[List.foldl_cons,fR,SF]
  rw[ih,ih (0*10+dv c)]
  rw[Nat.pow_succ]
  have:(n*10+dv c)*10 ^ l.length=n*(10 ^ l.length*10)+(0*10+dv c)*10 ^ l.length:=by
   rw[Nat.add_mul,Nat.zero_mul,Nat.zero_add,Nat.mul_assoc,Nat.mul_comm 10]
  omega
theorem GH(l:Bs)(c:UInt8):fR (l++[c])=fR l*10+dv c:=by simp[fR]
open Go.Abs Go.Abs.S
def fQ(l:List Nat):Nat:=l.foldl (fun n d=>n*10+d) 0
theorem vj(l:List Nat)(n:Nat):l.foldl (fun n d=>n*10+d) n=n*10 ^ l.length+fQ l:=by
 induction l generalizing n with
 | nil=>simp[fQ]
 | cons c l ih=>
  simp only[List.foldl_cons,fQ,SF]
  rw[ih,ih (0*10+c),Nat.pow_succ]
  have:(n*10+c)*10 ^ l.length=n*(10 ^ l.length*10)+(0*10+c)*10 ^ l.length:=by
   rw[Nat.add_mul,Nat.zero_mul,Nat.zero_add,Nat.mul_assoc,Nat.mul_comm 10]
  omega
theorem pC(d:Nat)(l:List Nat):fQ (d::l)=d*10 ^ l.length+fQ l:=by
 have:=vj l (0*10+d)
 simp only[Nat.zero_mul,Nat.zero_add]at this
 rw[<- this]; simp[fQ]
theorem od:∀{l:List Nat},(∀d∈l,d<=9)->fQ l<10 ^ l.length
 | [],_=>by simp[fQ]
 | d::l,h=>by
  have h1:=h d (by simp)
  have h2:=od (l:=l) fun x hx=>h x (by simp[hx])
  rw[pC,SF,Nat.pow_succ]
  have:d*10 ^ l.length<=9*10 ^ l.length:=Nat.mul_le_mul_right _ h1
  omega
def lI:List Nat->Nat×List Nat
 | []=>(0,[])
 | d::r=>((d*2+(lI r).1) / 10,(d*2+(lI r).1) % 10::(lI r).2)
theorem rJ:∀l:List Nat,(lI l).2.length=l.length
 | []=>rfl
 | d::r=>by simp only[lI,SF,rJ r]
theorem tP:∀{l:List Nat},(∀d∈l,d<=9)->(lI l).1<=1
 | [],_=>by simp[lI]
 | d::r,h=>by
  have h1:=h d (by simp)
  have h2:=tP (l:=r) fun x hx=>h x (by simp[hx])
  simp only[lI]; omega
theorem Dk:∀(l:List Nat),∀d∈(lI l).2,d<=9
 | [],d,h=>by simp[lI]at h
 | a::r,d,h=>by
  simp only[lI,List.mem_cons]at h
  rcases h with rfl | h
  ·omega
  ·exact Dk r d h
theorem Dj:∀(l:List Nat),(lI l).1*10 ^ l.length+fQ (lI l).2=2*fQ l
 | []=>by simp[lI,fQ]
 | d::r=>by
  have ih:=Dj r
  simp only[lI,pC,rJ,SF,Nat.pow_succ]
  generalize (lI r).1=o at *
  generalize fQ (lI r).2=v at *
  generalize fQ r=u at *
  generalize 10 ^ r.length=p at *
  have h1:=Nat.div_add_mod (d*2+o) 10
  have e1:(d*2+o) / 10*(p*10)=10*((d*2+o) / 10)*p:=by rw[Nat.mul_comm p,<- Nat.mul_assoc,Nat.mul_comm _ 10]
  have e2:(10*((d*2+o) / 10)+(d*2+o) % 10)*p=(d*2+o)*p:=by rw[h1]
  have e3:(d*2+o)*p=2*(d*p)+o*p:=by rw[Nat.add_mul,Nat.mul_comm d 2,Nat.mul_assoc]
  rw[Nat.add_mul]at e2
  rw[e1]
  omega
def bits(l:List Nat)(n:Nat):Nat->Nat×List Nat
 | 0=>(n,l)
 | k+1=>(2*(bits l n k).1+(lI (bits l n k).2).1,(lI (bits l n k).2).2)
theorem oZ(l:List Nat)(n:Nat):∀k,(bits l n k).2.length=l.length
 | 0=>rfl
 | k+1=>by simp only[bits,rJ,oZ l n k]
theorem Ah{l:List Nat}(h:∀d∈l,d<=9)(n:Nat):∀k,∀d∈(bits l n k).2,d<=9
 | 0=>h
 | k+1=>by simp only[bits]; exact Dk _
theorem ub(l:List Nat)(n:Nat):∀k,(bits l n k).1*10 ^ l.length+fQ (bits l n k).2=2 ^ k*(n*10 ^ l.length+fQ l)
 | 0=>by simp[bits]
 | k+1=>by
  have ih:=ub l n k
  have h2:=Dj (bits l n k).2
  rw[oZ]at h2
  simp only[bits,Nat.pow_succ]
  rw[Nat.add_mul,Nat.mul_assoc,Nat.mul_right_comm (2 ^ k),<- ih]
  omega
theorem Jb{l:List Nat}(h:∀d∈l,d<=9)(n k:Nat):(bits l n k).1=2 ^ k*(n*10 ^ l.length+fQ l) / 10 ^ l.length:=by
 have h1:=ub l n k
 have h2:=od (Ah h n k)
 rw[oZ]at h2
 rw[<- h1]
 have hp:0<10 ^ l.length:=Nat.pos_of_ne_zero (by simp)
 rw[Nat.mul_comm,Nat.mul_add_div hp,Nat.div_eq_of_lt h2,Nat.add_zero]
def mK(l:List Nat):Nat:=2 ^ 32*fQ l / 10 ^ l.length
theorem FX{l:List Nat}(h:∀d∈l,d<=9)(n:Nat):(bits l n 32).1=2 ^ 32*n+mK l:=by
 rw[Jb h,mK,Nat.mul_add]
 have hp:0<10 ^ l.length:=Nat.pos_of_ne_zero (by simp)
 rw[<- Nat.mul_assoc,Nat.mul_comm (2 ^ 32*n),Nat.mul_add_div hp]
theorem Ls{l:List Nat}(h:∀d∈l,d<=9):mK l<2 ^ 32:=by
 have:=od h
 unfold mK
 have hp:0<10 ^ l.length:=Nat.pos_of_ne_zero (by simp)
 exact (Nat.div_lt_iff_lt_mul hp).2 (Nat.mul_lt_mul_of_pos_left this dD)
theorem qw(a b:List Nat):fQ (a++b)=fQ a*10 ^ b.length+fQ b:=by
 have:=vj b (fQ a)
 rw[<- this]; simp[fQ]
theorem sq:∀k,fQ (List.replicate k 0)=0
 | 0=>rfl
 | k+1=>by rw[List.replicate_succ,pC,sq k]; simp
theorem IB(l:List Nat)(k:Nat):mK (l++List.replicate k 0)=mK l:=by
 unfold mK
 rw[qw,sq,lA,List.length_replicate,Nat.add_zero,Nat.pow_add,<- Nat.mul_assoc]
 exact Nat.mul_div_mul_right _ _ (Nat.pos_of_ne_zero (by simp))
theorem FD{l:List Nat}(h:∀d∈l,d<=9)(hl:32<=l.length):mK (l.take 32)=mK l:=by
 have ht:(l.take 32).length=32:=by simp; omega
 have hd:(l.drop 32).length=l.length-32:=by simp
 have e:fQ l=fQ (l.take 32)*10 ^ (l.length-32)+fQ (l.drop 32):=by
  rw[<- hd,<- qw,List.take_append_drop]
 have hlt:=od (l:=l.drop 32) fun d hd=>h d (List.mem_of_mem_drop hd)
 rw[hd]at hlt
 have e2:(10:Nat) ^ l.length=10 ^ (l.length-32)*10 ^ 32:=by rw[<- Nat.pow_add]; congr 1; omega
 unfold mK
 rw[ht,e,e2]
 generalize fQ (l.take 32)=A
 generalize fQ (l.drop 32)=B at *
 generalize hp:(10:Nat) ^ (l.length-32)=p at *
 have hpp:0<p:=by rw[<- hp]; exact Nat.pos_of_ne_zero (by simp)
 rw[<- Nat.div_div_eq_div_mul,Nat.mul_add,<- Nat.mul_assoc,Nat.mul_comm (2 ^ 32*A) p,Nat.mul_add_div hpp]
 have hc:2 ^ 32*B / p<2 ^ 32:=(Nat.div_lt_iff_lt_mul hpp).2 (Nat.mul_lt_mul_of_pos_left hlt dD)
 generalize 2 ^ 32*B / p=c at hc
 have e3:(10:Nat) ^ 32=2 ^ 32*5 ^ 32:=by decide
 rw[e3,<- Nat.div_div_eq_div_mul,<- Nat.div_div_eq_div_mul,Nat.mul_add_div dD,Nat.div_eq_of_lt hc,Nat.add_zero,Nat.mul_div_cancel_left _ dD]
open Go.Abs Go.Abs.S
abbrev Oh(c:UInt8):aa:=.int .u8 (c.toNat:Int)
def Gn(N:gH)(g:Nat)(p:UInt8->Bool):Prop:=∀(c:UInt8) (H:ae),az Tryz.prog N g [Oh c] H fun v H'=>v=.bool (p c)/\H=H'
theorem iN(hN:aH.is 63=false):Gn aH 63 gb:=by
 intro c H
 refine aj hN Re rfl ?_
 by_cases h1:(48:Int)<=(c.toNat:Int)
 ·by_cases h2:(c.toNat:Int)<=57
  ·simp only[QK,sA,sB,seval,h1,h2]
   exact⟨by simp[gb]; omega,by trivial⟩
  ·simp only[QK,sA,sB,seval,h1,h2]
   exact⟨by simp[gb]; omega,by trivial⟩
 ·simp only[QK,sA,sB,seval,h1]
  exact⟨by simp[gb]; omega,by trivial⟩
theorem qQ(hN:aH.is 66=false):Gn aH 66 beg:=by
 intro c H
 refine aj hN Q8 rfl ?_
 have e:beg c=(((decide ((97:Int)<=c.toNat)&&decide ((c.toNat:Int)<=122))||(decide ((65:Int)<=c.toNat)&&decide ((c.toNat:Int)<=90)))||decide ((c.toNat:Int)=95)):=by
  rw[Bool.eq_iff_iff]; simp[beg]; omega
 rw[e]
 by_cases h1:(97:Int)<=(c.toNat:Int) <;> by_cases h2:(c.toNat:Int)<=122 <;> by_cases h3:(65:Int)<=(c.toNat:Int) <;> by_cases h4:(c.toNat:Int)<=90 <;> by_cases h5:(c.toNat:Int)=95
 all_goals first
  | (exfalso; omega)
  | (simp only [c66, sA, sB, seval, h1, h2, h3, h4, h5]
     exact ⟨by simp, by trivial⟩)
theorem BV(hN:aH.is 108=false):Gn aH 108 blk:=by
 intro c H
 refine aj hN Po rfl ?_
 have e:blk c=(((decide ((c.toNat:Int)=9)||decide ((c.toNat:Int)=10))||decide ((c.toNat:Int)=13))||decide ((c.toNat:Int)=32)):=by
  rw[Bool.eq_iff_iff]; simp[blk]; omega
 rw[e]
 by_cases h1:(c.toNat:Int)=9 <;> by_cases h2:(c.toNat:Int)=10 <;> by_cases h3:(c.toNat:Int)=13 <;> by_cases h4:(c.toNat:Int)=32
 all_goals first
  | (exfalso; omega)
  | (simp only [Qr, sA, sB, seval, h1, h2, h3, h4]
     exact ⟨by simp, by trivial⟩)
theorem Bi(hN:aH.is 109=false):Gn aH 109 zB:=by
 intro c H
 refine aj hN Pn rfl ?_
 have e:zB c=!decide ((c.toNat:Int)=10):=by
  rw[Bool.eq_iff_iff]; simp[zB]; omega
 rw[e]
 by_cases h1:(c.toNat:Int)=10
 all_goals
  simp only[Qq,sA,sB,seval,h1]
  exact⟨by trivial,by trivial⟩
theorem Fl(hN:aH.is 68=false)(h24:aH.is 66=false)(h22:aH.is 63=false):Gn aH 68 nW:=by
 intro c H
 refine aj hN Q6 rfl ?_
 simp only[c68,sA,sB,seval]
 refine (qQ h24 c H).mono ?_
 rintro v _ ⟨rfl,rfl⟩
 cases hb:beg c with
 | true=>
  simp only[sA,sB,seval]
  exact⟨by simp[nW,hb],by trivial⟩
 | false=>
  simp only[sA,sB,seval]
  refine (iN h22 c H).mono ?_
  rintro v _ ⟨rfl,rfl⟩
  cases hd:gb c with
  | true=>simp only[sA,sB,seval]; exact⟨by simp[nW,hb,hd],by trivial⟩
  | false=>simp only[sA,sB,seval]; exact⟨by simp[nW,hb,hd],by trivial⟩
theorem kS(hN:aH.is 67=false){g:Nat}{p:UInt8->Bool}(hp:Gn aH g p){H:ae}{s:Bs}{i:Nat}(hi:i<=s.length)(hs:s.length<=4611686018427387904)(hg:g<1024:=by decide) :
  az Tryz.prog aH 67 [.str s,.int .i64 (i:Int),.func (.func g) [] []] H fun v H'=>v=.int .i64 (bX p s i:Int)/\H=H':=by
 refine aj hN Q7 rfl ?_
 simp only[c67,hg,sA,sB,seval]
 refine cg (fun q (T:cD) H'=>∃j:Nat,j<=s.length/\q=s.length-j/\T 0=.str s/\T 1=.int .i64 (j:Int)/\T 2=.func (.func g) [] []/\bX p s i=bX p s j/\H=H') (s.length-i) ⟨i,hi,rfl,rfl,rfl,rfl,rfl,rfl⟩ ?_
 rintro q T _ ⟨j,hj,rfl,g0,g1,g2,hA,rfl⟩
 by_cases hlt:j<s.length
 ·have hlt':(j:Int)<(s.length:Int):=om
  obtain⟨c,hc⟩:=cx hlt
  simp only[sA,sB,seval,hg,g0,g1,g2,hlt',db hc]
  refine (hp c H).mono ?_
  rintro v _ ⟨rfl,rfl⟩
  cases hb:p c with
  | true=>
   simp only[sA,sB,seval,hg,g0,g1,g2,nY j om]
   exact⟨_,om,j+1,om,rfl,by trivial,rfl,by trivial,by rw[hA,mn hc hb],by trivial⟩
  | false=>
   simp only[sA,sB,seval,hg,g0,g1,g2]
   exact⟨by rw[hA,CC hc hb],by trivial⟩
 ·have hlt':¬(j:Int)<(s.length:Int):=om
  simp only[sA,sB,seval,hg,g0,g1,g2,hlt']
  exact⟨by rw[hA,HB om],by trivial⟩
theorem EM(h20:aH.is 61=false)(h25:aH.is 67=false)(h45:aH.is 108=false)(h46:aH.is 109=false){H:ae}{s:Bs}{i:Nat}(hi:i<=s.length)(hs:s.length<=4611686018427387904) :
  az Tryz.prog aH 61 [.str s,.int .i64 (i:Int)] H fun v H'=>v=.int .i64 (bM s i:Int)/\H=H':=by
 refine aj h20 Rh rfl ?_
 simp only[c61,sA,sB,seval]
 refine cg (fun q (T:cD) H'=>∃j:Nat,j<=s.length/\q=s.length-j/\T 0=.str s/\T 1=.int .i64 (j:Int)/\bM s i=bM s j/\H=H') (s.length-i) ⟨i,hi,rfl,rfl,rfl,rfl,rfl⟩ ?_
 rintro q T _ ⟨j,hj,rfl,g0,g1,hA,rfl⟩
 simp only[sA,sB,seval,g0,g1]
 refine (kS h25 (BV h45) hj hs).mono ?_
 rintro v _ ⟨rfl,rfl⟩
 have h1:=ik blk s j
 have h2:=jd (p:=blk) hj
 rw[<- Hq s j]at hA
 have hout:∀c,s[bX blk s j]?=some c->blk c=false:=fun c=>yQ
 generalize bX blk s j=e at *
 by_cases he:e=s.length
 ·have he':(e:Int)=(s.length:Int):=om
  simp only[sA,sB,seval,g0,g1,he']
  exact⟨by rw[hA,Hs he.symm,he],by trivial⟩
 have he':¬(e:Int)=(s.length:Int):=om
 obtain⟨c,hc⟩:=cx (l:=s) (i:=e) om
 by_cases h35:(c.toNat:Int)=35
 ·simp only[sA,sB,seval,g0,g1,he',db hc,h35]
  refine (kS h25 (Bi h46) h2 hs).mono ?_
  rintro v _ ⟨rfl,rfl⟩
  have h3:=jd (p:=zB) h2
  have hn:zB c=true:=by simp[zB]; omega
  have h4:e<bX zB s e:=by rw[mn hc hn]; have:=ik zB s (e+1); omega
  simp only[sA,sB,seval,g0,g1]
  exact⟨_,om,bX zB s e,h3,rfl,by trivial,by trivial,by rw[hA,yM hc om],by trivial⟩
 ·simp only[sA,sB,seval,g0,g1,he',db hc,h35]
  exact⟨by rw[hA,vx hc (hout c hc) om],by trivial⟩
theorem oG(h23:aH.is 64=false)(h25:aH.is 67=false)(h22:aH.is 63=false){H:ae}{s:Bs}{i:Nat}(hi:i<=s.length)(hs:s.length<=4611686018427387904) :
  az Tryz.prog aH 64 [.str s,.int .i64 (i:Int)] H fun v H'=>v=.int .i64 (gW s i:Int)/\H=H':=by
 refine aj h23 Ra rfl ?_
 simp only[c64,sA,sB,seval]
 refine (kS h25 (iN h22) hi hs).mono ?_
 rintro v _ ⟨rfl,rfl⟩
 have h1:=ik gb s i
 have h2:=jd (p:=gb) hi
 unfold gW
 generalize bX gb s i=e at *
 by_cases he:(e:Int)=(i:Int)
 ·obtain rfl:e=i:=om
  simp only[sA,sB,seval]
  exact⟨by rw[if_pos (.inl (by trivial))],by trivial⟩
 by_cases hl:(e:Int)=(s.length:Int)
 ·obtain rfl:e=s.length:=om
  have hn:s[s.length]?=none:=SV om
  simp only[sA,sB,seval,he]
  exact⟨by rw[if_pos (.inr (by rw[hn]; simp))],by trivial⟩
 obtain⟨c,hc⟩:=cx (l:=s) (i:=e) om
 by_cases h46:(c.toNat:Int)=46
 ·have hc46:s[e]?=some 46:=by
   rw[hc]; congr 1; exact UInt8.toNat_inj.1 (by simpa using (show c.toNat=46 by omega))
  have hcond:¬(e=i∨s[e]?≠some 46):=by
   rintro (h | h)
   ·omega
   ·exact h hc46
  rw[if_neg hcond]
  simp only[sA,sB,seval,he,hl,db hc,h46,nY e om]
  refine (kS h25 (iN h22) (i:=e+1) om hs).mono ?_
  rintro v _ ⟨rfl,rfl⟩
  by_cases hm:((e+1:Nat):Int)<(bX gb s (e+1):Int)
  ·simp only[sA,sB,seval,nY e om,hm]
   exact⟨by rw[if_pos om],by trivial⟩
  ·simp only[sA,sB,seval,nY e om,hm]
   exact⟨by rw[if_neg om],by trivial⟩
 ·have hcond:e=i∨s[e]?≠some 46:=by
   right
   rw[hc]
   intro h
   simp only[sJ]at h
   subst h
   exact h46 rfl
  rw[if_pos hcond]
  simp only[sA,sB,seval,he,hl,db hc,h46]
  exact⟨by trivial,by trivial⟩
open Go.Abs Go.Abs.S
def nH(s:Bs):List Nat:=s.map dv
theorem xW{s:Bs}(h:∀c∈s,gb c=true):∀d∈nH s,d<=9:=by
 intro d hd
 obtain⟨c,hc,rfl⟩:=List.mem_map.1 hd
 have:=h c hc
 simp[gb]at this
 unfold dv; omega
def CK(s:Bs)(i:Nat):List Nat:=nH (s.take i)++List.replicate (32-i) 0
theorem CJ(s:Bs){i:Nat}(h:i<=s.length)(h2:i<=32):(CK s i).length=32:=by
 simp[CK,nH]; omega
theorem KE(s:Bs){i:Nat}{c:UInt8}(hc:s[i]?=some c)(h2:i<32):(CK s i).set i (dv c)=CK s (i+1):=by
 have hlt:=(SC.1 hc).1
 have hl:(nH (s.take i)).length=i:=by simp[nH]; omega
 unfold CK
 rw[List.set_append_right _ _ om,hl,Nat.sub_self,show 32-i=(32-(i+1))+1 by omega,List.replicate_succ,List.set_cons_zero]
 rw[List.take_add_one,hc]
 simp[nH]
theorem HK(s:Bs)(h:∀c∈s,gb c=true):mK (CK s (min s.length 32))=mK (nH s):=by
 by_cases hl:s.length<=32
 ·rw[Nat.min_eq_left hl,CK,List.take_length,IB]
 ·rw[Nat.min_eq_right om]
  have e:CK s 32=(nH s).take 32:=by simp[CK,nH,List.map_take]
  rw[e,FD (xW h) (by simp[nH]; omega)]
def qZ(l:List Nat)(m:Nat):List Nat:=l.take m++(lI (l.drop m)).2
theorem Ix(l:List Nat):qZ l l.length=l:=by simp[qZ,lI]
theorem FC(l:List Nat):qZ l 0=(lI l).2:=by simp[qZ]
theorem zL(l:List Nat)(m:Nat):(qZ l m).length=l.length:=by
 simp[qZ,rJ]; omega
theorem Iw{l:List Nat}{m d:Nat}(h:l[m]?=some d):(qZ l (m+1))[m]?=some d:=by
 have hlt:=(SC.1 h).1
 rw[qZ,SS (by simp; omega),List.getElem?_take_of_lt om,h]
theorem Dh{l:List Nat}{m d:Nat}(h:l[m]?=some d):l.drop m=d::l.drop (m+1):=by
 have hlt:=(SC.1 h).1
 rw[List.drop_eq_getElem_cons hlt]
 congr 1
 rw[SB hlt]at h
 simpa using h
theorem Iv{l:List Nat}{m d:Nat}(h:l[m]?=some d):(qZ l (m+1)).set m ((d*2+(lI (l.drop (m+1))).1) % 10)=qZ l m:=by
 have hlt:=(SC.1 h).1
 unfold qZ
 rw[Dh h,lI]
 rw[List.set_append_left _ _ (by simp; omega)]
 rw[List.take_add_one,h,Option.toList_some,List.set_append_right _ _ (by simp; omega),SQ]
 congr 1
 have:m-(l.take m).length=0:=by simp; omega
 rw[this]; rfl
theorem EX(h35:aH.is 114=false){H:ae}{s:Bs}(hd:∀c∈s,gb c=true)(hs:s.length<=4611686018427387904) :
  az Tryz.prog aH 114 [.str s] H fun v H'=>v=.int .i64 (mK (nH s):Int)/\cZ H.next H H':=by
 refine aj h35 Pk rfl ?_
 obtain⟨H1,m1,r1,n1,k1⟩:=aw H (Gs (List.replicate 32 0)) (n:=32) rfl
 have hz:Gs (List.replicate 32 0)=[.int .u8 0,.int .u8 0,.int .u8 0,.int .u8 0,.int .u8 0,.int .u8 0,.int .u8 0,.int .u8 0,.int .u8 0,.int .u8 0,.int .u8 0,.int .u8 0,.int .u8 0,.int .u8 0,.int .u8 0,.int .u8 0,.int .u8 0,.int .u8 0,.int .u8 0,.int .u8 0,.int .u8 0,.int .u8 0,.int .u8 0,.int .u8 0,.int .u8 0,.int .u8 0,.int .u8 0,.int .u8 0,.int .u8 0,.int .u8 0,.int .u8 0,.int .u8 0]:=rfl
 rw[hz]at m1
 have hmin:(if (32:Int)<(s.length:Int) then (32:Int) else (s.length:Int))=((min s.length 32:Nat):Int):=by
  split <;> omega
 simp only[Qo,sA,sB,seval,m1,hmin]
 have p0:CK s 0=List.replicate 32 0:=by simp[CK,nH]
 rw[<- p0]at r1
 generalize hb:H.next=b at *
 refine cg (fun q (T:cD) H'=>∃i:Nat,i<=min s.length 32/\q=min s.length 32-i/\T 0=.str s/\T 3=af b 32 0/\T 11=.int .i64 ((min s.length 32:Nat):Int)/\T 12=.int .i64 (i:Int)/\a6 H' b (Gs (CK s i))/\H'.next=b+1/\∀c,c<b->H'.get c=H.get c) (min s.length 32)
  ⟨0,Nat.zero_le _,rfl,rfl,by simp only[sA,sB,seval],by simp only[sA,sB,seval],by simp only[sA,sB,seval]; try rfl,r1,om,fun c hc=>k1 c om⟩ ?_
 clear m1 r1 k1 n1 H1
 rintro q T H1 ⟨i,hi,rfl,g0,g3,g11,g12,r1,n1,k1⟩
 by_cases hlt:i<min s.length 32
 ·have hlt':(i:Int)<((min s.length 32:Nat):Int):=om
  obtain⟨c,hc⟩:=cx (l:=s) (i:=i) om
  have hdc:=hd c (SJ hc)
  have hdv:(c.toNat:Int)-48=((dv c:Nat):Int):=by simp[gb]at hdc; unfold dv; omega
  have hd9:dv c<=9:=by simp[gb]at hdc; unfold dv; omega
  have hw:IntKind.u8.wrap ((dv c:Nat):Int)=((dv c:Nat):Int):=gt om om
  have ia:=DJ (b:=b) (n:=32) (i:=i) om .i64
  obtain⟨H2,m2,r2,n2,k2⟩:=cU r1 (n:=32) (by rw[wY,CJ s om om]) (i:=i) om (x:=.int .u8 ((dv c:Nat):Int)) rfl
  simp only[sA,sB,seval,g0,g3,g11,g12,hlt',db hc,hdv,hw,ia,m2,nY i om]
  refine⟨_,om,i+1,om,rfl,by trivial,by trivial,by trivial,rfl,?_,om,fun c hc=>(k2 c om).trans (k1 c hc)⟩
  rw[<- KE s hc om,Cd]
  exact r2
 obtain rfl:i=min s.length 32:=om
 simp only[sA,sB,seval,g0,g3,g11,g12,Int.lt_irrefl]
 have hl:=CJ s (i:=min s.length 32) om om
 have hp9:∀d∈CK s (min s.length 32),d<=9:=by
  intro d hdm
  rcases List.mem_append.1 hdm with h | h
  ·exact xW (s:=s.take (min s.length 32)) (fun c hc=>hd c (List.mem_of_mem_take hc)) d h
  ·have:=(List.mem_replicate.1 h).2; omega
 rw[<- HK s hd]
 generalize CK s (min s.length 32)=l at *
 refine cg (fun q (T:cD) H'=>∃k:Nat,k<=32/\q=32-k/\T 3=af b 32 0/\T 5=.int .i64 ((bits l 0 k).1:Int)/\T 22=.int .i64 (k:Int)/\a6 H' b (Gs (bits l 0 k).2)/\H'.next=b+1/\∀c,c<b->H'.get c=H.get c) 32
  ⟨0,Nat.zero_le _,rfl,by simp only[sA,sB,seval,g3],by simp only[sA,sB,seval]; try rfl,by simp only[sA,sB,seval]; try rfl,r1,n1,k1⟩ ?_
 clear g0 g3 g11 g12 r1 n1 k1 T H1
 rintro q T H1 ⟨k,hk,rfl,g3,g5,g22,r1,n1,k1⟩
 by_cases hlt:k<32
 ·have hlt':(k:Int)<32:=om
  have hb9:=Ah hp9 0 k
  have hbl:=oZ l 0 k
  rw[hl]at hbl
  have hbv:(bits l 0 k).1<2 ^ 32:=by
   have h1:=ub l 0 k
   have h2:=od hp9
   rw[Nat.zero_mul,Nat.zero_add,hl]at h1
   rw[hl]at h2
   have h3:2 ^ k<=2 ^ 32:=Nat.pow_le_pow_right om hk
   have h4:(bits l 0 k).1*10 ^ 32<2 ^ 32*10 ^ 32:=by
    calc (bits l 0 k).1*10 ^ 32<=2 ^ k*fQ l:=om
     _<=2 ^ 32*fQ l:=Nat.mul_le_mul_right _ h3
     _<2 ^ 32*10 ^ 32:=Nat.mul_lt_mul_of_pos_left h2 dD
   exact Nat.lt_of_mul_lt_mul_right h4
  simp only[sA,sB,seval,g3,g5,g22,hlt']
  have hbits:bits l 0 (k+1)=(2*(bits l 0 k).1+(lI (bits l 0 k).2).1,(lI (bits l 0 k).2).2):=rfl
  generalize hm:(bits l 0 k).2=m at *
  generalize hout:(bits l 0 k).1=out at *
  have hov:=tP hb9
  refine cg (fun q (T:cD) H'=>∃j:Nat,j<=32/\j=q/\T 3=af b 32 0/\T 5=.int .i64 (out:Int)/\T 22=.int .i64 (k:Int)/\T 6=.int .u8 ((lI (m.drop j)).1:Int)/\T 7=.int .i64 ((j:Int)-1)/\a6 H' b (Gs (qZ m j))/\H'.next=b+1/\∀c,c<b->H'.get c=H.get c) 32
   ⟨32,om,rfl,by simp only[sA,sB,seval,g3],by simp only[sA,sB,seval,g5],by simp only[sA,sB,seval,g22],by simp only[sA,sB,seval]; rw[List.drop_eq_nil_of_le om]; rfl,by simp only[sA,sB,seval]; try rfl,by rw[<- hbl,Ix]; exact r1,n1,k1⟩ ?_
  clear g3 g5 g22 r1 n1 k1 T H1
  rintro q T H1 ⟨j,hj,rfl,g3,g5,g22,g6,g7,r1,n1,k1⟩
  cases j with
  | zero=>
   have c0:¬(0:Int)<=((0:Nat):Int)-1:=om
   rw[List.drop_zero]at g6
   rw[FC]at r1
   have hsh:out*2 ^ 1<2 ^ 63:=om
   have e1:=Aj (k':=.u64) (a:=out) (b:=1) om hsh
   have e2:=Dt (a:=out*2 ^ 1) (b:=(lI m).1) hsh om
   rw[xy 1 out om]at e2
   have hw:IntKind.i64.wrap ((lI m).1:Int)=((lI m).1:Int):=dj om om
   simp only[Int.cast_ofNat_Int]at e1
   simp only[sA,sB,seval,g3,g5,g22,g6,g7,c0,e1,e2,hw,nY k om]
   refine⟨_,om,k+1,om,rfl,by trivial,?_,rfl,?_,n1,k1⟩
   ·rw[hbits]; simp only; congr 2; omega
   ·rw[hbits]; exact r1
  | succ j=>
   have c0:(0:Int)<=((j+1:Nat):Int)-1:=om
   have ej:((j+1:Nat):Int)-1=(j:Int):=om
   rw[ej]at g7 c0
   obtain⟨d,hdd⟩:=cx (l:=m) (i:=j) om
   have hd9:=hb9 d (SJ hdd)
   have ho:=tP (l:=m.drop (j+1)) fun x hx=>hb9 x (List.mem_of_mem_drop hx)
   have hset:=Iv hdd
   have hdr:lI (m.drop j)=((d*2+(lI (m.drop (j+1))).1) / 10,(d*2+(lI (m.drop (j+1))).1) % 10::(lI (m.drop (j+1))).2):=by rw[Dh hdd]; rfl
   generalize (lI (m.drop (j+1))).1=o at *
   have ia:=DJ (b:=b) (n:=32) (i:=j) om .i64
   have l1:=am r1 (n:=32) (by rw[wY,zL,hbl]) (Kb (Iw hdd))
   have w1:IntKind.u8.wrap ((d:Int)*2)=((d*2:Nat):Int):=by rw[gt om om]; omega
   have w2:IntKind.u8.wrap (((d*2:Nat):Int)+(o:Int))=((d*2+o:Nat):Int):=by rw[gt om om]; omega
   have e3:bv .rem (.int .u8 ((d*2+o:Nat):Int)) (.int .u8 10)=some (.int .u8 (((d*2+o) % 10:Nat):Int)):=by
    rw[pc _ _ _ om]; rfl
   have e4:bv .quo (.int .u8 ((d*2+o:Nat):Int)) (.int .u8 10)=some (.int .u8 (((d*2+o) / 10:Nat):Int)):=by
    rw[yc _ _ _ om]
    have:((d*2+o:Nat):Int).tdiv 10=(((d*2+o) / 10:Nat):Int):=rfl
    rw[this,gt om om]
   obtain⟨H2,m2,r2,n2,k2⟩:=cU r1 (n:=32) (by rw[wY,zL,hbl]) (i:=j) om (x:=.int .u8 (((d*2+o) % 10:Nat):Int)) rfl
   have hwj:IntKind.i64.wrap ((j:Int)-1)=(j:Int)-1:=dj om om
   simp only[sA,sB,seval,g3,g5,g22,g6,g7,c0,ia,l1,w1,w2,e3,e4,m2,hwj]
   refine⟨_,Nat.lt_succ_self j,j,om,rfl,by trivial,by trivial,by trivial,by rw[hdr],by trivial,?_,om,fun c hc=>(k2 c om).trans (k1 c hc)⟩
   rw[<- hset,Cd]
   exact r2
 obtain rfl:k=32:=om
 have hlast:=FX hp9 0
 rw[Nat.mul_zero,Nat.zero_add]at hlast
 rw[hlast]at g5
 simp only[sA,sB,seval,g3,g5,g22,Int.cast_ofNat_Int,Int.lt_irrefl]
 exact⟨by trivial,⟨om,fun c hc=>k1 c om⟩⟩
open Go.Abs Go.Abs.S
def vL(c:UInt8):Bool:=!decide (c.toNat=46)
def cM(s:Bs):Bs:=s.takeWhile vL
def behind(s:Bs):Bs:=(s.dropWhile vL).drop 1
def jn(s:Bs):Bool:=!(s.all vL)
theorem yo(s:Bs):(cM s).length<=s.length:=(List.takeWhile_sublist (p:=vL) (l:=s)).length_le
theorem sa(s:Bs):cM s=s.take (cM s).length:=by
 exact (List.prefix_iff_eq_take.1 (List.takeWhile_prefix vL (l:=s)))
theorem BH(s:Bs):s.drop (cM s).length=s.dropWhile vL:=by
 have h:cM s++s.dropWhile vL=s:=List.takeWhile_append_dropWhile (p:=vL) (l:=s)
 generalize hw:cM s=w at *
 conv=>lhs; rw[<- h]
 rw[List.drop_left]
theorem mG(s:Bs):behind s=s.drop ((cM s).length+1):=by
 rw[behind,<- BH,List.drop_drop]
theorem Iu{s:Bs}(h:jn s=true):(cM s).length<s.length:=by
 rcases Nat.lt_or_ge (cM s).length s.length with hl | hl
 ·exact hl
 ·have e:cM s=s:=by rw[sa s,List.take_of_length_le hl]
  have:s.all vL=true:=by rw[<- e]; exact List.all_takeWhile
  simp[jn,this]at h
theorem NQ(s:Bs)(n:Nat):yl 46 s n=if jn s then ((n+(cM s).length:Nat):Int) else -1:=by
 induction s generalizing n with
 | nil=>rfl
 | cons c r ih=>
  rw[yl]
  by_cases h:c.toNat=46
  ·have hc:c=46:=UInt8.toNat_inj.1 h
   subst hc
   simp[jn,vL,cM]
  ·have hc:¬c=46:=fun e=>h (by rw[e]; rfl)
   have hn:vL c=true:=by simp[vL,h]
   have e1:jn (c::r)=jn r:=by simp[jn,hn]
   have e2:(cM (c::r)).length=(cM r).length+1:=by rw[cM,List.takeWhile_cons_of_pos hn]; rfl
   have e3:Nat.beq c.toNat (UInt8.toNat 46)=false:=by
    cases hb:Nat.beq c.toNat (UInt8.toNat 46) with
    | false=>rfl
    | true=>exact absurd (SI hb) h
   rw[e1,e2,e3,cond_false,ih,show n+1+(cM r).length=n+((cM r).length+1) by omega]
theorem Mw{s:Bs}(h:jn s=false):cM s=s/\behind s=[]:=by
 have ha:s.all vL=true:=by simpa[jn] using h
 have hall:=List.all_eq_true.1 ha
 have e:cM s=s:=by
  rw[cM]
  have:=List.takeWhile_append_of_pos (p:=vL) (l₁:=s) (l₂:=[]) hall
  simpa using this
 exact⟨e,by rw[mG,e]; simp⟩
theorem Is(h76:aH.is 137=false){H:ae}{s:Bs}:az Tryz.prog aH 137 [.str s,.int .u8 46] H fun v H'=>v=.int .i64 (yl 46 s 0)/\H=H':=by
 refine aj h76 LY rfl ?_
 have e:gJ .ibs [.str s,.int .u8 46]=some (.int .i64 (yl 46 s 0)):=rfl
 simp only[Od,sA,sB,seval,e]
 exact⟨by trivial,by trivial⟩
theorem Br(h74:aH.is 134=false)(h76:aH.is 137=false){H:ae}{s:Bs}:az Tryz.prog aH 134 [.str s,.str [46]] H fun v H'=>v=.int .i64 (yl 46 s 0)/\H=H':=by
 refine aj h74 O6 rfl ?_
 have i0:lT (.str [46]) (.int .i64 0)=some (.int .u8 46):=rfl
 have hl1:((List.length [(46:UInt8)]:Nat):Int)=1:=rfl
 by_cases hs:[46]=s
 ·subst hs
  have e:yl 46 [46] 0=0:=rfl
  rw[e]
  simp only[Of,sA,sB,seval,hl1]
  exact⟨by trivial,by trivial⟩
 ·simp only[Of,sA,sB,seval,hl1,hs,i0]
  refine (Is h76).mono ?_
  rintro v _ ⟨rfl,rfl⟩
  simp only[sA,sB,seval]
  exact⟨by trivial,by trivial⟩
theorem I0(h34:aH.is 113=false)(h57:aH.is 135=false)(h74:aH.is 134=false)(h76:aH.is 137=false){H:ae}{s:Bs}(hs:s.length<=4611686018427387904) :
  az Tryz.prog aH 113 [.str s,.str [46]] H fun v H'=>v=.tuple [.str (cM s),.str (behind s),.bool (jn s)]/\H=H':=by
 refine aj h34 Pm rfl ?_
 simp only[Qp,sA,sB,seval]
 have key:az Tryz.prog aH 135 [.str s,.str [46]] H fun v H'=>v=.tuple [.str (cM s),.str (behind s),.bool (jn s)]/\H=H':=by
  refine aj h57 O5 rfl ?_
  simp only[Qc,sA,sB,seval]
  refine (Br h74 h76).mono ?_
  rintro v _ ⟨rfl,rfl⟩
  have hl1:((List.length [(46:UInt8)]:Nat):Int)=1:=rfl
  rw[NQ]
  cases hp:jn s with
  | true=>
   have hlt:=Iu hp
   have hge:(0:Int)<=((0+(cM s).length:Nat):Int):=om
   rw[Nat.zero_add]at *
   have e1:=rC (s:=s) (h:=(cM s).length) (yo s)
   have e2:=Co (s:=s) (l:=(cM s).length+1) om
   rw[<- sa]at e1
   rw[<- mG]at e2
   simp only[sA,sB,seval,hge,hl1,nY (cM s).length om,e1,e2]
   exact⟨by trivial,by trivial⟩
  | false=>
   obtain⟨e1,e2⟩:=Mw hp
   simp only[sA,sB,seval,e1,e2]
   exact⟨by trivial,by trivial⟩
 refine key.mono ?_
 rintro v _ ⟨rfl,rfl⟩
 simp only[eR,SL,SN,sA,sB,seval]
 exact⟨by trivial,by trivial⟩
open Go.Abs Go.Abs.S
def tD(s:Bs):Bool:=(match s with | []=>false | c::_=>gb c)&&decide (gW s 0=s.length)
def kx(s:Bs):Option Nat:=if tD s=true/\fR (cM s)<2147483648 then some (fR (cM s)*2 ^ 32+mK (nH (behind s))) else none
def Kn:Option Nat->aa
 | some n=>.tuple [.int .i64 (n:Int),.bool true]
 | none=>.tuple [.int .i64 0,.bool false]
theorem Di{c:UInt8}(h:gb c=true):vL c=true:=by
 simp[gb]at h; simp[vL]; omega
theorem Ev(s:Bs):(cM s).length=bX vL s 0:=by simp[bX,cM]
theorem HT{s:Bs}(h:tD s=true):(∀c∈cM s,gb c=true)/\∀c∈behind s,gb c=true:=by
 simp only[tD,SE,SP]at h
 obtain⟨h0,h1⟩:=h
 have hin:∀{a j:Nat} {c:UInt8},a<=j->j<bX gb s a->s[j]?=some c->gb c=true:=by
  intro a j c ha hj hc
  obtain⟨d,hd,hp⟩:=CE ha hj
  rw[hc]at hd; cases hd; exact hp
 have hle:=jd (p:=gb) (s:=s) (i:=0) (Nat.zero_le _)
 by_cases hd:s[bX gb s 0]?=some 46
 ·have hlt:=(SC.1 hd).1
  have hp0:bX gb s 0≠0:=by
   intro e
   cases s with
   | nil=>simp at hlt
   | cons c r=>
    simp only at h0
    rw[mn (c:=c) rfl h0]at e
    have:=ik gb (c::r) (0+1)
    omega
  have hw:(cM s).length=bX gb s 0:=by
   rw[Ev]
   rcases Nat.lt_trichotomy (bX vL s 0) (bX gb s 0) with hl | hl | hl
   ·obtain⟨c,hc⟩:=cx (l:=s) (i:=bX vL s 0) om
    have:=yQ hc
    rw[Di (hin (Nat.zero_le _) hl hc)]at this
    cases this
   ·exact hl
   ·obtain⟨c,hc,hp⟩:=CE (Nat.zero_le _) hl
    rw[hd]at hc; cases hc
    simp[vL]at hp
  unfold gW at h1
  rw[if_neg (by rintro (e | e); exact hp0 e; exact e hd)]at h1
  split at h1
  ·constructor
   ·intro c hc
    rw[sa,hw]at hc
    obtain⟨j,hj⟩:=List.mem_iff_getElem?.1 hc
    have hjl:=(SC.1 hj).1
    simp only[SZ]at hjl
    rw[List.getElem?_take_of_lt om]at hj
    exact hin (Nat.zero_le _) om hj
   ·intro c hc
    rw[mG,hw]at hc
    obtain⟨j,hj⟩:=List.mem_iff_getElem?.1 hc
    rw[List.getElem?_drop]at hj
    have hjl:=(SC.1 hj).1
    exact hin (a:=bX gb s 0+1) om om hj
  ·omega
 ·unfold gW at h1
  rw[if_pos (.inr hd)]at h1
  have hall:∀c∈s,gb c=true:=by
   intro c hc
   obtain⟨j,hj⟩:=List.mem_iff_getElem?.1 hc
   have hjl:=(SC.1 hj).1
   exact hin (Nat.zero_le _) om hj
  have hp:jn s=false:=by
   simp only[jn,Bool.not_eq_false']
   exact List.all_eq_true.2 fun c hc=>Di (hall c hc)
  obtain⟨e1,e2⟩:=Mw hp
  rw[e1,e2]
  exact⟨hall,by simp⟩
theorem yp(l:Bs)(i:Nat):fR (l.take i)<=fR l:=by
 have h:=FE (l.drop i) (fR (l.take i))
 have e:fR l=List.foldl (fun n c=>n*10+dv c) (fR (l.take i)) (l.drop i):=by
  unfold fR
  rw[<- List.foldl_append,List.take_append_drop]
 rw[e,h]
 have:fR (l.take i)*1<=fR (l.take i)*10 ^ (l.drop i).length:=Nat.mul_le_mul_left _ (Nat.pos_of_ne_zero (by simp))
 omega
theorem zA(h12:aH.is 65=false)(h22:aH.is 63=false)(h23:aH.is 64=false)(h25:aH.is 67=false)(h34:aH.is 113=false)(h35:aH.is 114=false)(h57:aH.is 135=false)(h74:aH.is 134=false)(h76:aH.is 137=false)
  {H:ae} {s:Bs} (hs:s.length<=4611686018427387904):az Tryz.prog aH 65 [.str s] H fun v H'=>v=Kn (kx s)/\cZ H.next H H':=by
 refine aj h12 Q9 rfl ?_
 cases s with
 | nil=>
  have e:kx []=none:=rfl
  rw[e]
  simp only[Sj,sA,sB,seval]
  exact⟨by trivial,cZ.refl _ _⟩
 | cons c r=>
  have i0:lT (.str (c::r)) (.int .i64 0)=some (Oh c):=db (s:=c::r) (i:=0) rfl .i64
  have hne:¬c::r=[]:=by simp
  simp only[Sj,sA,sB,seval,hne,i0]
  refine (iN h22 c H).mono ?_
  rintro v _ ⟨rfl,rfl⟩
  cases hd:gb c with
  | false=>
   have e:kx (c::r)=none:=by simp[kx,tD,hd]
   rw[e]
   simp only[sA,sB,seval]
   exact⟨by trivial,cZ.refl _ _⟩
  | true=>
  simp only[sA,sB,seval]
  refine (oG h23 h25 h22 (Nat.zero_le _) hs).mono ?_
  rintro v _ ⟨rfl,rfl⟩
  have hle:=xA (s:=c::r) (Nat.zero_le _)
  by_cases hn:gW (c::r) 0=(c::r).length
  ·have hnum:tD (c::r)=true:=by simp only[tD,hd,hn,decide_true,Bool.and_self]
   have hn':((gW (c::r) 0:Nat):Int)=((c::r).length:Int):=by rw[hn]
   generalize c::r=s at *
   obtain⟨hw,hb⟩:=HT hnum
   simp only[sA,sB,seval,hn']
   refine (I0 h34 h57 h74 h76 hs).mono ?_
   rintro v _ ⟨rfl,rfl⟩
   simp only[eR,SL,SN,sA,sB,seval]
   have hwl:=yo s
   have hbl:(behind s).length<=s.length:=by rw[mG]; simp
   have hsay:kx s=if fR (cM s)<2147483648 then some (fR (cM s)*2 ^ 32+mK (nH (behind s))) else none:=by simp[kx,hnum]
   rw[hsay]
   generalize cM s=w at *
   generalize behind s=t at *
   refine cg (fun q (T:cD) H'=>∃i:Nat,i<=w.length/\q=w.length-i/\T 4=.str w/\T 5=.str t/\T 7=.int .i64 (fR (w.take i):Int)/\fR (w.take i)<2147483648/\T 31=.int .i64 (w.length:Int)/\T 32=.int .i64 (i:Int)/\H=H') w.length
    ⟨0,Nat.zero_le _,rfl,rfl,rfl,rfl,by simp[fR],rfl,rfl,rfl⟩ ?_
   rintro q T _ ⟨i,hi,rfl,g4,g5,g7,hv,g31,g32,rfl⟩
   by_cases hlt:i<w.length
   ·have hlt':(i:Int)<(w.length:Int):=om
    obtain⟨c,hc⟩:=cx hlt
    have hdc:=hw c (SJ hc)
    have hdv:(c.toNat:Int)-48=((dv c:Nat):Int):=by simp[gb]at hdc; unfold dv; omega
    have hd9:dv c<=9:=by simp[gb]at hdc; unfold dv; omega
    have hw1:IntKind.u8.wrap ((dv c:Nat):Int)=((dv c:Nat):Int):=gt om om
    have hw2:IntKind.i64.wrap ((dv c:Nat):Int)=((dv c:Nat):Int):=dj om om
    have hw3:IntKind.i64.wrap ((fR (w.take i):Int)*10)=((fR (w.take i)*10:Nat):Int):=by rw[dj om om]; omega
    have hw4:IntKind.i64.wrap (((fR (w.take i)*10:Nat):Int)+((dv c:Nat):Int))=((fR (w.take (i+1)):Nat):Int):=by
     rw[dj om om,List.take_add_one,hc,Option.toList_some,GH]; omega
    simp only[sA,sB,seval,g4,g5,g7,g31,g32,hlt',db hc,hdv,hw1,hw2,hw3,hw4]
    by_cases hbig:fR (w.take (i+1))<2147483648
    ·have hbig':¬(2147483648:Int)<=((fR (w.take (i+1)):Nat):Int):=om
     simp only[sA,sB,seval,g4,g5,g7,g31,g32,hbig',nY i om]
     exact⟨_,om,i+1,om,rfl,by trivial,by trivial,rfl,hbig,by trivial,rfl,by trivial⟩
    ·have hbig':(2147483648:Int)<=((fR (w.take (i+1)):Nat):Int):=om
     have:=yp w (i+1)
     simp only[sA,sB,seval,g4,g5,g7,g31,g32,hbig']
     exact⟨by rw[if_neg om]; rfl,cZ.refl _ _⟩
   ·obtain rfl:i=w.length:=om
    rw[List.take_length]at g7 hv
    have e1:=Aj (k':=.u64) (a:=fR w) (b:=32) om om
    simp only[Int.cast_ofNat_Int]at e1
    simp only[sA,sB,seval,g4,g5,g7,g31,g32,Int.lt_irrefl,e1]
    refine (EX h35 hb om).mono ?_
    rintro v H' ⟨rfl,hx⟩
    have hf:=Ls (xW hb)
    have e2:=Dt (a:=fR w*2 ^ 32) (b:=mK (nH t)) om om
    rw[xy 32 _ hf]at e2
    simp only[sA,sB,seval,e2]
    exact⟨by rw[if_pos hv]; rfl,hx⟩
  ·have hn':¬((gW (c::r) 0:Nat):Int)=((c::r).length:Int):=om
   have e:kx (c::r)=none:=by simp only[kx,tD,hn,decide_false,Bool.and_false,SO,false_and,if_false]
   rw[e]
   simp only[sA,sB,seval,hn']
   exact⟨by trivial,cZ.refl _ _⟩
open Go.Abs Go.Abs.S
end Go.Proofs.Wo
namespace Go.Proofs.Wo
open Go.Abs Go.Abs.S
open Go.Abs Go.Abs.S
open Go.Abs Go.Abs.S
theorem Np(k:IntKind)(n:Int):LN .neg (.int k n)=some (.int k (k.wrap (0-n))):=by
 simp only[LN,mZ]
open Go.Abs Go.Abs.S
def uT(s:Bs):Bool:=decide (s=[108,101,116])||(decide (s=[115,101,116])||(decide (s=[105,102])||(decide (s=[101,108,115,101])||(decide (s=[119,104,105,108,101])||decide (s=[114,101,116,117,114,110])))))
theorem Ik(hN:aH.is 70=false)(s:Bs){H:ae}:az Tryz.prog aH 70 [.str s] H fun v H'=>v=.bool (uT s)/\H=H':=by
 refine aj hN Q4 rfl ?_
 unfold uT
 by_cases h1:s=[108,101,116]
 ·subst h1; simp only[MR,sA,sB,seval]; exact⟨by simp,by trivial⟩
 by_cases h2:s=[115,101,116]
 ·subst h2; simp only[MR,sA,sB,seval,h1]; exact⟨by simp,by trivial⟩
 by_cases h3:s=[105,102]
 ·subst h3; simp only[MR,sA,sB,seval,h1,h2]; exact⟨by simp,by trivial⟩
 by_cases h4:s=[101,108,115,101]
 ·subst h4; simp only[MR,sA,sB,seval,h1,h2,h3]; exact⟨by simp,by trivial⟩
 by_cases h5:s=[119,104,105,108,101]
 ·subst h5; simp only[MR,sA,sB,seval,h1,h2,h3,h4]; exact⟨by simp,by trivial⟩
 by_cases h6:s=[114,101,116,117,114,110]
 ·subst h6; simp only[MR,sA,sB,seval,h1,h2,h3,h4,h5]; exact⟨by simp,by trivial⟩
 simp only[MR,sA,sB,seval,h1,h2,h3,h4,h5,h6]
 exact⟨by simp,by trivial⟩
def xq(s t:Bs):Bool:=decide (s.take t.length=t)
theorem EV(h75:aH.is 136=false)(s t:Bs){H:ae}:az Tryz.prog aH 136 [.str s,.str t] H fun v H'=>v=.bool (xq s t)/\H=H':=by
 refine aj h75 O4 rfl ?_
 by_cases h:t.length<=s.length
 ·have h':(t.length:Int)<=(s.length:Int):=om
  simp only[Oe,sA,sB,seval,h',rC h]
  exact⟨by trivial,by trivial⟩
 ·have h':¬(t.length:Int)<=(s.length:Int):=om
  have e:xq s t=false:=by
   unfold xq
   rw[decide_eq_false]
   intro he
   have:=congrArg List.length he
   simp at this; omega
  simp only[Oe,sA,sB,seval,h',e]
  exact⟨by trivial,by trivial⟩
theorem HH(h51:aH.is 116=false)(h75:aH.is 136=false)(s t:Bs){H:ae}:az Tryz.prog aH 116 [.str s,.str t] H fun v H'=>v=.bool (xq s t)/\H=H':=by
 refine aj h51 Pj rfl ?_
 simp only[Qn,sA,sB,seval]
 have key:=EV h75 s t (H:=H)
 refine key.mono ?_
 rintro v _ ⟨rfl,rfl⟩
 simp only[sA,sB,seval]
 exact⟨by trivial,by trivial⟩
theorem FQ(s:Bs)(n:Nat):J0 10 s n=n+s.count 10:=by
 induction s generalizing n with
 | nil=>simp[J0]
 | cons c r ih=>
  rw[J0]
  by_cases h:c=10
  ·subst h
   have e:Nat.beq (UInt8.toNat 10) 10=true:=rfl
   rw[e,cond_true,ih]; simp; omega
  ·have e:Nat.beq c.toNat 10=false:=by
    cases hb:Nat.beq c.toNat 10 with
    | false=>rfl
    | true=>exact absurd (UInt8.toNat_inj.1 (SI hb)) h
   rw[e,cond_false,ih,List.count_cons_of_ne (by exact h)]
theorem BM(hN:aH.is 62=false)(s:Bs){H:ae}:az Tryz.prog aH 62 [.str s,.str [10]] H fun v H'=>v=.int .i64 (s.count 10:Int)/\H=H':=by
 refine aj hN Rf rfl ?_
 have hl1:((List.length [(10:UInt8)]:Nat):Int)=1:=rfl
 have i0:lT (.str [10]) (.int .i64 0)=some (.int .u8 10):=rfl
 have e:gJ .cbs [.str s,.int .u8 10]=some (.int .i64 (s.count 10:Int)):=by
  have:gJ .cbs [.str s,.int .u8 10]=some (.int .i64 (J0 10 s 0:Int)):=rfl
  rw[this,FQ,Nat.zero_add]
 simp only[c62,sA,sB,seval,hl1,i0,e]
 exact⟨by trivial,by trivial⟩
open Go.Abs Go.Abs.S
theorem C4(c:UInt8)(s:Bs)(n:Nat):(0<=yl c s n)↔c∈s:=by
 induction s generalizing n with
 | nil=>simp[yl]
 | cons b r ih=>
  rw[yl]
  by_cases h:b=c
  ·subst h
   have e:Nat.beq b.toNat b.toNat=true:=Nat.beq_refl _
   rw[e,cond_true]; simp
  ·have e:Nat.beq b.toNat c.toNat=false:=by
    cases hb:Nat.beq b.toNat c.toNat with
    | false=>rfl
    | true=>exact absurd (UInt8.toNat_inj.1 (SI hb)) h
   rw[e,cond_false,ih]
   rw[List.mem_cons]
   constructor
   ·exact .inr
   ·rintro (h' | h')
    ·exact absurd h'.symm h
    ·exact h'
theorem Im(h52:aH.is 117=false)(h76:aH.is 137=false)(s:Bs)(c:UInt8){H:ae}:az Tryz.prog aH 117 [.str s,Oh c] H fun v H'=>v=.int .i64 (yl c s 0)/\H=H':=by
 refine aj h52 Pi rfl ?_
 simp only[Qm,sA,sB,seval]
 have key:az Tryz.prog aH 137 [.str s,Oh c] H fun v H'=>v=.int .i64 (yl c s 0)/\H=H':=by
  refine aj h76 LY rfl ?_
  have e:gJ .ibs [.str s,Oh c]=some (.int .i64 (yl c s 0)):=by
   have:gJ .ibs [.str s,Oh c]=some (.int .i64 (yl c.toNat.toUInt8 s 0)):=rfl
   rw[this]
   congr 3
   exact UInt8.ofNat_toNat
  simp only[Od,sA,sB,seval,e]
  exact⟨by trivial,by trivial⟩
 refine key.mono ?_
 rintro v _ ⟨rfl,rfl⟩
 simp only[sA,sB,seval]
 exact⟨by trivial,by trivial⟩
def m0:List Bs:=[[38,38],[124,124],[61,61],[33,61],[60,61],[62,61]]
def y7:Bs:=[60,62,43,45,42,47,33,40,41,123,125,44,59,61]
def gh(s:Bs):Bs:=match m0.find? (xq s) with
 | some t=>t
 | none=>match s with
  | []=>[]
  | c::_=>if c∈y7 then [c] else []
theorem EO(h29:aH.is 71=false)(h51:aH.is 116=false)(h75:aH.is 136=false)(h52:aH.is 117=false)(h76:aH.is 137=false){s:Bs}{i:Nat}(hi:i<s.length){H:ae} :
  az Tryz.prog aH 71 [.str s,.int .i64 (i:Int)] H fun v H'=>v=.str (gh (s.drop i))/\H=H':=by
 refine aj h29 Q3 rfl ?_
 have e0:=Co (s:=s) (l:=i) om
 have b0:aL [.str [],.str [],.str [],.str [],.str [],.str []] [(0,1,.str [38,38]),(1,1,.str [124,124]),(2,1,.str [61,61]),(3,1,.str [33,61]),(4,1,.str [60,61]),(5,1,.str [62,61])]=some (.agg (m0.map .str)):=rfl
 obtain⟨c,hc⟩:=cx (l:=s) (i:=i) hi
 have hdr:=eY hc
 simp only[c71,sA,sB,seval,e0,b0]
 rw[hdr]
 generalize s.drop (i+1)=r at *
 refine cg (fun q (T:cD) H'=>∃k:Nat,k<=6/\q=6-k/\T 5=.str (c::r)/\T 11=.agg (m0.map .str)/\T 12=.int .i64 (k:Int)/\(m0.take k).find? (xq (c::r))=none/\H=H') 6 ⟨0,Nat.zero_le _,rfl,by simp only[sA,sB,seval],by simp only[sA,sB,seval],by simp only[sA,sB,seval]; try rfl,rfl,rfl⟩ ?_
 rintro q T _ ⟨k,hk,rfl,g5,g11,g12,hA,rfl⟩
 by_cases hlt:k<6
 ·have hlt':(k:Int)<6:=om
  obtain⟨t,ht⟩:=cx (l:=m0) (i:=k) hlt
  have ix:B6 6 1 false (.agg (m0.map .str)) (.int .i64 (k:Int))=some (.str t):=by
   have hk6:k=0∨k=1∨k=2∨k=3∨k=4∨k=5:=om
   rcases hk6 with rfl | rfl | rfl | rfl | rfl | rfl <;> (simp only[m0,SL,SN,sJ]at ht; subst ht; rfl)
  simp only[sA,sB,seval,g5,g11,g12,hlt',ix]
  refine (HH h51 h75 (c::r) t).mono ?_
  rintro v _ ⟨rfl,rfl⟩
  cases hp:xq (c::r) t with
  | true=>
   have hf:m0.find? (xq (c::r))=some t:=by
    have h1:(m0.take (k+1)).find? (xq (c::r))=some t:=by
     rw[List.take_add_one,ht,List.find?_append,hA]
     simp[hp]
    have h2:m0=m0.take (k+1)++m0.drop (k+1):=(List.take_append_drop _ _).symm
    rw[h2,List.find?_append,h1]; rfl
   simp only[sA,sB,seval,g5,g11,g12]
   exact⟨by rw[gh,hf],by trivial⟩
  | false=>
   simp only[sA,sB,seval,g5,g11,g12,nY k om]
   refine⟨_,om,k+1,om,rfl,by trivial,by trivial,rfl,?_,by trivial⟩
   rw[List.take_add_one,ht,List.find?_append,hA]
   simp[hp]
 ·obtain rfl:k=6:=om
  have hf:m0.find? (xq (c::r))=none:=hA
  have i0:lT (.str (c::r)) (.int .i64 0)=some (Oh c):=db (s:=c::r) (i:=0) rfl .i64
  have e1:fG (.str (c::r)) none (some (.int .i64 1))=some (.str [c]):=rC (s:=c::r) (h:=1) (by simp)
  simp only[sA,sB,seval,g5,g11,g12,Int.cast_ofNat_Int,Int.lt_irrefl,i0]
  refine (Im h52 h76 y7 c).mono ?_
  rintro v _ ⟨rfl,rfl⟩
  by_cases hm:c∈y7
  ·have h0:=(C4 c y7 0).2 hm
   simp only[sA,sB,seval,g5,g11,g12,h0,e1]
   exact⟨by rw[gh,hf]; simp[hm],by trivial⟩
  ·have h0:¬0<=yl c y7 0:=fun h=>hm ((C4 c y7 0).1 h)
   simp only[sA,sB,seval,g5,g11,g12,h0]
   exact⟨by rw[gh,hf]; simp[hm],by trivial⟩
open Go.Abs Go.Abs.S
end Go.Proofs.Wo
namespace Go.Proofs.Wo
open Go.Abs Go.Abs.S
structure Sw(N:gH):Prop where
 no:∀f,f≠115->N.is f=false
 yes:N.is 115=true
 clone:∀(s:Bs) (H:ae),s.length<=281474976710656->N.run 115 [.str s] H=some (.str s,H)
theorem tQ(hN:Sw aH){s:Bs}(hs:s.length<=281474976710656){H:ae}:az Tryz.prog aH 69 [.str s] H fun v H'=>v=.str s/\H=H':=by
 refine aj (hN.no _ dD) Q5 rfl ?_
 simp only[c69,sA,sB,seval]
 refine B2 hN.yes (hN.clone s H hs) ?_
 simp only[sA,sB,seval]
 exact⟨by trivial,by trivial⟩
def sub(s:Bs)(i e:Nat):Bs:=(s.drop i).take (e-i)
def lZ(k:Nat)(S:Bs)(n line at_ en:Nat):List aa:=[.int .u8 (k:Int),.str S,.int .i64 (n:Int),.int .i64 (line:Int),.int .i64 (at_:Int),.int .i64 (en:Int)]
def jS(e line:Nat):List aa:=[.int .i64 (e:Int),.int .i64 (line:Int)]
structure Tok where
 k:Nat
 S:Bs
 n:Nat
 e:Nat
def pQ(s:Bs)(i:Nat):Option Tok:=match s[i]? with
 | none=>none
 | some c=>
  if gb c=true then (match kx (sub s i (gW s i)) with | some n=>some ⟨1,[],n,gW s i⟩ | none=>none)
  else if beg c=true then some ⟨if uT (sub s i (bX nW s i))=true then 3 else 2,sub s i (bX nW s i),0,bX nW s i⟩
  else if gh (s.drop i)=[] then none else some ⟨4,gh (s.drop i),0,i+(gh (s.drop i)).length⟩
theorem HU{s:Bs}{i:Nat}{c:UInt8}(h:s[i]?=some c):i<gW s i↔gb c=true:=by
 cases hc:gb c with
 | false=>
  have h1:=CC h hc
  have:gW s i=i:=by rw[gW,h1,if_pos (.inl rfl)]
  rw[this]; simp
 | true=>
  have h1:=mn h hc
  have h2:=ik gb s (i+1)
  have h3:i<gW s i:=by
   unfold gW
   split
   ·omega
   ·split <;> omega
  simp[h3]
def pK:List Bs:=[[38,38],[124,124],[61,61],[33,61],[60,61],[62,61],[60],[62],[43],[45],[42],[47],[33],[40],[41],[123],[125],[44],[59],[61]]
theorem yN:pK=m0++y7.map (fun c=>[c]):=by decide
theorem sQ{c:UInt8}{r:Bs}:gh (c::r)=((pK.find? (xq (c::r))).getD []):=by
 rw[yN,List.find?_append,gh]
 cases m0.find? (xq (c::r)) with
 | some t=>rfl
 | none=>
  simp only[Option.none_or]
  have key:∀l:Bs,(if c∈l then [c] else [])=((l.map fun c=>[c]).find? (xq (c::r))).getD []:=by
   intro l
   induction l with
   | nil=>simp
   | cons d l ih=>
    have hp:xq (c::r) [d]=decide (c=d):=by simp[xq]
    rw[List.map_cons]
    by_cases h:c=d
    ·subst h
     rw[List.find?_cons_of_pos (by rw[hp]; simp)]
     simp
    ·rw[List.find?_cons_of_neg (by rw[hp]; simpa using h),<- ih]
     simp[h]
  exact key y7
theorem KA{s t:Bs}{i:Nat}(hi:i<=s.length):xq (s.drop i) t=(decide (i+t.length<=s.length)&&decide ((s.drop i).take t.length=t)):=by
 unfold xq
 by_cases h:i+t.length<=s.length
 ·simp[h]
 ·have:¬(s.drop i).take t.length=t:=by
   intro e
   have:=congrArg List.length e
   simp at this; omega
  simp[this]
theorem yO{s:Bs}{i:Nat}(hi:i<=s.length):i+(gh (s.drop i)).length<=s.length:=by
 rcases Nat.lt_or_ge i s.length with h | h
 ·obtain⟨c,hc⟩:=cx h
  rw[eY hc,sQ,<- eY hc]
  cases hf:pK.find? (xq (s.drop i)) with
  | none=>simpa using hi
  | some t=>
   have:=List.find?_some hf
   rw[KA hi]at this
   simp only[SE,SP]at this
   exact this.1
 ·rw[List.drop_eq_nil_of_le h]
  have:gh []=[]:=by decide
  rw[this]; simpa using hi
theorem jT(k:Nat)(S:Bs)(n line at_ en:Nat):(lZ k S n line at_ en).all aa.one=true:=rfl
theorem jU(k:Nat)(S:Bs)(n line at_ en:Nat):(lZ k S n line at_ en).length=6:=rfl
def ZW:List aa:=[.int .u8 0,.str [],.int .i64 0,.int .i64 0,.int .i64 0,.int .i64 0]
theorem oX:aL ZW []=some (.agg (lZ 0 [] 0 0 0 0)):=rfl
theorem Qs(i line:Nat):aL ZW [(4,1,.int .i64 (i:Int)),(5,1,.int .i64 (i:Int)),(3,1,.int .i64 (line:Int))]=some (.agg (lZ 0 [] 0 line i i)):=rfl
open Go.Abs Go.Abs.S
def fK(w f:List aa):aa:=.tuple [.agg w,.agg f]
def ky(s:Bs)(p:Int):aa:=
 if 16384<s.length then fK (lZ 0 [] 0 0 0 0) (jS 3 0)
 else if p<0∨(s.length:Int)<p then fK (lZ 0 [] 0 0 0 0) (jS 2 0)
 else if bM s p.toNat=s.length then fK (lZ 5 [] 0 (cq s (bM s p.toNat)) (bM s p.toNat) (bM s p.toNat)) (jS 0 0)
 else match pQ s (bM s p.toNat) with
  | some t=>fK (lZ t.k t.S t.n (cq s (bM s p.toNat)) (bM s p.toNat) t.e) (jS 0 0)
  | none=>fK (lZ 0 [] 0 0 0 0) (jS 100 (cq s (bM s p.toNat)))
theorem jB{H:ae}{b:Nat}{l m:List aa}(h6:a6 H b l)(hl:l.length=6)(h2:a6 H (b+1) m)(hm:m.length=2){xs ys:List aa}(hx:xs.length=6)(ox:xs.all aa.one=true)(hy:ys.length=2)(oy:ys.all aa.one=true) :
  ∃H1 H2,bu 6 H (af b 6 0) (.agg xs)=some H1/\bu 2 H1 (af (b+1) 2 0) (.agg ys)=some H2/\a6 H2 b xs/\a6 H2 (b+1) ys/\H2.next=H.next/\(∀c,c<b->H2.get c=H.get c)/\∀c,c≠b->H1.get c=H.get c:=by
 obtain⟨H1,m1,r1,n1,k1⟩:=ak h6 hl hx ox
 obtain⟨H2,m2,r2,n2,k2⟩:=ak (h2.same (k1 _ om)) hm hy oy
 exact⟨H1,H2,m1,m2,r1.same (k2 _ om),r2,om,fun c hc=>by rw[k2 c om,k1 c om],k1⟩
theorem j7(e l:Nat):(jS e l).all aa.one=true:=rfl
theorem j8(e l:Nat):(jS e l).length=2:=rfl
abbrev Z2:List aa:=[.int .i64 0,.int .i64 0]
theorem KS(H:ae):∃H1 H2,fS H ZW=(af H.next 6 0,H1)/\fS H1 [.int .i64 0,.int .i64 0]=(af (H.next+1) 2 0,H2)/\a6 H2 H.next ZW/\a6 H2 (H.next+1) Z2/\H2.next=H.next+2/\∀c,c<H.next->H2.get c=H.get c:=by
 obtain⟨H1,m1,r1,n1,k1⟩:=aw H ZW (n:=6) rfl
 obtain⟨H2,m2,r2,n2,k2⟩:=aw H1 Z2 (n:=2) rfl
 rw[n1]at m2 r2
 exact⟨H1,H2,m1,m2,r1.same (k2 _ om),r2,om,fun c hc=>by rw[k2 c om,k1 c om]⟩
open Go.Abs Go.Abs.S
theorem DX(a b:Int):aeq (.agg [.int .i64 a,.int .i64 b]) (.agg [.int .i64 a,.int .i64 b])=true:=by
 simp[aeq,aeqs,fD]
theorem vN(hN:Sw aH){s:Bs}{p:Int}(h1:-9223372036854775808<=p)(h2:p<=9223372036854775807){H:ae} :
  az Tryz.prog aH 32 [.str s,.int .i64 p] H fun v H'=>v=ky s p/\cZ H.next H H':=by
 refine aj (hN.no _ dD) Rz rfl ?_
 obtain⟨H1,H2,m1,m2,r6,r2,n2,k2⟩:=KS H
 have hz:([.int .u8 0,.str [],.int .i64 0,.int .i64 0,.int .i64 0,.int .i64 0]:List aa)=ZW:=rfl
 have g3:aL [.int .i64 0,.int .i64 0] [(0,1,.int .i64 3)]=some (.agg (jS 3 0)):=rfl
 have g2:aL [.int .i64 0,.int .i64 0] [(0,1,.int .i64 2)]=some (.agg (jS 2 0)):=rfl
 have g0:aL [.int .i64 0,.int .i64 0] []=some (.agg (jS 0 0)):=rfl
 have fini:∀(T:cD) (K:ae) (xs ys:List aa),T 4=af H.next 6 0->T 5=af (H.next+1) 2 0->a6 K H.next xs->a6 K (H.next+1) ys->xs.length=6->ys.length=2->fK xs ys=ky s p->cZ H.next H K ->
   eD [.cell true 6 4,.cell true 2 5] (fun v H'=>v=ky s p/\cZ H.next H H') .ret T K:=by
  intro T K xs ys t4 t5 q6 q2 lx ly he hE
  refine NZ _ _ _ _ _ _ _ (v:=.agg xs) (v':=.agg ys) (by rw[t4]; exact aA q6 lx) (by rw[t5]; exact aA q2 ly) ⟨he,hE⟩
 simp only[c32,sA,sB,seval,hz,m1,m2]
 by_cases a1:16384<s.length
 ·have a1':(16384:Int)<(s.length:Int):=om
  obtain⟨H3,H4,m3,m4,q6,q2,n4,k4,_⟩:=jB r6 rfl r2 rfl (jU 0 [] 0 0 0 0) (jT 0 [] 0 0 0 0) (j8 3 0) (j7 3 0)
  simp only[sA,sB,seval,a1',hz,oX,g3,m3,m4]
  refine fini _ _ _ _ (by simp only[sA,sB,seval]) (by simp only[sA,sB,seval]) q6 q2 rfl rfl (by rw[ky,if_pos a1]) ⟨om,fun c hc=>by rw[k4 c hc,k2 c hc]⟩
 have a1':¬(16384:Int)<(s.length:Int):=om
 by_cases a2:p<0
 ·obtain⟨H3,H4,m3,m4,q6,q2,n4,k4,_⟩:=jB r6 rfl r2 rfl (jU 0 [] 0 0 0 0) (jT 0 [] 0 0 0 0) (j8 2 0) (j7 2 0)
  simp only[sA,sB,seval,a1',a2,hz,oX,g2,m3,m4]
  refine fini _ _ _ _ (by simp only[sA,sB,seval]) (by simp only[sA,sB,seval]) q6 q2 rfl rfl (by rw[ky,if_neg a1,if_pos (.inl a2)]) ⟨om,fun c hc=>by rw[k4 c hc,k2 c hc]⟩
 by_cases a3:(s.length:Int)<p
 ·obtain⟨H3,H4,m3,m4,q6,q2,n4,k4,_⟩:=jB r6 rfl r2 rfl (jU 0 [] 0 0 0 0) (jT 0 [] 0 0 0 0) (j8 2 0) (j7 2 0)
  simp only[sA,sB,seval,a1',a2,a3,hz,oX,g2,m3,m4]
  refine fini _ _ _ _ (by simp only[sA,sB,seval]) (by simp only[sA,sB,seval]) q6 q2 rfl rfl (by rw[ky,if_neg a1,if_pos (.inr a3)]) ⟨om,fun c hc=>by rw[k4 c hc,k2 c hc]⟩
 obtain⟨i,rfl⟩:∃i:Nat,p=(i:Int):=⟨p.toNat,om⟩
 have hd:ky s (i:Int)=if bM s i=s.length then fK (lZ 5 [] 0 (cq s (bM s i)) (bM s i) (bM s i)) (jS 0 0) else match pQ s (bM s i) with
  | some t=>fK (lZ t.k t.S t.n (cq s (bM s i)) (bM s i) t.e) (jS 0 0)
  | none=>fK (lZ 0 [] 0 0 0 0) (jS 100 (cq s (bM s i))):=by
  rw[ky,if_neg a1,if_neg (by rintro (h | h); exact a2 h; exact a3 h),Int.toNat_natCast] <;> rfl
 simp only[sA,sB,seval,a1',a2,a3]
 refine (EM (hN.no _ dD) (hN.no _ dD) (hN.no _ dD) (hN.no _ dD) (i:=i) om om).mono ?_
 rintro v _ ⟨rfl,rfl⟩
 have hj1:=sO s i
 rw[hd]at fini
 rw[hd]
 generalize bM s i=j at *
 simp only[sA,sB,seval,rC hj1]
 refine (BM (hN.no _ dD) (s.take j)).mono ?_
 rintro v _ ⟨rfl,rfl⟩
 have hcl:(s.take j).count 10<=j:=by
  have:=List.count_le_length (a:=(10:UInt8)) (l:=s.take j)
  simp at this; omega
 have wl:IntKind.i64.wrap (1+((s.take j).count 10:Int))=(cq s j:Int):=by rw[dj om om]; unfold cq; omega
 obtain⟨H3,m3,q3,n3,k3⟩:=aw H2 ZW (n:=6) rfl
 obtain⟨H4,m4,q4,n4,k4⟩:=ak q3 (n:=6) rfl (jU 0 [] 0 (cq s j) j j) (jT 0 [] 0 (cq s j) j j)
 have l3:=am q4 (n:=6) rfl (i:=3) (x:=.int .i64 (cq s j:Int)) rfl
 obtain⟨H5,m5,q5,n5,k5⟩:=aw H4 Z2 (n:=2) rfl
 have gl:aL [.int .i64 0,.int .i64 0] [(0,1,.int .i64 100),(1,1,.int .i64 (cq s j:Int))]=some (.agg (jS 100 (cq s j))):=rfl
 obtain⟨H6,m6,q6,n6,k6⟩:=ak q5 (n:=2) rfl (j8 100 (cq s j)) (j7 100 (cq s j))
 simp only[sW,sL,jA,jc,pu,sB,seval,wl,hz,Qs,m3,m4,fld0,l3,gl,m5,m6]
 rw[gd]
 have b6:a6 H6 H2.next (lZ 0 [] 0 (cq s j) j j):=q4.same (by rw[k6 _ om,k5 _ om])
 have p6:a6 H6 H.next ZW:=r6.same (by rw[k6 _ om,k5 _ om,k4 _ om,k3 _ om])
 have p2:a6 H6 (H.next+1) Z2:=r2.same (by rw[k6 _ om,k5 _ om,k4 _ om,k3 _ om])
 have E6:cZ H.next H H6:=⟨om,fun c hc=>by rw[k6 c om,k5 c om,k4 c om,k3 c om,k2 c hc]⟩
 have hn4:H4.next=H2.next+1:=om
 have hn6:H6.next=H2.next+2:=om
 rw[hn4]at q6
 rw[hn4]
 generalize H2.next=b at *
 clear m1 m2 m3 m4 m5 m6 k3 k4 k5 k6 q3 q4 q5 r6 r2 k2 n3 n4 n5 n6 l3
 refine qg (fun (T:cD) H'=>T 4=af H.next 6 0/\T 5=af (H.next+1) 2 0/\T 6=af b 6 0/\cZ H.next H H'/\a6 H' H.next ZW/\a6 H' (H.next+1) Z2/\b<H'.next /\
   ∃(k:Nat) (S:Bs) (n e:Nat),a6 H' b (lZ k S n (cq s j) j e)/\fK (lZ k S n (cq s j) j e) (jS 0 0)=if j=s.length then fK (lZ 5 [] 0 (cq s j) j j) (jS 0 0) else match pQ s j with
    | some t=>fK (lZ t.k t.S t.n (cq s j) j t.e) (jS 0 0)
    | none=>fK (lZ 0 [] 0 0 0 0) (jS 100 (cq s j))) (dJ _ _) ?_ ?_
 rotate_left
 ·rintro T H7 ⟨t4,t5,t6,hE7,s6,s2,_,k,S,n,e,hr,he⟩
  obtain⟨H8,H9,m8,m9,u6,u2,n9,k9,_⟩:=jB s6 rfl s2 rfl (jU k S n (cq s j) j e) (jT k S n (cq s j) j e) (j8 0 0) (j7 0 0)
  simp only[sA,sB,seval,t4,t5,t6,aA hr (n:=6) rfl,g0,m8,m9]
  refine fini _ _ _ _ (by simp only[sA,sB,seval,t4]) (by simp only[sA,sB,seval,t5]) u6 u2 rfl rfl he ⟨by have:=hE7.next; omega,fun c hc=>by rw[k9 c hc,hE7.old c hc]⟩
 have hne:H.next+1<b:=om
 by_cases hj:j=s.length
 ·have hj':(j:Int)=(s.length:Int):=om
  obtain⟨H7,m7,q7,n7,k7⟩:=cU b6 (n:=6) rfl (i:=0) om (x:=.int .u8 5) rfl
  simp only[sA,sB,seval,hj',fld0,m7]
  refine⟨by trivial,by trivial,by trivial,⟨by have:=E6.next; omega,fun c hc=>by rw[k7 c om,E6.old c hc]⟩,p6.same (k7 _ om),p2.same (k7 _ om),om,5,[],0,j,q7,by rw[if_pos hj]⟩
 have hj':¬(j:Int)=(s.length:Int):=om
 obtain⟨c,hc⟩:=cx (l:=s) (i:=j) om
 have hone:pQ s j=if gb c=true then (match kx (sub s j (gW s j)) with | some n=>some ⟨1,[],n,gW s j⟩ | none=>none)
  else if beg c=true then some ⟨if uT (sub s j (bX nW s j))=true then 3 else 2,sub s j (bX nW s j),0,bX nW s j⟩
  else if gh (s.drop j)=[] then none else some ⟨4,gh (s.drop j),0,j+(gh (s.drop j)).length⟩:=by
  rw[pQ,hc] <;> rfl
 rw[if_neg hj]at fini
 rw[if_neg hj]
 simp only[sA,sB,seval,hj',db hc]
 refine (iN (hN.no _ dD) c _).mono ?_
 rintro v _ ⟨rfl,rfl⟩
 cases hdc:gb c with
 | true=>
  rw[if_pos hdc]at hone
  simp only[sA,sB,seval]
  refine (oG (hN.no _ dD) (hN.no _ dD) (hN.no _ dD) (i:=j) om om).mono ?_
  rintro v _ ⟨rfl,rfl⟩
  have hge:=KP s j
  have hle:=xA (s:=s) (i:=j) om
  have s1:fG (.str s) (some (.int .i64 (j:Int))) (some (.int .i64 (gW s j:Int)))=some (.str (sub s j (gW s j))):=Hk om om
  have hsub:(sub s j (gW s j)).length<=4611686018427387904:=by simp[sub]; omega
  generalize gW s j=e at *
  obtain⟨H7,m7,q7,n7,k7⟩:=cU b6 (n:=6) rfl (i:=5) om (x:=.int .i64 (e:Int)) rfl
  have e7:(lZ 0 [] 0 (cq s j) j j).set 5 (.int .i64 (e:Int))=lZ 0 [] 0 (cq s j) j e:=rfl
  rw[e7]at q7
  have l5:=am q7 (n:=6) rfl (i:=5) (x:=.int .i64 (e:Int)) rfl
  simp only[sA,sB,seval,fld0,m7,l5,s1]
  refine (zA (hN.no _ dD) (hN.no _ dD) (hN.no _ dD) (hN.no _ dD) (hN.no _ dD) (hN.no _ dD) (hN.no _ dD) (hN.no _ dD) (hN.no _ dD) hsub).mono ?_
  rintro v H8 ⟨rfl,hE8⟩
  have hb8:=hE8.next
  have b8:=q7.same (hE8.old b om)
  have p68:a6 H8 H.next ZW:=p6.same (by rw[hE8.old _ om,k7 _ om])
  have p28:a6 H8 (H.next+1) Z2:=p2.same (by rw[hE8.old _ om,k7 _ om])
  have f8:a6 H8 (b+1) (jS 100 (cq s j)):=q6.same (by rw[hE8.old _ om,k7 _ om])
  have E8:cZ H.next H H8:=⟨by have:=E6.next; omega,fun c hc=>by rw[hE8.old c (by have:=E6.next; omega),k7 c om,E6.old c hc]⟩
  clear l5 m7 q7
  cases hs:kx (sub s j e) with
  | none=>
   rw[hs]at hone
   rw[hone]at fini ⊢
   simp only[Kn,sA,sB,seval,bA,bx]
   obtain⟨H9,H10,m9,m10,u6,u2,n10,k10,k9⟩:=jB p68 rfl p28 rfl (jU 0 [] 0 0 0 0) (jT 0 [] 0 0 0 0) (j8 100 (cq s j)) (j7 100 (cq s j))
   refine cI rfl ?_
   have lf:=aA f8 (n:=2) rfl
   have f9:a6 H9 (b+1) (jS 100 (cq s j)):=f8.same (k9 _ om)
   have lf9:=aA f9 (n:=2) rfl
   simp only[sA,sB,seval,sR,hz,oX,lf,m9,m10]
   simp only[bG,bH,bg,bI,co,and_true,true_and,List.map_cons,List.map_nil,sA,sB,seval]
   refine⟨⟨_,rfl,fun _=>⟨_,lf9,DX _ _⟩⟩,?_⟩
   refine fini _ _ _ _ (by simp only[sA,sB,seval]) (by simp only[sA,sB,seval]) u6 u2 rfl rfl rfl ⟨by have:=E8.next; omega,fun c hc=>by rw[k10 c hc,E8.old c hc]⟩
  | some n=>
   rw[hs]at hone
   rw[hone]
   obtain⟨H9,m9,q9,n9,k9⟩:=cU b8 (n:=6) rfl (i:=0) om (x:=.int .u8 1) rfl
   obtain⟨H10,m10,q10,n10,k10⟩:=cU q9 (n:=6) rfl (i:=2) om (x:=.int .i64 (n:Int)) rfl
   simp only[Kn,sA,sB,seval,bA,bx,fld0,m9,m10]
   refine⟨by trivial,by trivial,by trivial,⟨by have:=E8.next; omega,fun c hc=>by rw[k10 c om,k9 c om,E8.old c hc]⟩,p68.same (by rw[k10 _ om,k9 _ om]),p28.same (by rw[k10 _ om,k9 _ om]),om,1,[],n,e,q10,rfl⟩
 | false=>
  rw[if_neg (by rw[hdc]; simp)]at hone
  simp only[sA,sB,seval,db hc]
  refine (qQ (hN.no _ dD) c _).mono ?_
  rintro v _ ⟨rfl,rfl⟩
  cases hbc:beg c with
  | true=>
   rw[if_pos hbc]at hone
   rw[hone]
   simp only[sA,sB,seval]
   refine (kS (hN.no _ dD) (Fl (hN.no _ dD) (hN.no _ dD) (hN.no _ dD)) (i:=j) om om).mono ?_
   rintro v _ ⟨rfl,rfl⟩
   have hje:=jd (p:=nW) (s:=s) (i:=j) om
   have hjg:=ik nW s j
   have s1:fG (.str s) (some (.int .i64 (j:Int))) (some (.int .i64 (bX nW s j:Int)))=some (.str (sub s j (bX nW s j))):=Hk hjg hje
   have hsub:(sub s j (bX nW s j)).length<=281474976710656:=by simp[sub]; omega
   generalize sub s j (bX nW s j)=S at *
   generalize bX nW s j=e at *
   obtain⟨H7,m7,q7,n7,k7⟩:=cU b6 (n:=6) rfl (i:=5) om (x:=.int .i64 (e:Int)) rfl
   have e7:(lZ 0 [] 0 (cq s j) j j).set 5 (.int .i64 (e:Int))=lZ 0 [] 0 (cq s j) j e:=rfl
   rw[e7]at q7
   have l5:=am q7 (n:=6) rfl (i:=5) (x:=.int .i64 (e:Int)) rfl
   simp only[sA,sB,seval,fld0,m7,l5,s1]
   refine (tQ hN hsub).mono ?_
   rintro v _ ⟨rfl,rfl⟩
   obtain⟨H8,m8,q8,n8,k8⟩:=cU q7 (n:=6) rfl (i:=0) om (x:=.int .u8 2) rfl
   obtain⟨H9,m9,q9,n9,k9⟩:=cU q8 (n:=6) rfl (i:=1) om (x:=.str S) rfl
   have e9:((lZ 0 [] 0 (cq s j) j e).set 0 (.int .u8 2)).set 1 (.str S)=lZ 2 S 0 (cq s j) j e:=rfl
   rw[e9]at q9
   have l1:=am q9 (n:=6) rfl (i:=1) (x:=.str S) rfl
   simp only[sA,sB,seval,fld0,m8,m9,l1]
   refine (Ik (hN.no _ dD) S).mono ?_
   rintro v _ ⟨rfl,rfl⟩
   have k79:∀c,c≠b->H9.get c=H6.get c:=fun c hc=>by rw[k9 c hc,k8 c hc,k7 c hc]
   cases hk:uT S with
   | true=>
    obtain⟨H10,m10,q10,n10,k10⟩:=cU q9 (n:=6) rfl (i:=0) om (x:=.int .u8 3) rfl
    simp only[sA,sB,seval,fld0,m10]
    refine⟨by trivial,by trivial,by trivial,⟨by have:=E6.next; omega,fun c hc=>by rw[k10 c om,k79 c om,E6.old c hc]⟩,p6.same (by rw[k10 _ om,k79 _ om]),p2.same (by rw[k10 _ om,k79 _ om]),om,3,S,0,e,q10,by simp⟩
   | false=>
    simp only[sA,sB,seval]
    refine⟨by trivial,by trivial,by trivial,⟨by have:=E6.next; omega,fun c hc=>by rw[k79 c om,E6.old c hc]⟩,p6.same (k79 _ om),p2.same (k79 _ om),om,2,S,0,e,q9,by simp⟩
  | false=>
   rw[if_neg (by rw[hbc]; simp)]at hone
   simp only[sA,sB,seval]
   refine (EO (hN.no _ dD) (hN.no _ dD) (hN.no _ dD) (hN.no _ dD) (hN.no _ dD) (i:=j) om).mono ?_
   rintro v _ ⟨rfl,rfl⟩
   have hsl:=yO (s:=s) (i:=j) om
   generalize gh (s.drop j)=S at *
   by_cases hS:S=[]
   ·rw[if_pos hS]at hone
    rw[hone]at fini ⊢
    simp only[sA,sB,seval,hS]
    obtain⟨H9,H10,m9,m10,u6,u2,n10,k10,k9⟩:=jB p6 rfl p2 rfl (jU 0 [] 0 0 0 0) (jT 0 [] 0 0 0 0) (j8 100 (cq s j)) (j7 100 (cq s j))
    refine cI rfl ?_
    have lf:=aA q6 (n:=2) rfl
    have f9:a6 H9 (b+1) (jS 100 (cq s j)):=q6.same (k9 _ om)
    have lf9:=aA f9 (n:=2) rfl
    simp only[sA,sB,seval,sR,hz,oX,lf,m9,m10]
    simp only[bG,bH,bg,bI,co,and_true,true_and,List.map_cons,List.map_nil,sA,sB,seval]
    refine⟨⟨_,rfl,fun _=>⟨_,lf9,DX _ _⟩⟩,?_⟩
    refine fini _ _ _ _ (by simp only[sA,sB,seval]) (by simp only[sA,sB,seval]) u6 u2 rfl rfl rfl ⟨by have:=E6.next; omega,fun c hc=>by rw[k10 c hc,E6.old c hc]⟩
   ·rw[if_neg hS]at hone
    rw[hone]
    simp only[sA,sB,seval,hS]
    refine (tQ hN (s:=S) om).mono ?_
    rintro v _ ⟨rfl,rfl⟩
    obtain⟨H7,m7,q7,n7,k7⟩:=cU b6 (n:=6) rfl (i:=0) om (x:=.int .u8 4) rfl
    obtain⟨H8,m8,q8,n8,k8⟩:=cU q7 (n:=6) rfl (i:=1) om (x:=.str S) rfl
    obtain⟨H9,m9,q9,n9,k9⟩:=cU q8 (n:=6) rfl (i:=5) om (x:=.int .i64 ((j+S.length:Nat):Int)) rfl
    have k79:∀c,c≠b->H9.get c=H6.get c:=fun c hc=>by rw[k9 c hc,k8 c hc,k7 c hc]
    simp only[sA,sB,seval,fld0,Pr j S.length om,m7,m8,m9]
    refine⟨by trivial,by trivial,by trivial,⟨by have:=E6.next; omega,fun c hc=>by rw[k79 c om,E6.old c hc]⟩,p6.same (k79 _ om),p2.same (k79 _ om),om,4,S,0,_,q9,rfl⟩
open Go.Abs Go.Abs.S
inductive Ex where
 | mk (k:Nat) (s:Bs) (n:Int) (kids:List Ex)
inductive St where
 | mk (k:Nat) (s:Bs) (e:Ex) (body els:List St) (line:Int)
abbrev Gy:=Nat×Nat
structure Wd where
 k:Nat
 S:Bs
 n:Nat
 line:Nat
 at_:Nat
 en:Nat
def fL(s:Bs)(p:Nat):Except Gy Wd:=
 if 16384<s.length then .error (3,0)
 else if s.length<p then .error (2,0)
 else if bM s p=s.length then .ok ⟨5,[],0,cq s (bM s p),bM s p,bM s p⟩
 else match pQ s (bM s p) with
  | some t=>.ok ⟨t.k,t.S,t.n,cq s (bM s p),bM s p,t.e⟩
  | none=>.error (100,cq s (bM s p))
abbrev gK(α:Type):=Except Gy (α×Wd)
def kM(w:Wd)(l:List Bs):Bool:=Nat.beq w.k 4&&l.contains w.S
def qY(w:Wd)(s:Bs):Bool:=Nat.beq w.k 3&&decide (w.S=s)
def dN(s:Bs)(w:Wd):Except Gy Wd:=fL s w.en
def eF(s:Bs)(c:Bs)(w:Wd):Except Gy Wd:=if kM w [c] then dN s w else .error (101,w.line)
def kZ{α:Type}(o:Except Gy Wd)(f:Wd->Option (gK α)):Option (gK α):=match o with
 | .error e=>some (.error e)
 | .ok w=>f w
def uF{α β:Type}(o:Option (gK α))(f:α->Wd->Option (gK β)):Option (gK β):=match o with
 | none=>none
 | some (.error e)=>some (.error e)
 | some (.ok (a,w))=>f a w
def cW{α:Type}(a:α)(w:Wd):Option (gK α):=some (.ok (a,w))
def qf{α:Type}(e:Nat)(w:Wd):Option (gK α):=some (.error (e,w.line))
def Ic:Nat->List Bs
 | 1=>[[42],[47]]
 | 2=>[[43],[45]]
 | 3=>[[61,61],[33,61],[60,61],[62,61],[60],[62]]
 | 4=>[[38,38]]
 | _=>[[124,124]]
inductive NT where
 | rule (k:Nat)
 | loop (k:Nat) (e:Ex)
 | prim
 | args (S:Bs) (out:List Ex)
def gO(s:Bs)(rec:NT->Nat->Wd->Option (gK Ex)):NT->Nat->Wd->Option (gK Ex)
 | .rule 0,g,w=>
  if 200<=g then qf 102 w
  else if kM w [[45],[33]] then kZ (dN s w) fun w1=>uF (rec (.rule 0) (g+1) w1) fun e w2=>cW (.mk 3 w.S 0 [e]) w2
  else rec .prim (g+1) w
 | .rule (k+1),g,w=>uF (rec (.rule k) g w) fun e w1=>rec (.loop (k+1) e) g w1
 | .loop k e,g,w=>
  if kM w (Ic k) then kZ (dN s w) fun w1=>uF (rec (.rule (k-1)) g w1) fun r w2=>
   if Nat.beq k 3 then cW (.mk 3 w.S 0 [e,r]) w2 else rec (.loop k (.mk 3 w.S 0 [e,r])) g w2
  else cW e w
 | .prim,g,w=>
  if w.k=1 then kZ (dN s w) fun w1=>cW (.mk 1 [] w.n []) w1
  else if w.k=2 then kZ (dN s w) fun w1=>
   if kM w1 [[40]] then kZ (dN s w1) fun w2=>
    if kM w2 [[41]] then kZ (dN s w2) fun w3=>cW (.mk 4 w.S 0 []) w3
    else rec (.args w.S []) g w2
   else cW (.mk 2 w.S 0 []) w1
  else if kM w [[40]] then kZ (dN s w) fun w1=>uF (rec (.rule 5) g w1) fun e w2=>kZ (eF s [41] w2) fun w3=>cW e w3
  else qf 101 w
 | .args S out,g,w=>uF (rec (.rule 5) g w) fun e w1=>
  if kM w1 [[44]] then kZ (dN s w1) fun w2=>rec (.args S (out++[e])) g w2
  else kZ (eF s [41] w1) fun w2=>cW (.mk 4 S 0 (out++[e])) w2
def pE(s:Bs):Nat->NT->Nat->Wd->Option (gK Ex)
 | 0=>fun _ _ _=>none
 | f+1=>gO s (pE s f)
inductive NS where
 | stmt
 | body
 | more (out:List St)
def lj(s:Bs)(pe:NT->Nat->Wd->Option (gK Ex))(k line g:Nat)(w:Wd):Option (gK (List St)):=
 if w.k=2 then kZ (dN s w) fun w1=>kZ (eF s [61] w1) fun w2=>uF (pe (.rule 5) g w2) fun e w3=>kZ (eF s [59] w3) fun w4=>cW [.mk k w.S e [] [] line] w4
 else qf 101 w
def lO(s:Bs)(pe:NT->Nat->Wd->Option (gK Ex))(rec:NS->Nat->Wd->Option (gK (List St)))(g:Nat)(w:Wd)(f:Ex->List St->Wd->Option (gK (List St))):Option (gK (List St)):=
 kZ (eF s [40] w) fun w1=>uF (pe (.rule 5) g w1) fun e w2=>kZ (eF s [41] w2) fun w3=>uF (rec .body g w3) fun l w4=>f e l w4
def kP(s:Bs)(pe:NT->Nat->Wd->Option (gK Ex))(rec:NS->Nat->Wd->Option (gK (List St))):NS->Nat->Wd->Option (gK (List St))
 | .stmt,g,w=>
  if 200<=g then qf 102 w
  else if qY w [108,101,116] then kZ (dN s w) fun w1=>lj s pe 1 w.line (g+1) w1
  else if qY w [115,101,116] then kZ (dN s w) fun w1=>lj s pe 2 w.line (g+1) w1
  else if qY w [105,102] then kZ (dN s w) fun w1=>lO s pe rec (g+1) w1 fun e l w2=>
   if qY w2 [101,108,115,101] then kZ (dN s w2) fun w3=>uF (rec .body (g+1) w3) fun m w4=>cW [.mk 3 [] e l m w.line] w4
   else cW [.mk 3 [] e l [] w.line] w2
  else if qY w [119,104,105,108,101] then kZ (dN s w) fun w1=>lO s pe rec (g+1) w1 fun e l w2=>cW [.mk 4 [] e l [] w.line] w2
  else if qY w [114,101,116,117,114,110] then kZ (dN s w) fun w1=>uF (pe (.rule 5) (g+1) w1) fun e w2=>kZ (eF s [59] w2) fun w3=>cW [.mk 5 [] e [] [] w.line] w3
  else qf 101 w
 | .body,g,w=>kZ (eF s [123] w) fun w1=>rec (.more []) g w1
 | .more out,g,w=>
  if kM w [[125]] then kZ (dN s w) fun w1=>cW out w1
  else uF (rec .stmt g w) fun x w1=>rec (.more (out++x)) g w1
def pS(s:Bs):Nat->NS->Nat->Wd->Option (gK (List St))
 | 0=>fun _ _ _=>none
 | f+1=>kP s (pE s f) (pS s f)
def qW(s:Bs):Nat->List St->Wd->Option (Except Gy (List St))
 | 0,_,_=>none
 | f+1,out,w=>if w.k=5 then some (.ok out) else match pS s f .stmt 0 w with
  | none=>none
  | some (.error e)=>some (.error e)
  | some (.ok (x,w1))=>qW s f (out++x) w1
theorem j2(s:Bs)(f:Nat):pE s (f+1)=gO s (pE s f):=rfl
theorem oB(s:Bs)(f:Nat):pS s (f+1)=kP s (pE s f) (pS s f):=rfl
mutual
def Ex.size:Ex->Nat
 | .mk _ _ _ kids=>bZ kids+1
def bZ:List Ex->Nat
 | []=>0
 | e::l=>e.size+bZ l
end
mutual
def Ex.deep:Ex->Nat
 | .mk _ _ _ kids=>bV kids+1
def bV:List Ex->Nat
 | []=>0
 | e::l=>max e.deep (bV l)
end
mutual
def St.size:St->Nat
 | .mk _ _ e body els _=>e.size+aS body+aS els+1
def aS:List St->Nat
 | []=>0
 | x::l=>x.size+aS l
end
mutual
def St.deep:St->Nat
 | .mk _ _ e body els _=>max e.deep (max (dR body) (dR els))+1
def dR:List St->Nat
 | []=>0
 | x::l=>max x.deep (dR l)
end
def eH(s:Bs):Bool:=match fL s 0 with
 | .ok w=>Nat.beq w.k 2&&decide (w.S=s)
 | .error _=>false
def uE(s:Bs)(n:Nat):Bool:=match n with
 | 1=>[[45],[33]].contains s
 | 2=>[[124,124],[38,38],[61,61],[33,61],[60,61],[62,61],[60],[62],[43],[45],[42],[47]].contains s
 | _=>false
def fj(k:Nat)(s:Bs)(n:Int)(kids:Nat):Bool:=
 if k=1 then decide (0<=n)&&(s.isEmpty&&Nat.beq kids 0)
 else if k=2 then decide (n=0)&&(eH s&&Nat.beq kids 0)
 else if k=3 then decide (n=0)&&uE s kids
 else if k=4 then decide (n=0)&&eH s
 else false
mutual
def qX:Ex->Bool
 | .mk k s n kids=>fj k s n kids.length&&gU kids
def gU:List Ex->Bool
 | []=>true
 | e::l=>qX e&&gU l
end
def cX(k:Nat)(s:Bs)(body els:Nat):Bool:=
 if k=1∨k=2 then eH s&&(Nat.beq body 0&&Nat.beq els 0)
 else if k=3 then s.isEmpty
 else if k=4 then s.isEmpty&&Nat.beq els 0
 else if k=5 then s.isEmpty&&(Nat.beq body 0&&Nat.beq els 0)
 else false
mutual
def Gu:St->Bool
 | .mk k s e body els _=>cX k s body.length els.length&&(qX e&&(eq body&&eq els))
def eq:List St->Bool
 | []=>true
 | x::l=>Gu x&&eq l
end
def tJ(l:List St):Bool:=decide (aS l<=1000)&&decide (dR l<=40)
def iD(l:List St):Bool:=eq l&&tJ l
def tH(s:Bs):Nat:=20*s.length+100
def gv(s:Bs):Except Gy (List St):=match fL s 0 with
 | .error e=>.error e
 | .ok w=>match qW s (tH s) [] w with
  | none=>.error (0,0)
  | some (.error e)=>.error e
  | some (.ok l)=>if tJ l then .ok l else .error (102,0)
open Go.Abs Go.Abs.S
theorem Kw{s:Bs}{j:Nat}(h:gh (s.drop j)≠[]):0<(gh (s.drop j)).length:=List.length_pos_iff.2 h
structure pm(s:Bs)(w:Wd):Prop where
 long:s.length<=16384
 en:w.en<=s.length
 key:w.k=3->uT w.S=true
 sig:w.k=4->w.S∈pK
theorem KN{s:Bs}{j:Nat}{t:Tok}(hj:j<=s.length)(h:pQ s j=some t):j<t.e/\t.e<=s.length/\t.k≠5/\(t.k=3->uT t.S=true)/\(t.k=4->t.S∈pK):=by
 unfold pQ at h
 cases hc:s[j]? with
 | none=>rw[hc]at h; simp at h
 | some c=>
  rw[hc]at h
  simp only at h
  have hlt:=(SC.1 hc).1
  by_cases hd:gb c=true
  ·rw[if_pos hd]at h
   cases hs:kx (sub s j (gW s j)) with
   | none=>rw[hs]at h; simp at h
   | some n=>
    rw[hs]at h
    simp only[sJ]at h
    subst h
    exact⟨(HU hc).2 hd,xA hj,by simp,by simp,by simp⟩
  ·rw[if_neg hd]at h
   by_cases hb:beg c=true
   ·rw[if_pos hb]at h
    simp only[sJ]at h
    subst h
    have hg:nW c=true:=by simp[nW,hb]
    have:=mn hc hg
    have h2:=ik nW s (j+1)
    refine⟨by simp only; omega,jd hj,?_,?_,?_⟩
    ·simp only; split <;> omega
    ·simp only; intro q; split at q
     ·assumption
     ·omega
    ·simp only; intro q; split at q <;> omega
   ·rw[if_neg hb]at h
    by_cases hs:gh (s.drop j)=[]
    ·rw[if_pos hs]at h; simp at h
    ·rw[if_neg hs]at h
     simp only[sJ]at h
     subst h
     have:=Kw hs
     refine⟨by simp only; omega,yO hj,by simp,by simp,fun _=>?_⟩
     simp only
     have hd':s.drop j=c::s.drop (j+1):=by
      rw[<- (SC.1 hc).2,<- List.drop_eq_getElem_cons hlt]
     rw[hd']at hs ⊢
     rw[sQ]at hs ⊢
     cases hf:pK.find? (xq (c::s.drop (j+1))) with
     | none=>rw[hf]at hs; simp at hs
     | some x=>simpa using List.mem_of_find?_eq_some hf
theorem oI{s:Bs}{p:Nat}{w:Wd}(h:fL s p=.ok w):pm s w/\p<=w.en/\(w.k≠5->p<w.en):=by
 unfold fL at h
 by_cases a1:16384<s.length
 ·rw[if_pos a1]at h; simp at h
 rw[if_neg a1]at h
 by_cases a2:s.length<p
 ·rw[if_pos a2]at h; simp at h
 rw[if_neg a2]at h
 have hp:=Ht (s:=s) (i:=p) om
 by_cases a3:bM s p=s.length
 ·rw[if_pos a3]at h
  simp only[Except.ok.injEq]at h
  subst h
  exact⟨⟨om,by simp only; omega,by simp,by simp⟩,by simp only; omega,by simp⟩
 rw[if_neg a3]at h
 cases ho:pQ s (bM s p) with
 | none=>rw[ho]at h; simp at h
 | some t=>
  rw[ho]at h
  simp only[Except.ok.injEq]at h
  subst h
  obtain⟨h1,h2,h3,h4,h5⟩:=KN (sO s p) ho
  exact⟨⟨om,h2,h4,h5⟩,by simp only; omega,fun _=>by simp only; omega⟩
def mW(s:Bs)(w:Wd):Nat:=if w.k=5 then 0 else s.length+1-w.en
theorem aW{s:Bs}{w w':Wd}(h:dN s w=.ok w')(hw:pm s w)(hk:w.k≠5):pm s w'/\mW s w'<mW s w:=by
 obtain⟨h1,h2,h3⟩:=oI h
 refine⟨h1,?_⟩
 have e1:=h1.en
 have e2:=hw.en
 unfold mW
 rw[if_neg hk]
 by_cases hk':w'.k=5
 ·rw[if_pos hk']; omega
 ·rw[if_neg hk']
  have:=h3 hk'
  omega
theorem iC{w:Wd}{l:List Bs}(h:kM w l=true):w.k=4:=by
 simp only[kM,SE]at h
 exact SI h.1
theorem kC{w:Wd}{s:Bs}(h:qY w s=true):w.k=3:=by
 simp only[qY,SE]at h
 exact SI h.1
theorem cY{s c:Bs}{w w':Wd}(h:eF s c w=.ok w')(hw:pm s w):kM w [c]=true/\dN s w=.ok w'/\pm s w'/\mW s w'<mW s w:=by
 unfold eF at h
 by_cases hs:kM w [c]=true
 ·rw[if_pos hs]at h
  have:=aW h hw (by rw[iC hs]; omega)
  exact⟨hs,h,this⟩
 ·rw[if_neg hs]at h; simp at h
def mM{α:Type}(s:Bs)(o:Option (gK α))(m:Nat):Prop:=∃r,o=some r/\∀a w',r=.ok (a,w')->pm s w'/\mW s w'<m
theorem mM.le{α:Type}{s:Bs}{o:Option (gK α)}{m m':Nat}(h:mM s o m)(hm:m<=m'):mM s o m':=by
 obtain⟨r,h1,h2⟩:=h
 exact⟨r,h1,fun a w' h=>⟨(h2 a w' h).1,by have:=(h2 a w' h).2; omega⟩⟩
theorem cV{α:Type}{s:Bs}{a:α}{w:Wd}{m:Nat}(hw:pm s w)(hm:mW s w<m):mM s (cW a w) m:=
 ⟨_,rfl,fun a' w' h=>by simp only[Except.ok.injEq,pJ]at h; rw[<- h.2]; exact⟨hw,hm⟩⟩
theorem lF{α:Type}{s:Bs}{e:Nat}{w:Wd}{m:Nat}:mM (α:=α) s (qf e w) m:=⟨_,rfl,fun a' w' h=>by simp at h⟩
theorem bP{α:Type}{s:Bs}{o:Except Gy Wd}{f:Wd->Option (gK α)}{m:Nat}(h:∀w',o=.ok w'->mM s (f w') m):mM s (kZ o f) m:=by
 cases o with
 | error e=>exact⟨_,rfl,fun a' w' h=>by simp at h⟩
 | ok w'=>exact h w' rfl
theorem eM{α β:Type}{s:Bs}{o:Option (gK α)}{f:α->Wd->Option (gK β)}{m k:Nat}(ho:mM s o k)(h:∀a w',pm s w'->mW s w'<k->mM s (f a w') m):mM s (uF o f) m:=by
 obtain⟨r,rfl,h2⟩:=ho
 cases r with
 | error e=>exact⟨_,rfl,fun a' w' h=>by simp at h⟩
 | ok p=>
  obtain⟨a,w'⟩:=p
  exact h a w' (h2 a w' rfl).1 (h2 a w' rfl).2
def AE:NT->Nat
 | .rule k=>k+2
 | .loop _ _=>0
 | .prim=>1
 | .args _ _=>8
def KO:NT->Prop
 | .rule k=>k<=5
 | .loop k _=>1<=k/\k<=5
 | _=>True
theorem MD(s:Bs):∀(f:Nat) (nt:NT) (g:Nat) (w:Wd),pm s w->KO nt->9*mW s w+AE nt<f->mM s (pE s f nt g w) (mW s w+(match nt with | .loop _ _=>1 | _=>0))
 | 0,_,_,_,_,_,h=>absurd h (Nat.not_lt_zero _)
 | f+1,nt,g,w,hw,hk,h=>by
  have ih:=MD s f
  rw[j2]
  cases nt with
  | rule k=>
   simp only[AE,KO,Nat.add_zero]at h hk ⊢
   cases k with
   | zero=>
    simp only[gO]
    by_cases g2:200<=g
    ·rw[if_pos g2]; exact lF
    rw[if_neg g2]
    by_cases hs:kM w [[45],[33]]=true
    ·rw[if_pos hs]
     refine bP fun w1 h1=>?_
     obtain⟨k1,k2⟩:=aW h1 hw (by rw[iC hs]; omega)
     refine eM (ih (.rule 0) (g+1) w1 k1 (by simp only[KO]; omega) (by simp only[AE]; omega)) fun e w2 l1 l2=>?_
     simp only[Nat.add_zero]at l2
     exact cV l1 om
    ·rw[if_neg hs]
     exact ih .prim (g+1) w hw trivial (by simp only[AE]; omega)
   | succ k=>
    simp only[gO]
    refine eM (ih (.rule k) g w hw (by simp only[KO]; omega) (by simp only[AE]; omega)) fun e w1 l1 l2=>?_
    simp only[Nat.add_zero]at l2
    exact (ih (.loop (k+1) e) g w1 l1 ⟨om,hk⟩ (by simp only[AE]; omega)).le (by simp only; omega)
  | loop k e=>
   simp only[AE,KO,Nat.add_zero]at h hk ⊢
   simp only[gO]
   by_cases hs:kM w (Ic k)=true
   ·rw[if_pos hs]
    refine bP fun w1 h1=>?_
    obtain⟨k1,k2⟩:=aW h1 hw (by rw[iC hs]; omega)
    refine eM (ih (.rule (k-1)) g w1 k1 (by simp only[KO]; omega) (by simp only[AE]; omega)) fun r w2 l1 l2=>?_
    simp only[Nat.add_zero]at l2
    cases hb:Nat.beq k 3 with
    | true=>exact cV l1 om
    | false=>exact (ih (.loop k _) g w2 l1 hk (by simp only[AE]; omega)).le (by simp only; omega)
   ·rw[if_neg hs]
    exact cV hw om
  | prim=>
   simp only[AE,Nat.add_zero]at h ⊢
   simp only[gO]
   by_cases c1:w.k=1
   ·rw[if_pos c1]
    refine bP fun w1 h1=>?_
    obtain⟨k1,k2⟩:=aW h1 hw om
    exact cV k1 om
   rw[if_neg c1]
   by_cases c2:w.k=2
   ·rw[if_pos c2]
    refine bP fun w1 h1=>?_
    obtain⟨k1,k2⟩:=aW h1 hw om
    by_cases hs:kM w1 [[40]]=true
    ·rw[if_pos hs]
     refine bP fun w2 h2=>?_
     obtain⟨k3,k4⟩:=aW h2 k1 (by rw[iC hs]; omega)
     by_cases hs2:kM w2 [[41]]=true
     ·rw[if_pos hs2]
      refine bP fun w3 h3=>?_
      obtain⟨k5,k6⟩:=aW h3 k3 (by rw[iC hs2]; omega)
      exact cV k5 om
     ·rw[if_neg hs2]
      exact (ih (.args _ _) g w2 k3 trivial (by simp only[AE]; omega)).le (by simp only; omega)
    ·rw[if_neg hs]
     exact cV k1 om
   rw[if_neg c2]
   by_cases hs:kM w [[40]]=true
   ·rw[if_pos hs]
    refine bP fun w1 h1=>?_
    obtain⟨k1,k2⟩:=aW h1 hw (by rw[iC hs]; omega)
    refine eM (ih (.rule 5) g w1 k1 (by simp only[KO]; omega) (by simp only[AE]; omega)) fun e w2 l1 l2=>?_
    simp only[Nat.add_zero]at l2
    refine bP fun w3 h3=>?_
    obtain⟨_,_,k5,k6⟩:=cY h3 l1
    exact cV k5 om
   ·rw[if_neg hs]; exact lF
  | args S out=>
   simp only[AE,Nat.add_zero]at h ⊢
   simp only[gO]
   refine eM (ih (.rule 5) g w hw (by simp only[KO]; omega) (by simp only[AE]; omega)) fun e w1 l1 l2=>?_
   simp only[Nat.add_zero]at l2
   by_cases hs:kM w1 [[44]]=true
   ·rw[if_pos hs]
    refine bP fun w2 h2=>?_
    obtain⟨k3,k4⟩:=aW h2 l1 (by rw[iC hs]; omega)
    exact (ih (.args _ _) g w2 k3 trivial (by simp only[AE]; omega)).le (by simp only; omega)
   ·rw[if_neg hs]
    refine bP fun w2 h2=>?_
    obtain⟨_,_,k5,k6⟩:=cY h2 l1
    exact cV k5 om
def JW:NS->Nat
 | .stmt=>0
 | .body=>0
 | .more _=>1
theorem MC(s:Bs):∀(f:Nat) (nt:NS) (g:Nat) (w:Wd),pm s w->9*mW s w+JW nt+2<f->mM s (pS s f nt g w) (mW s w)
 | 0,_,_,_,_,h=>absurd h (Nat.not_lt_zero _)
 | f+1,nt,g,w,hw,h=>by
  have ih:=MC s f
  have ihE:=MD s f
  rw[oB]
  have pe:∀g w1,pm s w1->mW s w1<mW s w->mM s (pE s f (.rule 5) g w1) (mW s w):=fun g w1 h1 h2=>(ihE (.rule 5) g w1 h1 (by simp only[KO]; omega) (by simp only[AE]; omega)).le (by simp only; omega)
  have named:∀k line g w1,pm s w1->mW s w1<mW s w->mM s (lj s (pE s f) k line g w1) (mW s w):=by
   intro k line g w1 k1 k2
   unfold lj
   by_cases c:w1.k=2
   ·rw[if_pos c]
    refine bP fun w2 h2=>?_
    obtain⟨k3,k4⟩:=aW h2 k1 om
    refine bP fun w3 h3=>?_
    obtain⟨_,_,k5,k6⟩:=cY h3 k3
    refine eM (pe g w3 k5 om) fun e w4 l1 l2=>?_
    refine bP fun w5 h5=>?_
    obtain⟨_,_,k7,k8⟩:=cY h5 l1
    exact cV k7 om
   ·rw[if_neg c]; exact lF
  have asked:∀g w1 F,pm s w1->mW s w1<mW s w->(∀e l w4,pm s w4->mW s w4<mW s w->mM s (F e l w4) (mW s w))->mM s (lO s (pE s f) (pS s f) g w1 F) (mW s w):=by
   intro g w1 F k1 k2 hF
   unfold lO
   refine bP fun w2 h2=>?_
   obtain⟨_,_,k3,k4⟩:=cY h2 k1
   refine eM (pe g w2 k3 om) fun e w3 l1 l2=>?_
   refine bP fun w4 h4=>?_
   obtain⟨_,_,k5,k6⟩:=cY h4 l1
   refine eM (ih .body g w4 k5 (by simp only[JW]; omega)) fun l w5 m1 m2=>?_
   exact hF e l w5 m1 om
  cases nt with
  | stmt=>
   simp only[JW]at h
   simp only[kP]
   by_cases g2:200<=g
   ·rw[if_pos g2]; exact lF
   rw[if_neg g2]
   by_cases c1:qY w [108,101,116]=true
   ·rw[if_pos c1]
    refine bP fun w1 h1=>?_
    obtain⟨k1,k2⟩:=aW h1 hw (by rw[kC c1]; omega)
    exact named _ _ _ w1 k1 k2
   rw[if_neg c1]
   by_cases c2:qY w [115,101,116]=true
   ·rw[if_pos c2]
    refine bP fun w1 h1=>?_
    obtain⟨k1,k2⟩:=aW h1 hw (by rw[kC c2]; omega)
    exact named _ _ _ w1 k1 k2
   rw[if_neg c2]
   by_cases c3:qY w [105,102]=true
   ·rw[if_pos c3]
    refine bP fun w1 h1=>?_
    obtain⟨k1,k2⟩:=aW h1 hw (by rw[kC c3]; omega)
    refine asked _ w1 _ k1 k2 fun e l w2 l1 l2=>?_
    by_cases c:qY w2 [101,108,115,101]=true
    ·rw[if_pos c]
     refine bP fun w3 h3=>?_
     obtain⟨k3,k4⟩:=aW h3 l1 (by rw[kC c]; omega)
     refine eM (ih .body _ w3 k3 (by simp only[JW]; omega)) fun m w4 m1 m2=>?_
     exact cV m1 om
    ·rw[if_neg c]
     exact cV l1 om
   rw[if_neg c3]
   by_cases c4:qY w [119,104,105,108,101]=true
   ·rw[if_pos c4]
    refine bP fun w1 h1=>?_
    obtain⟨k1,k2⟩:=aW h1 hw (by rw[kC c4]; omega)
    exact asked _ w1 _ k1 k2 fun e l w2 l1 l2=>cV l1 om
   rw[if_neg c4]
   by_cases c5:qY w [114,101,116,117,114,110]=true
   ·rw[if_pos c5]
    refine bP fun w1 h1=>?_
    obtain⟨k1,k2⟩:=aW h1 hw (by rw[kC c5]; omega)
    refine eM (pe _ w1 k1 k2) fun e w2 l1 l2=>?_
    refine bP fun w3 h3=>?_
    obtain⟨_,_,k5,k6⟩:=cY h3 l1
    exact cV k5 om
   rw[if_neg c5]; exact lF
  | body=>
   simp only[JW]at h
   simp only[kP]
   refine bP fun w1 h1=>?_
   obtain⟨_,_,k1,k2⟩:=cY h1 hw
   exact (ih (.more []) g w1 k1 (by simp only[JW]; omega)).le om
  | more out=>
   simp only[JW]at h
   simp only[kP]
   by_cases c:kM w [[125]]=true
   ·rw[if_pos c]
    refine bP fun w1 h1=>?_
    obtain⟨k1,k2⟩:=aW h1 hw (by rw[iC c]; omega)
    exact cV k1 om
   ·rw[if_neg c]
    refine eM (ih .stmt g w hw (by simp only[JW]; omega)) fun x w1 l1 l2=>?_
    exact (ih (.more _) g w1 l1 (by simp only[JW]; omega)).le om
theorem C8(s:Bs):∀(f:Nat) (out:List St) (w:Wd),pm s w->10*mW s w+4<f->∃r,qW s f out w=some r
 | 0,_,_,_,h=>absurd h (Nat.not_lt_zero _)
 | f+1,out,w,hw,h=>by
  unfold qW
  by_cases c:w.k=5
  ·rw[if_pos c]; exact⟨_,rfl⟩
  rw[if_neg c]
  obtain⟨r,h1,h2⟩:=MC s f .stmt 0 w hw (by simp only[JW]; omega)
  rw[h1]
  cases r with
  | error e=>exact⟨_,rfl⟩
  | ok p=>
   obtain⟨x,w1⟩:=p
   obtain⟨l1,l2⟩:=h2 x w1 rfl
   exact C8 s f (out++x) w1 l1 om
theorem IA{s:Bs}{w:Wd}(h:fL s 0=.ok w):∃r,qW s (tH s) [] w=some r:=by
 obtain⟨h1,_,_⟩:=oI h
 refine C8 s _ [] w h1 ?_
 have:mW s w<=s.length+1:=by unfold mW; split <;> omega
 unfold tH
 omega
end Go.Proofs.Wo
