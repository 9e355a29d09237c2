/- Part of a proof (YC1 YN0 W0 W1 YW2 YW3 YW4 YW5 YW6 YW7 YW8 YW9); no condition. -/
import Derived.Test.YteabnpheoiakdaaGreatDoorProg
import Derived.KernelRfl
import Derived.Test.YteabnpheoiakdaaGreatDoorP8
set_option linter.unusedSimpArgs false
set_option linter.unusedVariables false
set_option linter.unnecessarySimpa false
namespace Go.Proofs.Wo
open Go.Abs Go.Abs.S
noncomputable section
def c62:AFn:=⟨110,zq [zo 4 (.new [zU 0,.str [],zI 0,zI 0,zI 0,zI 0]),zo 5 (.new [zI 0,zI 0])] (zr [zm 11 0,zo 12 (.len true (.t 11)),zk 13 .gtr 12 16384] 13 (zq [zo 14 (.build [zU 0,.str [],zI 0,zI 0,zI 0,zI 0] []),zo 15 (.build [zI 0,zI 0] [(0,1,zi 3)]),zp (.store 6 (.t 4) (.t 14)),zp (.store 2 (.t 5) (.t 15))] .ret) .skip (zr [zm 16 1,zk 17 .lss 16 0,zm 18 17,zg 19 (.mv (.t 1)) 18 false,zg 20 (.mv (.t 0)) 18 false,zg 21 (.len true (.t 20)) 18 false,zg 22 (.bin .gtr (.t 19) (.t 21)) 18 false,zo 23 (.pick (.t 18) (.c (.bool true)) (.t 22))] 23 (zq [zo 24 (.build [zU 0,.str [],zI 0,zI 0,zI 0,zI 0] []),zo 25 (.build [zI 0,zI 0] [(0,1,zi 2)]),zp (.store 6 (.t 4) (.t 24)),zp (.store 2 (.t 5) (.t 25))] .ret) .skip (zq [zm 26 0,zm 27 1,zx 28 101 [.t 26,.t 27],zm 1 28] (zq [zm 29 1,zm 30 1,zm 31 0,zm 32 1,zo 33 (.slStr (.t 31) none (some (.t 32))),zx 34 102 [.t 33,.c (.str [10])],zo 35 (.bin .add (zi 1) (.t 34)),zo 36 (.build [zU 0,.str [],zI 0,zI 0,zI 0,zI 0] [(4,1,.t 29),(5,1,.t 30),(3,1,.t 35)]),zo 6 (.new [zU 0,.str [],zI 0,zI 0,zI 0,zI 0]),zp (.store 6 (.t 6) (.t 36))] (zq [zf 37 3 6,zl 38 37,zo 39 (.build [zI 0,zI 0] [(0,1,zi 100),(1,1,.t 38)]),zo 7 (.new [zI 0,zI 0]),zp (.store 2 (.t 7) (.t 39))] (.seq (.block 0 (zq [zm 57 1,zm 58 0,zo 59 (.len true (.t 58)),zb 60 .eql 57 59,zm 56 60] (.cond (.t 56) (.reg [zf 61 0 6,zp (.store 1 (.t 61) (zu 5))]) (zq [zm 63 0,zm 64 1,zo 65 (.idxS (.t 63) (.t 64)),zx 66 103 [.t 65],zm 62 66] (.cond (.t 62) (zq [zm 67 0,zm 68 1,zx 69 104 [.t 67,.t 68],zf 70 5 6,zs 70 69] (zq [zm 72 0,zm 73 1,zf 74 5 6,zl 75 74,zo 76 (.slStr (.t 72) (some (.t 73)) (some (.t 75))),zx 77 105 [.t 76],zm 71 77,ze 78 0 71,ze 79 1 71,zm 8 78,zm 9 79] (zr [zm 80 9,zo 81 (.un .not (.t 80))] 81 (.seq (.draw [zo 82 (.build [zU 0,.str [],zI 0,zI 0,zI 0,zI 0] []),zt 83 2 7,zp (.store 6 (.t 4) (.t 82)),zp (.store 2 (.t 5) (.t 83))] [[],[3],[],[]]) .ret) .skip (.reg [zm 84 8,zf 85 0 6,zp (.store 1 (.t 85) (zu 1)),zf 86 2 6,zs 86 84])))) (zq [zm 88 0,zm 89 1,zo 90 (.idxS (.t 88) (.t 89)),zx 91 106 [.t 90],zm 87 91] (.cond (.t 87) (zq [zm 92 0,zm 93 1,zx 94 107 [.t 92,.t 93,.f 108],zf 95 5 6,zs 95 94] (zq [zm 96 0,zm 97 1,zf 98 5 6,zl 99 98,zo 100 (.slStr (.t 96) (some (.t 97)) (some (.t 99))),zx 101 109 [.t 100],zf 102 0 6,zp (.store 1 (.t 102) (zu 2)),zf 103 1 6,zs 103 101] (zq [zf 104 1 6,zl 105 104,zx 106 110 [.t 105]] (.cond (.t 106) (.reg [zf 107 0 6,zp (.store 1 (.t 107) (zu 3))]) .skip)))) (zq [zm 40 0,zm 41 1,zx 42 111 [.t 40,.t 41],zm 10 42] (zr [zm 43 10,zo 44 (.bin .eql (.t 43) (.c (.str [])))] 44 (.seq (.draw [zo 45 (.build [zU 0,.str [],zI 0,zI 0,zI 0,zI 0] []),zt 46 2 7,zp (.store 6 (.t 4) (.t 45)),zp (.store 2 (.t 5) (.t 46))] [[],[3],[],[]]) .ret) .skip (.reg [zm 47 10,zx 48 109 [.t 47],zm 49 1,zm 50 10,zo 51 (.len true (.t 50)),zb 52 .add 49 51,zf 53 0 6,zp (.store 1 (.t 53) (zu 4)),zf 54 1 6,zs 54 48,zf 55 5 6,zs 55 52])))))))))) (zq [zt 108 6 6,zo 109 (.build [zI 0,zI 0] []),zp (.store 6 (.t 4) (.t 108)),zp (.store 2 (.t 5) (.t 109))] .ret))))))),[.cell true 6 4,.cell true 2 5]⟩
theorem za62:cN Tryz.prog 62=some c62:=by kernel_rfl
def c101:AFn:=⟨22,zq [zo 4 (.mv (zi 0))] (.block 0 (.loop (.block 1 (zq [zm 5 0,zm 6 1,zx 7 107 [.t 5,.t 6,.f 146],zm 1 7] (zr [zm 8 1,zm 9 0,zo 10 (.len true (.t 9)),zb 11 .eql 8 10,zm 12 11,zg 13 (.mv (.t 0)) 12 false,zg 14 (.mv (.t 1)) 12 false,zg 15 (.idxS (.t 13) (.t 14)) 12 false,zg 16 (.bin .neq (.t 15) (zu 35)) 12 false,zo 17 (.pick (.t 12) (.c (.bool true)) (.t 16))] 17 (zq [zm 18 1,zm 4 18] .ret) .skip (.reg [zm 19 0,zm 20 1,zx 21 107 [.t 19,.t 20,.f 147],zm 1 21])))))),[.t 4]⟩
theorem za101:cN Tryz.prog 101=some c101:=by kernel_rfl
def c107:AFn:=⟨21,zq [zo 6 (.mv (zi 0))] (.seq (.block 0 (.loop (zr [zm 7 1,zm 8 0,zo 9 (.len true (.t 8)),zb 10 .lss 7 9,zm 11 10,zg 12 (.mv (.t 2)) 11 true,zg 13 (.mv (.t 0)) 11 true,zg 14 (.mv (.t 1)) 11 true,zg 15 (.idxS (.t 13) (.t 14)) 11 true,zg 16 (.callv (.t 12) [.t 15]) 11 true,zo 17 (.pick (.t 11) (.t 16) (.c (.bool false)))] 17 .skip (.exit 0) (.block 1 (.reg [zm 18 1,zk 19 .add 18 1,zm 1 19]))))) (zq [zm 20 1,zm 6 20] .ret)),[.t 6]⟩
theorem za107:cN Tryz.prog 107=some c107:=by kernel_rfl
def c146:AFn:=⟨17,zq [zo 2 (.mv (.c (.bool false)))] (zq [zm 3 0,zo 4 (.bin .eql (.t 3) (zu 9)),zm 5 4,zg 6 (.mv (.t 0)) 5 false,zg 7 (.bin .eql (.t 6) (zu 10)) 5 false,zo 8 (.pick (.t 5) (.c (.bool true)) (.t 7)),zm 9 8,zg 10 (.mv (.t 0)) 9 false,zg 11 (.bin .eql (.t 10) (zu 13)) 9 false,zo 12 (.pick (.t 9) (.c (.bool true)) (.t 11)),zm 13 12,zg 14 (.mv (.t 0)) 13 false,zg 15 (.bin .eql (.t 14) (zu 32)) 13 false,zo 16 (.pick (.t 13) (.c (.bool true)) (.t 15)),zm 2 16] .ret),[.t 2]⟩
theorem za146:cN Tryz.prog 146=some c146:=by kernel_rfl
def c147:AFn:=⟨5,zq [zo 2 (.mv (.c (.bool false)))] (zq [zm 3 0,zo 4 (.bin .neq (.t 3) (zu 10)),zm 2 4] .ret),[.t 2]⟩
theorem za147:cN Tryz.prog 147=some c147:=by kernel_rfl
def c102:AFn:=⟨34,zq [zo 4 (.mv (zi 0))] (zr [zm 7 1,zo 8 (.len true (.t 7)),zk 9 .eql 8 0] 9 (zq [zm 10 0,zx 11 148 [.t 10],zk 12 .add 11 1,zm 4 12] .ret) .skip (zr [zm 13 1,zo 14 (.len true (.t 13)),zk 15 .eql 14 1] 15 (zq [zm 16 0,zm 17 1,zo 18 (.idxS (.t 17) (zi 0)),zo 19 (.pf .cbs [.t 16,.t 18]),zm 4 19] .ret) .skip (zq [zo 5 (.mv (zi 0))] (.block 0 (.loop (.block 1 (zq [zm 20 0,zm 21 1,zx 22 150 [.t 20,.t 21],zm 6 22] (zr [zm 23 6,zo 24 (.bin .eql (.t 23) (.c (.int .i64 (.negSucc 0))))] 24 (zq [zm 25 5,zm 4 25] .ret) .skip (zq [zm 26 5,zk 27 .add 26 1,zm 5 27] (.reg [zm 28 0,zm 29 6,zm 30 1,zo 31 (.len true (.t 30)),zb 32 .add 29 31,zo 33 (.slStr (.t 28) (some (.t 32)) none),zm 0 33])))))))))),[.t 4]⟩
theorem za102:cN Tryz.prog 102=some c102:=by kernel_rfl
def c181:AFn:=⟨143,zq [zo 4 (.mv (zi 0))] (zq [zm 14 1,zo 15 (.len true (.t 14)),zm 5 15] (.seq (.block 0 (zq [zm 17 5,zk 18 .eql 17 0,zm 19 18,zg 20 (.mv (.t 1)) 19 false,zg 21 (.mv (.t 0)) 19 false,zg 22 (.bin .eql (.t 20) (.t 21)) 19 false,zo 23 (.pick (.t 19) (.c (.bool true)) (.t 22)),zm 16 23] (.cond (.t 16) (zq [zo 4 (.mv (zi 0))] .ret) (zq [zm 25 5,zk 26 .eql 25 1,zm 24 26] (.cond (.t 24) (zq [zm 27 0,zm 28 1,zo 29 (.idxS (.t 28) (zi 0)),zx 30 184 [.t 27,.t 29],zm 4 30] .ret) (zq [zm 32 5,zm 33 0,zo 34 (.len true (.t 33)),zb 35 .geq 32 34,zm 31 35] (.cond (.t 31) (zq [zo 4 (.mv (.c (.int .i64 (.negSucc 0))))] .ret) (zq [zm 37 5,zo 38 (.hf (.gLd 0 false 1) []),zb 39 .leq 37 38,zm 40 39,zg 41 (.mv (.t 0)) 40 true,zg 42 (.len true (.t 41)) 40 true,zg 43 (.bin .leq (.t 42) (zi 64)) 40 true,zo 44 (.pick (.t 40) (.t 43) (.c (.bool false))),zm 36 44] (.cond (.t 36) (zq [zm 45 0,zm 46 1,zx 47 200 [.t 45,.t 46],zm 4 47] .ret) .skip))))))))) (zq [zm 48 1,zo 49 (.idxS (.t 48) (zi 0)),zm 6 49] (zq [zm 50 1,zo 51 (.idxS (.t 50) (zi 1)),zm 7 51] (zq [zo 8 (.mv (zi 0))] (zq [zm 52 0,zo 53 (.len true (.t 52)),zm 54 5,zb 55 .sub 53 54,zk 56 .add 55 1,zm 9 56] (zq [zo 10 (.mv (zi 0))] (.seq (.block 1 (.loop (zr [zm 57 8,zm 58 9,zb 59 .lss 57 58] 59 .skip (.exit 1) (.block 2 (zr [zm 60 0,zm 61 8,zo 62 (.idxS (.t 60) (.t 61)),zm 63 6,zb 64 .neq 62 63] 64 (zq [zm 65 0,zm 66 8,zk 67 .add 66 1,zm 68 9,zo 69 (.slStr (.t 65) (some (.t 67)) (some (.t 68))),zm 70 6,zx 71 184 [.t 69,.t 70],zm 11 71] (zr [zm 72 11,zk 73 .lss 72 0] 73 (zq [zo 4 (.mv (.c (.int .i64 (.negSucc 0))))] .ret) .skip (.reg [zm 74 8,zm 75 11,zk 76 .add 75 1,zb 77 .add 74 76,zm 8 77]))) .skip (zr [zm 78 0,zm 79 8,zk 80 .add 79 1,zo 81 (.idxS (.t 78) (.t 80)),zm 82 7,zb 83 .eql 81 82,zm 84 83,zg 85 (.mv (.t 0)) 84 true,zg 86 (.mv (.t 8)) 84 true,zg 87 (.mv (.t 8)) 84 true,zg 88 (.mv (.t 5)) 84 true,zg 89 (.bin .add (.t 87) (.t 88)) 84 true,zg 90 (.slStr (.t 85) (some (.t 86)) (some (.t 89))) 84 true,zg 91 (.mv (.t 1)) 84 true,zg 92 (.bin .eql (.t 90) (.t 91)) 84 true,zo 93 (.pick (.t 84) (.t 92) (.c (.bool false)))] 93 (zq [zm 94 8,zm 4 94] .ret) .skip (zq [zm 95 8,zk 96 .add 95 1,zm 8 96] (zq [zm 97 10,zk 98 .add 97 1,zm 10 98] (zq [zm 99 5,zo 100 (.hf (.gLd 0 false 1) []),zb 101 .leq 99 100,zm 102 101,zg 103 (.mv (.t 10)) 102 true,zg 104 (.mv (.t 8)) 102 true,zg 105 (.call 201 [.t 104]) 102 true,zg 106 (.bin .gtr (.t 103) (.t 105)) 102 true,zo 107 (.pick (.t 102) (.t 106) (.c (.bool false)))] (.cond (.t 107) (zq [zm 108 0,zm 109 8,zo 110 (.slStr (.t 108) (some (.t 109)) none),zm 111 1,zx 112 200 [.t 110,.t 111],zm 12 112] (zr [zm 113 12,zk 114 .geq 113 0] 114 (zq [zm 115 12,zm 116 8,zb 117 .add 115 116,zm 4 117] .ret) .skip (zq [zo 4 (.mv (.c (.int .i64 (.negSucc 0))))] .ret))) (zq [zm 118 5,zo 119 (.hf (.gLd 0 false 1) []),zb 120 .gtr 118 119,zm 121 120,zg 122 (.mv (.t 10)) 121 true,zg 123 (.mv (.t 8)) 121 true,zg 124 (.bin .shr (.t 123) (.c (.int .u64 (.ofNat 4)))) 121 true,zg 125 (.bin .add (zi 4) (.t 124)) 121 true,zg 126 (.bin .geq (.t 122) (.t 125)) 121 true,zo 127 (.pick (.t 121) (.t 126) (.c (.bool false))),zm 128 127,zg 129 (.mv (.t 8)) 128 true,zg 130 (.mv (.t 9)) 128 true,zg 131 (.bin .lss (.t 129) (.t 130)) 128 true,zo 132 (.pick (.t 128) (.t 131) (.c (.bool false)))] (.cond (.t 132) (zq [zm 133 0,zm 134 8,zo 135 (.slStr (.t 133) (some (.t 134)) none),zm 136 1,zx 137 202 [.t 135,.t 136],zm 13 137] (zr [zm 138 13,zk 139 .lss 138 0] 139 (zq [zo 4 (.mv (.c (.int .i64 (.negSucc 0))))] .ret) .skip (zq [zm 140 8,zm 141 13,zb 142 .add 140 141,zm 4 142] .ret))) .skip)))))))))))) (zq [zo 4 (.mv (.c (.int .i64 (.negSucc 0))))] .ret))))))))),[.t 4]⟩
theorem za181:cN Tryz.prog 181=some c181:=by kernel_rfl
def c184:AFn:=⟨8,zq [zo 4 (.mv (zi 0))] (zq [zm 5 0,zm 6 1,zo 7 (.pf .ibs [.t 5,.t 6]),zm 4 7] .ret),[.t 4]⟩
theorem za184:cN Tryz.prog 184=some c184:=by kernel_rfl
def c103:AFn:=⟨9,zq [zo 2 (.mv (.c (.bool false)))] (zq [zm 3 0,zo 4 (.bin .leq (zu 48) (.t 3)),zm 5 4,zg 6 (.mv (.t 0)) 5 true,zg 7 (.bin .leq (.t 6) (zu 57)) 5 true,zo 8 (.pick (.t 5) (.t 7) (.c (.bool false))),zm 2 8] .ret),[.t 2]⟩
theorem za103:cN Tryz.prog 103=some c103:=by kernel_rfl
def c104:AFn:=⟨36,zq [zo 4 (.mv (zi 0))] (zq [zm 7 0,zm 8 1,zx 9 107 [.t 7,.t 8,.f 103],zm 5 9] (zr [zm 10 5,zm 11 1,zb 12 .eql 10 11,zm 13 12,zg 14 (.mv (.t 5)) 13 false,zg 15 (.mv (.t 0)) 13 false,zg 16 (.len true (.t 15)) 13 false,zg 17 (.bin .eql (.t 14) (.t 16)) 13 false,zo 18 (.pick (.t 13) (.c (.bool true)) (.t 17)),zm 19 18,zg 20 (.mv (.t 0)) 19 false,zg 21 (.mv (.t 5)) 19 false,zg 22 (.idxS (.t 20) (.t 21)) 19 false,zg 23 (.bin .neq (.t 22) (zu 46)) 19 false,zo 24 (.pick (.t 19) (.c (.bool true)) (.t 23))] 24 (zq [zm 25 5,zm 4 25] .ret) .skip (.seq (zq [zm 26 0,zm 27 5,zk 28 .add 27 1,zx 29 107 [.t 26,.t 28,.f 103],zm 6 29] (zq [zm 30 6,zm 31 5,zk 32 .add 31 1,zb 33 .gtr 30 32] (.cond (.t 33) (zq [zm 34 6,zm 4 34] .ret) .skip))) (zq [zm 35 5,zm 4 35] .ret)))),[.t 4]⟩
theorem za104:cN Tryz.prog 104=some c104:=by kernel_rfl
def c105:AFn:=⟨51,zq [zo 2 (.mv (zi 0)),zo 3 (.mv (.c (.bool false)))] (zr [zm 9 0,zo 10 (.bin .eql (.t 9) (.c (.str []))),zm 11 10,zg 12 (.mv (.t 0)) 11 false,zg 13 (.idxS (.t 12) (zi 0)) 11 false,zg 14 (.call 103 [.t 13]) 11 false,zg 15 (.un .not (.t 14)) 11 false,zo 16 (.pick (.t 11) (.c (.bool true)) (.t 15)),zm 17 16,zg 18 (.mv (.t 0)) 17 false,zg 19 (.call 104 [.t 18,zi 0]) 17 false,zg 20 (.mv (.t 0)) 17 false,zg 21 (.len true (.t 20)) 17 false,zg 22 (.bin .neq (.t 19) (.t 21)) 17 false,zo 23 (.pick (.t 17) (.c (.bool true)) (.t 22))] 23 (zq [zo 2 (.mv (zi 0)),zo 3 (.mv (.c (.bool false)))] .ret) .skip (zq [zm 25 0,zx 26 151 [.t 25,.c (.str [46])],zm 24 26,ze 27 0 24,ze 28 1 24,ze 29 2 24,zm 4 27,zm 5 28,zm 6 29] (zq [zo 7 (.mv (zi 0))] (.seq (zq [zm 30 4,zo 31 (.len true (.t 30)),zo 32 (.mv (zi 0))] (.block 0 (.loop (zq [zb 33 .lss 32 31] (.seq (.cond (.t 33) .skip (.exit 0)) (.seq (.block 1 (zq [zm 34 32,zm 8 34] (zq [zm 35 7,zk 36 .mul 35 10,zm 37 4,zm 38 8,zo 39 (.idxS (.t 37) (.t 38)),zo 40 (.bin .sub (.t 39) (zu 48)),zv 41 .i64 40,zb 42 .add 36 41,zm 7 42] (zq [zm 43 7,zk 44 .geq 43 2147483648] (.cond (.t 44) (zq [zo 2 (.mv (zi 0)),zo 3 (.mv (.c (.bool false)))] .ret) .skip))))) (.reg [zk 45 .add 32 1,zm 32 45]))))))) (zq [zm 46 7,zo 47 (.bin .shl (.t 46) (.c (.int .u64 (.ofNat 32)))),zm 48 5,zx 49 152 [.t 48],zb 50 .or 47 49,zm 2 50,zo 3 (.mv (.c (.bool true)))] .ret))))),[.t 2,.t 3]⟩
theorem za105:cN Tryz.prog 105=some c105:=by kernel_rfl
def c151:AFn:=⟨13,zq [zo 4 (.mv (.c (.str []))),zo 5 (.mv (.c (.str []))),zo 6 (.mv (.c (.bool false)))] (zq [zm 7 0,zm 8 1,zx 9 182 [.t 7,.t 8],ze 10 0 9,ze 11 1 9,ze 12 2 9,zm 4 10,zm 5 11,zm 6 12] .ret),[.t 4,.t 5,.t 6]⟩
theorem za151:cN Tryz.prog 151=some c151:=by kernel_rfl
def c182:AFn:=⟨23,zq [zo 4 (.mv (.c (.str []))),zo 5 (.mv (.c (.str []))),zo 6 (.mv (.c (.bool false)))] (.seq (zq [zm 8 0,zm 9 1,zx 10 181 [.t 8,.t 9],zm 7 10] (zq [zm 11 7,zk 12 .geq 11 0] (.cond (.t 12) (zq [zm 13 0,zm 14 7,zo 15 (.slStr (.t 13) none (some (.t 14))),zm 16 0,zm 17 7,zm 18 1,zo 19 (.len true (.t 18)),zb 20 .add 17 19,zo 21 (.slStr (.t 16) (some (.t 20)) none),zm 4 15,zm 5 21,zo 6 (.mv (.c (.bool true)))] .ret) .skip))) (zq [zm 22 0,zm 4 22,zo 5 (.mv (.c (.str []))),zo 6 (.mv (.c (.bool false)))] .ret)),[.t 4,.t 5,.t 6]⟩
theorem za182:cN Tryz.prog 182=some c182:=by kernel_rfl
def c152:AFn:=⟨47,zq [zo 2 (.mv (zi 0))] (zq [zo 3 (.new [zU 0,zU 0,zU 0,zU 0,zU 0,zU 0,zU 0,zU 0,zU 0,zU 0,zU 0,zU 0,zU 0,zU 0,zU 0,zU 0,zU 0,zU 0,zU 0,zU 0,zU 0,zU 0,zU 0,zU 0,zU 0,zU 0,zU 0,zU 0,zU 0,zU 0,zU 0,zU 0])] (.seq (zq [zm 9 0,zo 10 (.len true (.t 9)),zo 11 (.pf (.mm false) [.t 10,zi 32]),zo 12 (.mv (zi 0))] (.block 0 (.loop (zq [zb 13 .lss 12 11] (.seq (.cond (.t 13) .skip (.exit 0)) (.seq (.block 1 (zq [zm 14 12,zm 4 14] (.reg [zm 15 4,zm 16 0,zm 17 4,zo 18 (.idxS (.t 16) (.t 17)),zo 19 (.bin .sub (.t 18) (zu 48)),zo 20 (.idxArr 32 1 (.t 3) (.t 15)),zs 20 19]))) (.reg [zk 21 .add 12 1,zm 12 21]))))))) (zq [zo 5 (.mv (zi 0))] (.seq (zq [zo 22 (.mv (zi 0))] (.block 2 (.loop (zq [zk 23 .lss 22 32] (.seq (.cond (.t 23) .skip (.exit 2)) (.seq (.block 3 (zq [zo 6 (.mv (zu 0))] (.seq (zq [zo 7 (.mv (zi 31))] (.block 4 (.loop (zr [zm 24 7,zk 25 .geq 24 0] 25 .skip (.exit 4) (.seq (.block 5 (zq [zm 28 7,zo 29 (.idxArr 32 1 (.t 3) (.t 28)),zl 30 29,zo 31 (.bin .mul (.t 30) (zu 2)),zm 32 6,zb 33 .add 31 32,zm 8 33] (.reg [zm 34 7,zm 35 8,zo 36 (.bin .rem (.t 35) (zu 10)),zm 37 8,zo 38 (.bin .quo (.t 37) (zu 10)),zo 39 (.idxArr 32 1 (.t 3) (.t 34)),zs 39 36,zm 6 38]))) (.reg [zm 26 7,zk 27 .sub 26 1,zm 7 27])))))) (.reg [zm 40 5,zo 41 (.bin .shl (.t 40) (.c (.int .u64 (.ofNat 1)))),zm 42 6,zv 43 .i64 42,zb 44 .or 41 43,zm 5 44])))) (.reg [zk 45 .add 22 1,zm 22 45]))))))) (zq [zm 46 5,zm 2 46] .ret))))),[.t 2]⟩
theorem za152:cN Tryz.prog 152=some c152:=by kernel_rfl
def c106:AFn:=⟨21,zq [zo 2 (.mv (.c (.bool false)))] (zq [zm 3 0,zo 4 (.bin .leq (zu 97) (.t 3)),zm 5 4,zg 6 (.mv (.t 0)) 5 true,zg 7 (.bin .leq (.t 6) (zu 122)) 5 true,zo 8 (.pick (.t 5) (.t 7) (.c (.bool false))),zm 9 8,zg 10 (.mv (.t 0)) 9 false,zg 11 (.bin .leq (zu 65) (.t 10)) 9 false,zg 12 (.mv (.t 11)) 9 false,zg 13 (.mv (.t 0)) 12 true,zg 14 (.bin .leq (.t 13) (zu 90)) 12 true,zg 15 (.pick (.t 12) (.t 14) (.c (.bool false))) 9 false,zo 16 (.pick (.t 9) (.c (.bool true)) (.t 15)),zm 17 16,zg 18 (.mv (.t 0)) 17 false,zg 19 (.bin .eql (.t 18) (zu 95)) 17 false,zo 20 (.pick (.t 17) (.c (.bool true)) (.t 19)),zm 2 20] .ret),[.t 2]⟩
theorem za106:cN Tryz.prog 106=some c106:=by kernel_rfl
def c108:AFn:=⟨9,zq [zo 2 (.mv (.c (.bool false)))] (zq [zm 3 0,zx 4 106 [.t 3],zm 5 4,zg 6 (.mv (.t 0)) 5 false,zg 7 (.call 103 [.t 6]) 5 false,zo 8 (.pick (.t 5) (.c (.bool true)) (.t 7)),zm 2 8] .ret),[.t 2]⟩
theorem za108:cN Tryz.prog 108=some c108:=by kernel_rfl
def c109:AFn:=⟨5,zq [zo 2 (.mv (.c (.str [])))] (zq [zm 3 0,zx 4 153 [.t 3],zm 2 4] .ret),[.t 2]⟩
theorem za109:cN Tryz.prog 109=some c109:=by kernel_rfl
def c110:AFn:=⟨11,zq [zo 2 (.mv (.c (.bool false)))] (.seq (zq [zm 3 0] (.block 0 (zr [zo 5 (.bin .eql (.t 3) (.c (.str [108,101,116]))),zm 4 5] 4 .skip (zq [zo 6 (.bin .eql (.t 3) (.c (.str [115,101,116]))),zm 4 6] (.cond (.t 4) .skip (zq [zo 7 (.bin .eql (.t 3) (.c (.str [105,102]))),zm 4 7] (.cond (.t 4) .skip (zq [zo 8 (.bin .eql (.t 3) (.c (.str [101,108,115,101]))),zm 4 8] (.cond (.t 4) .skip (zq [zo 9 (.bin .eql (.t 3) (.c (.str [119,104,105,108,101]))),zm 4 9] (.cond (.t 4) .skip (.reg [zo 10 (.bin .eql (.t 3) (.c (.str [114,101,116,117,114,110]))),zm 4 10]))))))))) (.cond (.t 4) (zq [zo 2 (.mv (.c (.bool true)))] .ret) .skip)))) (zq [zo 2 (.mv (.c (.bool false)))] .ret)),[.t 2]⟩
theorem za110:cN Tryz.prog 110=some c110:=by kernel_rfl
def c111:AFn:=⟨26,zq [zo 4 (.mv (.c (.str [])))] (zq [zm 8 0,zm 9 1,zo 10 (.slStr (.t 8) (some (.t 9)) none),zm 5 10] (.seq (zq [zo 11 (.build [.str [],.str [],.str [],.str [],.str [],.str []] [(0,1,.c (.str [38,38])),(1,1,.c (.str [124,124])),(2,1,.c (.str [61,61])),(3,1,.c (.str [33,61])),(4,1,.c (.str [60,61])),(5,1,.c (.str [62,61]))]),zo 12 (.mv (zi 0))] (.block 0 (.loop (zq [zk 13 .lss 12 6] (.seq (.cond (.t 13) .skip (.exit 0)) (.seq (.block 1 (zq [zo 14 (.idx 6 1 false (.t 11) (.t 12)),zm 7 14] (zq [zm 15 5,zm 16 7,zx 17 154 [.t 15,.t 16]] (.cond (.t 17) (zq [zm 18 7,zm 4 18] .ret) .skip)))) (.reg [zk 19 .add 12 1,zm 12 19]))))))) (zr [zm 20 5,zo 21 (.idxS (.t 20) (zi 0)),zx 22 155 [.c (.str [60,62,43,45,42,47,33,40,41,123,125,44,59,61]),.t 21],zk 23 .geq 22 0] 23 (zq [zm 24 5,zo 25 (.slStr (.t 24) none (some (zi 1))),zm 4 25] .ret) .skip (zq [zo 4 (.mv (.c (.str [])))] .ret)))),[.t 4]⟩
theorem za111:cN Tryz.prog 111=some c111:=by kernel_rfl
def c154:AFn:=⟨8,zq [zo 4 (.mv (.c (.bool false)))] (zq [zm 5 0,zm 6 1,zx 7 183 [.t 5,.t 6],zm 4 7] .ret),[.t 4]⟩
theorem za154:cN Tryz.prog 154=some c154:=by kernel_rfl
def c183:AFn:=⟨18,zq [zo 4 (.mv (.c (.bool false)))] (zq [zm 5 0,zo 6 (.len true (.t 5)),zm 7 1,zo 8 (.len true (.t 7)),zb 9 .geq 6 8,zm 10 9,zg 11 (.mv (.t 0)) 10 true,zg 12 (.mv (.t 1)) 10 true,zg 13 (.len true (.t 12)) 10 true,zg 14 (.slStr (.t 11) none (some (.t 13))) 10 true,zg 15 (.mv (.t 1)) 10 true,zg 16 (.bin .eql (.t 14) (.t 15)) 10 true,zo 17 (.pick (.t 10) (.t 16) (.c (.bool false))),zm 4 17] .ret),[.t 4]⟩
theorem za183:cN Tryz.prog 183=some c183:=by kernel_rfl
def c155:AFn:=⟨8,zq [zo 4 (.mv (zi 0))] (zq [zm 5 0,zm 6 1,zx 7 184 [.t 5,.t 6],zm 4 7] .ret),[.t 4]⟩
theorem za155:cN Tryz.prog 155=some c155:=by kernel_rfl
def c177:AFn:=⟨15,zq [zo 2 (.mv (.c (.str [])))] (zr [zm 3 0,zk 4 .lss 3 10] 4 (zq [zm 5 0,zm 6 0,zk 7 .add 6 1,zo 8 (.slStr (.c (.str [48,49,50,51,52,53,54,55,56,57,97,98,99,100,101,102,103,104,105,106,107,108,109,110,111,112,113,114,115,116,117,118,119,120,121,122])) (some (.t 5)) (some (.t 7))),zm 2 8] .ret) .skip (zq [zm 9 0,zk 10 .mul 9 2,zm 11 0,zk 12 .mul 11 2,zk 13 .add 12 2,zo 14 (.slStr (.c (.str [48,48,48,49,48,50,48,51,48,52,48,53,48,54,48,55,48,56,48,57,49,48,49,49,49,50,49,51,49,52,49,53,49,54,49,55,49,56,49,57,50,48,50,49,50,50,50,51,50,52,50,53,50,54,50,55,50,56,50,57,51,48,51,49,51,50,51,51,51,52,51,53,51,54,51,55,51,56,51,57,52,48,52,49,52,50,52,51,52,52,52,53,52,54,52,55,52,56,52,57,53,48,53,49,53,50,53,51,53,52,53,53,53,54,53,55,53,56,53,57,54,48,54,49,54,50,54,51,54,52,54,53,54,54,54,55,54,56,54,57,55,48,55,49,55,50,55,51,55,52,55,53,55,54,55,55,55,56,55,57,56,48,56,49,56,50,56,51,56,52,56,53,56,54,56,55,56,56,56,57,57,48,57,49,57,50,57,51,57,52,57,53,57,54,57,55,57,56,57,57])) (some (.t 10)) (some (.t 13))),zm 2 14] .ret)),[.t 2]⟩
theorem za177:cN Tryz.prog 177=some c177:=by kernel_rfl
def c178:AFn:=⟨15,zq [zo 2 (.mv (zi 0))] (zq [zm 4 0,zx 5 196 [.t 4],zx 6 195 [.t 5],zm 3 6] (zq [zm 7 3,zm 8 0,zm 9 3,zo 10 (.hf (.gIdx 1 20 1) [.t 9]),zl 11 10,zb 12 .geq 8 11,zx 13 197 [.t 12],zb 14 .add 7 13,zm 2 14] .ret)),[.t 2]⟩
theorem za178:cN Tryz.prog 178=some c178:=by kernel_rfl
def c196:AFn:=⟨25,zq [zo 2 (.mv (zi 0))] (zr [zm 3 0,zo 4 (.bin .geq (.t 3) (.c (.int .u64 (.ofNat 4294967296))))] 4 (zq [zm 5 0,zo 6 (.bin .shr (.t 5) (.c (.int .u64 (.ofNat 32)))),zm 0 6] (.reg [zo 2 (.mv (zi 32))])) .skip (zr [zm 7 0,zo 8 (.bin .geq (.t 7) (.c (.int .u64 (.ofNat 65536))))] 8 (zq [zm 9 0,zo 10 (.bin .shr (.t 9) (.c (.int .u64 (.ofNat 16)))),zm 0 10] (.reg [zm 11 2,zk 12 .add 11 16,zm 2 12])) .skip (zr [zm 13 0,zo 14 (.bin .geq (.t 13) (.c (.int .u64 (.ofNat 256))))] 14 (zq [zm 15 0,zo 16 (.bin .shr (.t 15) (.c (.int .u64 (.ofNat 8)))),zm 0 16] (.reg [zm 17 2,zk 18 .add 17 8,zm 2 18])) .skip (zq [zm 19 2,zm 20 0,zv 21 .u8 20,zo 22 (.idxS (.c (.str [0,1,2,2,3,3,3,3,4,4,4,4,4,4,4,4,5,5,5,5,5,5,5,5,5,5,5,5,5,5,5,5,6,6,6,6,6,6,6,6,6,6,6,6,6,6,6,6,6,6,6,6,6,6,6,6,6,6,6,6,6,6,6,6,7,7,7,7,7,7,7,7,7,7,7,7,7,7,7,7,7,7,7,7,7,7,7,7,7,7,7,7,7,7,7,7,7,7,7,7,7,7,7,7,7,7,7,7,7,7,7,7,7,7,7,7,7,7,7,7,7,7,7,7,7,7,7,7,8,8,8,8,8,8,8,8,8,8,8,8,8,8,8,8,8,8,8,8,8,8,8,8,8,8,8,8,8,8,8,8,8,8,8,8,8,8,8,8,8,8,8,8,8,8,8,8,8,8,8,8,8,8,8,8,8,8,8,8,8,8,8,8,8,8,8,8,8,8,8,8,8,8,8,8,8,8,8,8,8,8,8,8,8,8,8,8,8,8,8,8,8,8,8,8,8,8,8,8,8,8,8,8,8,8,8,8,8,8,8,8,8,8,8,8,8,8,8,8,8,8,8,8,8,8,8,8])) (.t 21)),zv 23 .i64 22,zb 24 .add 19 23,zm 2 24] .ret)))),[.t 2]⟩
theorem za196:cN Tryz.prog 196=some c196:=by kernel_rfl
def c195:AFn:=⟨6,zq [zo 2 (.mv (zi 0))] (zq [zm 3 0,zk 4 .mul 3 78913,zo 5 (.bin .shr (.t 4) (.c (.int .u64 (.ofNat 18)))),zm 2 5] .ret),[.t 2]⟩
theorem za195:cN Tryz.prog 195=some c195:=by kernel_rfl
def c197:AFn:=⟨4,zq [zo 2 (.mv (zi 0))] (zr [zm 3 0] 3 (zq [zo 2 (.mv (zi 1))] .ret) .skip (zq [zo 2 (.mv (zi 0))] .ret)),[.t 2]⟩
theorem za197:cN Tryz.prog 197=some c197:=by kernel_rfl
def c179:AFn:=⟨167,zq [zm 17 0,zh 18 17,zm 4 18] (.seq (.block 0 (.loop (zr [zm 19 4,zk 20 .geq 19 8] 20 .skip (.exit 0) (.block 1 (zq [zm 21 1,zo 22 (.bin .rem (.t 21) (.c (.int .u64 (.ofNat 100000000)))),zv 23 .u32 22,zm 5 23] (zq [zm 24 1,zo 25 (.bin .quo (.t 24) (.c (.int .u64 (.ofNat 100000000)))),zm 1 25] (zq [zm 26 5,zo 27 (.bin .quo (.t 26) (.c (.int .u32 (.ofNat 10000)))),zm 28 5,zo 29 (.bin .rem (.t 28) (.c (.int .u32 (.ofNat 10000)))),zm 6 27,zm 7 29] (zq [zm 30 7,zo 31 (.bin .quo (.t 30) (.c (.int .u32 (.ofNat 100)))),zo 32 (.bin .mul (.t 31) (.c (.int .u32 (.ofNat 2)))),zm 33 7,zo 34 (.bin .rem (.t 33) (.c (.int .u32 (.ofNat 100)))),zo 35 (.bin .mul (.t 34) (.c (.int .u32 (.ofNat 2)))),zm 8 32,zm 9 35] (zq [zm 36 6,zo 37 (.bin .quo (.t 36) (.c (.int .u32 (.ofNat 100)))),zo 38 (.bin .mul (.t 37) (.c (.int .u32 (.ofNat 2)))),zm 39 6,zo 40 (.bin .rem (.t 39) (.c (.int .u32 (.ofNat 100)))),zo 41 (.bin .mul (.t 40) (.c (.int .u32 (.ofNat 2)))),zm 10 38,zm 11 41] (zq [zm 42 0,zm 43 4,zk 44 .sub 43 1,zm 45 0,zm 46 4,zk 47 .sub 46 2,zm 48 9,zo 49 (.bin .add (.t 48) (.c (.int .u32 (.ofNat 1)))),zo 50 (.idxS (.c (.str [48,48,48,49,48,50,48,51,48,52,48,53,48,54,48,55,48,56,48,57,49,48,49,49,49,50,49,51,49,52,49,53,49,54,49,55,49,56,49,57,50,48,50,49,50,50,50,51,50,52,50,53,50,54,50,55,50,56,50,57,51,48,51,49,51,50,51,51,51,52,51,53,51,54,51,55,51,56,51,57,52,48,52,49,52,50,52,51,52,52,52,53,52,54,52,55,52,56,52,57,53,48,53,49,53,50,53,51,53,52,53,53,53,54,53,55,53,56,53,57,54,48,54,49,54,50,54,51,54,52,54,53,54,54,54,55,54,56,54,57,55,48,55,49,55,50,55,51,55,52,55,53,55,54,55,55,55,56,55,57,56,48,56,49,56,50,56,51,56,52,56,53,56,54,56,55,56,56,56,57,57,48,57,49,57,50,57,51,57,52,57,53,57,54,57,55,57,56,57,57])) (.t 49)),zm 51 9,zo 52 (.idxS (.c (.str [48,48,48,49,48,50,48,51,48,52,48,53,48,54,48,55,48,56,48,57,49,48,49,49,49,50,49,51,49,52,49,53,49,54,49,55,49,56,49,57,50,48,50,49,50,50,50,51,50,52,50,53,50,54,50,55,50,56,50,57,51,48,51,49,51,50,51,51,51,52,51,53,51,54,51,55,51,56,51,57,52,48,52,49,52,50,52,51,52,52,52,53,52,54,52,55,52,56,52,57,53,48,53,49,53,50,53,51,53,52,53,53,53,54,53,55,53,56,53,57,54,48,54,49,54,50,54,51,54,52,54,53,54,54,54,55,54,56,54,57,55,48,55,49,55,50,55,51,55,52,55,53,55,54,55,55,55,56,55,57,56,48,56,49,56,50,56,51,56,52,56,53,56,54,56,55,56,56,56,57,57,48,57,49,57,50,57,51,57,52,57,53,57,54,57,55,57,56,57,57])) (.t 51)),zd 53 42 44,zs 53 50,zd 54 45 47,zs 54 52] (zq [zm 55 0,zm 56 4,zk 57 .sub 56 3,zm 58 0,zm 59 4,zk 60 .sub 59 4,zm 61 8,zo 62 (.bin .add (.t 61) (.c (.int .u32 (.ofNat 1)))),zo 63 (.idxS (.c (.str [48,48,48,49,48,50,48,51,48,52,48,53,48,54,48,55,48,56,48,57,49,48,49,49,49,50,49,51,49,52,49,53,49,54,49,55,49,56,49,57,50,48,50,49,50,50,50,51,50,52,50,53,50,54,50,55,50,56,50,57,51,48,51,49,51,50,51,51,51,52,51,53,51,54,51,55,51,56,51,57,52,48,52,49,52,50,52,51,52,52,52,53,52,54,52,55,52,56,52,57,53,48,53,49,53,50,53,51,53,52,53,53,53,54,53,55,53,56,53,57,54,48,54,49,54,50,54,51,54,52,54,53,54,54,54,55,54,56,54,57,55,48,55,49,55,50,55,51,55,52,55,53,55,54,55,55,55,56,55,57,56,48,56,49,56,50,56,51,56,52,56,53,56,54,56,55,56,56,56,57,57,48,57,49,57,50,57,51,57,52,57,53,57,54,57,55,57,56,57,57])) (.t 62)),zm 64 8,zo 65 (.idxS (.c (.str [48,48,48,49,48,50,48,51,48,52,48,53,48,54,48,55,48,56,48,57,49,48,49,49,49,50,49,51,49,52,49,53,49,54,49,55,49,56,49,57,50,48,50,49,50,50,50,51,50,52,50,53,50,54,50,55,50,56,50,57,51,48,51,49,51,50,51,51,51,52,51,53,51,54,51,55,51,56,51,57,52,48,52,49,52,50,52,51,52,52,52,53,52,54,52,55,52,56,52,57,53,48,53,49,53,50,53,51,53,52,53,53,53,54,53,55,53,56,53,57,54,48,54,49,54,50,54,51,54,52,54,53,54,54,54,55,54,56,54,57,55,48,55,49,55,50,55,51,55,52,55,53,55,54,55,55,55,56,55,57,56,48,56,49,56,50,56,51,56,52,56,53,56,54,56,55,56,56,56,57,57,48,57,49,57,50,57,51,57,52,57,53,57,54,57,55,57,56,57,57])) (.t 64)),zd 66 55 57,zs 66 63,zd 67 58 60,zs 67 65] (zq [zm 68 0,zm 69 4,zk 70 .sub 69 5,zm 71 0,zm 72 4,zk 73 .sub 72 6,zm 74 11,zo 75 (.bin .add (.t 74) (.c (.int .u32 (.ofNat 1)))),zo 76 (.idxS (.c (.str [48,48,48,49,48,50,48,51,48,52,48,53,48,54,48,55,48,56,48,57,49,48,49,49,49,50,49,51,49,52,49,53,49,54,49,55,49,56,49,57,50,48,50,49,50,50,50,51,50,52,50,53,50,54,50,55,50,56,50,57,51,48,51,49,51,50,51,51,51,52,51,53,51,54,51,55,51,56,51,57,52,48,52,49,52,50,52,51,52,52,52,53,52,54,52,55,52,56,52,57,53,48,53,49,53,50,53,51,53,52,53,53,53,54,53,55,53,56,53,57,54,48,54,49,54,50,54,51,54,52,54,53,54,54,54,55,54,56,54,57,55,48,55,49,55,50,55,51,55,52,55,53,55,54,55,55,55,56,55,57,56,48,56,49,56,50,56,51,56,52,56,53,56,54,56,55,56,56,56,57,57,48,57,49,57,50,57,51,57,52,57,53,57,54,57,55,57,56,57,57])) (.t 75)),zm 77 11,zo 78 (.idxS (.c (.str [48,48,48,49,48,50,48,51,48,52,48,53,48,54,48,55,48,56,48,57,49,48,49,49,49,50,49,51,49,52,49,53,49,54,49,55,49,56,49,57,50,48,50,49,50,50,50,51,50,52,50,53,50,54,50,55,50,56,50,57,51,48,51,49,51,50,51,51,51,52,51,53,51,54,51,55,51,56,51,57,52,48,52,49,52,50,52,51,52,52,52,53,52,54,52,55,52,56,52,57,53,48,53,49,53,50,53,51,53,52,53,53,53,54,53,55,53,56,53,57,54,48,54,49,54,50,54,51,54,52,54,53,54,54,54,55,54,56,54,57,55,48,55,49,55,50,55,51,55,52,55,53,55,54,55,55,55,56,55,57,56,48,56,49,56,50,56,51,56,52,56,53,56,54,56,55,56,56,56,57,57,48,57,49,57,50,57,51,57,52,57,53,57,54,57,55,57,56,57,57])) (.t 77)),zd 79 68 70,zs 79 76,zd 80 71 73,zs 80 78] (zq [zm 81 0,zm 82 4,zk 83 .sub 82 7,zm 84 0,zm 85 4,zk 86 .sub 85 8,zm 87 10,zo 88 (.bin .add (.t 87) (.c (.int .u32 (.ofNat 1)))),zo 89 (.idxS (.c (.str [48,48,48,49,48,50,48,51,48,52,48,53,48,54,48,55,48,56,48,57,49,48,49,49,49,50,49,51,49,52,49,53,49,54,49,55,49,56,49,57,50,48,50,49,50,50,50,51,50,52,50,53,50,54,50,55,50,56,50,57,51,48,51,49,51,50,51,51,51,52,51,53,51,54,51,55,51,56,51,57,52,48,52,49,52,50,52,51,52,52,52,53,52,54,52,55,52,56,52,57,53,48,53,49,53,50,53,51,53,52,53,53,53,54,53,55,53,56,53,57,54,48,54,49,54,50,54,51,54,52,54,53,54,54,54,55,54,56,54,57,55,48,55,49,55,50,55,51,55,52,55,53,55,54,55,55,55,56,55,57,56,48,56,49,56,50,56,51,56,52,56,53,56,54,56,55,56,56,56,57,57,48,57,49,57,50,57,51,57,52,57,53,57,54,57,55,57,56,57,57])) (.t 88)),zm 90 10,zo 91 (.idxS (.c (.str [48,48,48,49,48,50,48,51,48,52,48,53,48,54,48,55,48,56,48,57,49,48,49,49,49,50,49,51,49,52,49,53,49,54,49,55,49,56,49,57,50,48,50,49,50,50,50,51,50,52,50,53,50,54,50,55,50,56,50,57,51,48,51,49,51,50,51,51,51,52,51,53,51,54,51,55,51,56,51,57,52,48,52,49,52,50,52,51,52,52,52,53,52,54,52,55,52,56,52,57,53,48,53,49,53,50,53,51,53,52,53,53,53,54,53,55,53,56,53,57,54,48,54,49,54,50,54,51,54,52,54,53,54,54,54,55,54,56,54,57,55,48,55,49,55,50,55,51,55,52,55,53,55,54,55,55,55,56,55,57,56,48,56,49,56,50,56,51,56,52,56,53,56,54,56,55,56,56,56,57,57,48,57,49,57,50,57,51,57,52,57,53,57,54,57,55,57,56,57,57])) (.t 90)),zd 92 81 83,zs 92 89,zd 93 84 86,zs 93 91] (.reg [zm 94 4,zk 95 .sub 94 8,zm 4 95])))))))))))))) (zq [zm 96 1,zv 97 .u32 96,zm 12 97] (zr [zm 98 4,zk 99 .geq 98 4] 99 (zq [zm 100 12,zo 101 (.bin .rem (.t 100) (.c (.int .u32 (.ofNat 10000)))),zm 13 101] (zq [zm 102 12,zo 103 (.bin .quo (.t 102) (.c (.int .u32 (.ofNat 10000)))),zm 12 103] (zq [zm 104 13,zo 105 (.bin .quo (.t 104) (.c (.int .u32 (.ofNat 100)))),zo 106 (.bin .mul (.t 105) (.c (.int .u32 (.ofNat 2)))),zm 107 13,zo 108 (.bin .rem (.t 107) (.c (.int .u32 (.ofNat 100)))),zo 109 (.bin .mul (.t 108) (.c (.int .u32 (.ofNat 2)))),zm 14 106,zm 15 109] (zq [zm 110 0,zm 111 4,zk 112 .sub 111 1,zm 113 0,zm 114 4,zk 115 .sub 114 2,zm 116 15,zo 117 (.bin .add (.t 116) (.c (.int .u32 (.ofNat 1)))),zo 118 (.idxS (.c (.str [48,48,48,49,48,50,48,51,48,52,48,53,48,54,48,55,48,56,48,57,49,48,49,49,49,50,49,51,49,52,49,53,49,54,49,55,49,56,49,57,50,48,50,49,50,50,50,51,50,52,50,53,50,54,50,55,50,56,50,57,51,48,51,49,51,50,51,51,51,52,51,53,51,54,51,55,51,56,51,57,52,48,52,49,52,50,52,51,52,52,52,53,52,54,52,55,52,56,52,57,53,48,53,49,53,50,53,51,53,52,53,53,53,54,53,55,53,56,53,57,54,48,54,49,54,50,54,51,54,52,54,53,54,54,54,55,54,56,54,57,55,48,55,49,55,50,55,51,55,52,55,53,55,54,55,55,55,56,55,57,56,48,56,49,56,50,56,51,56,52,56,53,56,54,56,55,56,56,56,57,57,48,57,49,57,50,57,51,57,52,57,53,57,54,57,55,57,56,57,57])) (.t 117)),zm 119 15,zo 120 (.idxS (.c (.str [48,48,48,49,48,50,48,51,48,52,48,53,48,54,48,55,48,56,48,57,49,48,49,49,49,50,49,51,49,52,49,53,49,54,49,55,49,56,49,57,50,48,50,49,50,50,50,51,50,52,50,53,50,54,50,55,50,56,50,57,51,48,51,49,51,50,51,51,51,52,51,53,51,54,51,55,51,56,51,57,52,48,52,49,52,50,52,51,52,52,52,53,52,54,52,55,52,56,52,57,53,48,53,49,53,50,53,51,53,52,53,53,53,54,53,55,53,56,53,57,54,48,54,49,54,50,54,51,54,52,54,53,54,54,54,55,54,56,54,57,55,48,55,49,55,50,55,51,55,52,55,53,55,54,55,55,55,56,55,57,56,48,56,49,56,50,56,51,56,52,56,53,56,54,56,55,56,56,56,57,57,48,57,49,57,50,57,51,57,52,57,53,57,54,57,55,57,56,57,57])) (.t 119)),zd 121 110 112,zs 121 118,zd 122 113 115,zs 122 120] (zq [zm 123 0,zm 124 4,zk 125 .sub 124 3,zm 126 0,zm 127 4,zk 128 .sub 127 4,zm 129 14,zo 130 (.bin .add (.t 129) (.c (.int .u32 (.ofNat 1)))),zo 131 (.idxS (.c (.str [48,48,48,49,48,50,48,51,48,52,48,53,48,54,48,55,48,56,48,57,49,48,49,49,49,50,49,51,49,52,49,53,49,54,49,55,49,56,49,57,50,48,50,49,50,50,50,51,50,52,50,53,50,54,50,55,50,56,50,57,51,48,51,49,51,50,51,51,51,52,51,53,51,54,51,55,51,56,51,57,52,48,52,49,52,50,52,51,52,52,52,53,52,54,52,55,52,56,52,57,53,48,53,49,53,50,53,51,53,52,53,53,53,54,53,55,53,56,53,57,54,48,54,49,54,50,54,51,54,52,54,53,54,54,54,55,54,56,54,57,55,48,55,49,55,50,55,51,55,52,55,53,55,54,55,55,55,56,55,57,56,48,56,49,56,50,56,51,56,52,56,53,56,54,56,55,56,56,56,57,57,48,57,49,57,50,57,51,57,52,57,53,57,54,57,55,57,56,57,57])) (.t 130)),zm 132 14,zo 133 (.idxS (.c (.str [48,48,48,49,48,50,48,51,48,52,48,53,48,54,48,55,48,56,48,57,49,48,49,49,49,50,49,51,49,52,49,53,49,54,49,55,49,56,49,57,50,48,50,49,50,50,50,51,50,52,50,53,50,54,50,55,50,56,50,57,51,48,51,49,51,50,51,51,51,52,51,53,51,54,51,55,51,56,51,57,52,48,52,49,52,50,52,51,52,52,52,53,52,54,52,55,52,56,52,57,53,48,53,49,53,50,53,51,53,52,53,53,53,54,53,55,53,56,53,57,54,48,54,49,54,50,54,51,54,52,54,53,54,54,54,55,54,56,54,57,55,48,55,49,55,50,55,51,55,52,55,53,55,54,55,55,55,56,55,57,56,48,56,49,56,50,56,51,56,52,56,53,56,54,56,55,56,56,56,57,57,48,57,49,57,50,57,51,57,52,57,53,57,54,57,55,57,56,57,57])) (.t 132)),zd 134 123 125,zs 134 131,zd 135 126 128,zs 135 133] (.reg [zm 136 4,zk 137 .sub 136 4,zm 4 137])))))) .skip (zr [zm 138 4,zk 139 .geq 138 2] 139 (zq [zm 140 12,zo 141 (.bin .rem (.t 140) (.c (.int .u32 (.ofNat 100)))),zo 142 (.bin .mul (.t 141) (.c (.int .u32 (.ofNat 2)))),zm 16 142] (zq [zm 143 12,zo 144 (.bin .quo (.t 143) (.c (.int .u32 (.ofNat 100)))),zm 12 144] (zq [zm 145 0,zm 146 4,zk 147 .sub 146 1,zm 148 0,zm 149 4,zk 150 .sub 149 2,zm 151 16,zo 152 (.bin .add (.t 151) (.c (.int .u32 (.ofNat 1)))),zo 153 (.idxS (.c (.str [48,48,48,49,48,50,48,51,48,52,48,53,48,54,48,55,48,56,48,57,49,48,49,49,49,50,49,51,49,52,49,53,49,54,49,55,49,56,49,57,50,48,50,49,50,50,50,51,50,52,50,53,50,54,50,55,50,56,50,57,51,48,51,49,51,50,51,51,51,52,51,53,51,54,51,55,51,56,51,57,52,48,52,49,52,50,52,51,52,52,52,53,52,54,52,55,52,56,52,57,53,48,53,49,53,50,53,51,53,52,53,53,53,54,53,55,53,56,53,57,54,48,54,49,54,50,54,51,54,52,54,53,54,54,54,55,54,56,54,57,55,48,55,49,55,50,55,51,55,52,55,53,55,54,55,55,55,56,55,57,56,48,56,49,56,50,56,51,56,52,56,53,56,54,56,55,56,56,56,57,57,48,57,49,57,50,57,51,57,52,57,53,57,54,57,55,57,56,57,57])) (.t 152)),zm 154 16,zo 155 (.idxS (.c (.str [48,48,48,49,48,50,48,51,48,52,48,53,48,54,48,55,48,56,48,57,49,48,49,49,49,50,49,51,49,52,49,53,49,54,49,55,49,56,49,57,50,48,50,49,50,50,50,51,50,52,50,53,50,54,50,55,50,56,50,57,51,48,51,49,51,50,51,51,51,52,51,53,51,54,51,55,51,56,51,57,52,48,52,49,52,50,52,51,52,52,52,53,52,54,52,55,52,56,52,57,53,48,53,49,53,50,53,51,53,52,53,53,53,54,53,55,53,56,53,57,54,48,54,49,54,50,54,51,54,52,54,53,54,54,54,55,54,56,54,57,55,48,55,49,55,50,55,51,55,52,55,53,55,54,55,55,55,56,55,57,56,48,56,49,56,50,56,51,56,52,56,53,56,54,56,55,56,56,56,57,57,48,57,49,57,50,57,51,57,52,57,53,57,54,57,55,57,56,57,57])) (.t 154)),zd 156 145 147,zs 156 153,zd 157 148 150,zs 157 155] (.reg [zm 158 4,zk 159 .sub 158 2,zm 4 159])))) .skip (zq [zm 160 4,zk 161 .gtr 160 0] (.cond (.t 161) (.reg [zm 162 0,zm 163 12,zo 164 (.bin .add (.c (.int .u32 (.ofNat 48))) (.t 163)),zv 165 .u8 164,zo 166 (.idxA 1 (.t 162) (zi 0)),zs 166 165]) .skip)))))),[]⟩
theorem za179:cN Tryz.prog 179=some c179:=by kernel_rfl
def c145:AFn:=⟨36,zq [zo 6 (.mv zn)] (zr [zm 9 2,zk 10 .eql 9 10] 10 (zr [zm 11 1,zo 12 (.bin .lss (.t 11) (.c (.int .u64 (.ofNat 100))))] 12 (zq [zm 13 0,zm 14 1,zv 15 .i64 14,zx 16 177 [.t 15],zy 17 13 16,zm 6 17] .ret) .skip (zq [zo 7 (.new [zU 0,zU 0,zU 0,zU 0,zU 0,zU 0,zU 0,zU 0,zU 0,zU 0,zU 0,zU 0,zU 0,zU 0,zU 0,zU 0,zU 0,zU 0,zU 0,zU 0,zU 0,zU 0,zU 0,zU 0])] (zq [zm 18 1,zx 19 178 [.t 18],zm 8 19] (zq [zm 20 8,zo 21 (.slA 24 1 (.t 7) none (some (.t 20)) none),zm 22 1,zx 23 179 [.t 21,.t 22]] (zq [zm 24 0,zm 25 8,zo 26 (.slA 24 1 (.t 7) none (some (.t 25)) none),zy 27 24 26,zm 6 27] .ret))))) .skip (zq [zm 29 0,zm 30 1,zm 31 2,zx 32 180 [.t 29,.t 30,.t 31,.c (.bool false),.c (.bool true)],zm 28 32,ze 33 0 28,ze 34 1 28,zm 0 33] (zq [zm 35 0,zm 6 35] .ret))),[.t 6]⟩
theorem za145:cN Tryz.prog 145=some c145:=by kernel_rfl
def c71:AFn:=⟨53,zq [zo 4 (.new [zU 0,.str [],zI 0,zI 0,zI 0,zI 0]),zo 5 (.new [zI 0,zI 0])] (zr [zm 7 0,zo 8 (.len true (.t 7)),zk 9 .gtr 8 16384] 9 (zq [zo 10 (.build [zU 0,.str [],zI 0,zI 0,zI 0,zI 0] []),zo 11 (.build [zI 0,zI 0] [(0,1,zi 3)]),zp (.store 6 (.t 4) (.t 10)),zp (.store 2 (.t 5) (.t 11))] .ret) .skip (zr [zm 12 1,zk 13 .lss 12 0,zm 14 13,zg 15 (.mv (.t 1)) 14 false,zg 16 (.mv (.t 0)) 14 false,zg 17 (.len true (.t 16)) 14 false,zg 18 (.bin .gtr (.t 15) (.t 17)) 14 false,zo 19 (.pick (.t 14) (.c (.bool true)) (.t 18))] 19 (zq [zo 20 (.build [zU 0,.str [],zI 0,zI 0,zI 0,zI 0] []),zo 21 (.build [zI 0,zI 0] [(0,1,zi 2)]),zp (.store 6 (.t 4) (.t 20)),zp (.store 2 (.t 5) (.t 21))] .ret) .skip (zq [zm 22 0,zm 23 1,zx 24 112 [.t 22,.t 23],zm 1 24] (zr [zm 25 1,zm 26 0,zo 27 (.len true (.t 26)),zb 28 .eql 25 27] 28 (zq [zm 29 0,zm 30 1,zx 31 113 [.t 29,.t 30],zm 32 1,zm 33 1,zo 34 (.build [zU 0,.str [],zI 0,zI 0,zI 0,zI 0] [(0,1,zu 5),(3,1,.t 31),(4,1,.t 32),(5,1,.t 33)]),zo 35 (.build [zI 0,zI 0] []),zp (.store 6 (.t 4) (.t 34)),zp (.store 2 (.t 5) (.t 35))] .ret) .skip (zq [zm 36 0,zm 37 1,zx 38 114 [.t 36,.t 37],zo 6 (.new [zU 0,.str [],zI 0,zI 0,zI 0,zI 0]),zp (.store 6 (.t 6) (.t 38))] (zr [zf 39 0 6,zl 40 39,zo 41 (.bin .eql (.t 40) (zu 0))] 41 (zq [zo 42 (.build [zU 0,.str [],zI 0,zI 0,zI 0,zI 0] []),zm 43 0,zm 44 1,zx 45 113 [.t 43,.t 44],zo 46 (.build [zI 0,zI 0] [(0,1,zi 100),(1,1,.t 45)]),zp (.store 6 (.t 4) (.t 42)),zp (.store 2 (.t 5) (.t 46))] .ret) .skip (zq [zm 47 0,zm 48 1,zx 49 113 [.t 47,.t 48],zf 50 3 6,zs 50 49] (zq [zt 51 6 6,zo 52 (.build [zI 0,zI 0] []),zp (.store 6 (.t 4) (.t 51)),zp (.store 2 (.t 5) (.t 52))] .ret)))))))),[.cell true 6 4,.cell true 2 5]⟩
theorem za71:cN Tryz.prog 71=some c71:=by kernel_rfl
def c112:AFn:=⟨45,zq [zo 4 (.mv (zi 0))] (.seq (.block 0 (.loop (zr [zm 6 1,zm 7 0,zo 8 (.len true (.t 7)),zb 9 .lss 6 8] 9 .skip (.exit 0) (.block 1 (zq [zm 10 0,zm 11 1,zo 12 (.idxS (.t 10) (.t 11)),zm 5 12] (zq [zm 13 5,zo 14 (.bin .eql (.t 13) (zu 35))] (.cond (.t 14) (.block 2 (.loop (zr [zm 15 1,zm 16 0,zo 17 (.len true (.t 16)),zb 18 .lss 15 17,zm 19 18,zg 20 (.mv (.t 0)) 19 true,zg 21 (.mv (.t 1)) 19 true,zg 22 (.idxS (.t 20) (.t 21)) 19 true,zg 23 (.bin .neq (.t 22) (zu 10)) 19 true,zo 24 (.pick (.t 19) (.t 23) (.c (.bool false)))] 24 .skip (.exit 2) (.block 3 (.reg [zm 25 1,zk 26 .add 25 1,zm 1 26]))))) (zq [zm 27 5,zo 28 (.bin .eql (.t 27) (zu 9)),zm 29 28,zg 30 (.mv (.t 5)) 29 false,zg 31 (.bin .eql (.t 30) (zu 10)) 29 false,zo 32 (.pick (.t 29) (.c (.bool true)) (.t 31)),zm 33 32,zg 34 (.mv (.t 5)) 33 false,zg 35 (.bin .eql (.t 34) (zu 13)) 33 false,zo 36 (.pick (.t 33) (.c (.bool true)) (.t 35)),zm 37 36,zg 38 (.mv (.t 5)) 37 false,zg 39 (.bin .eql (.t 38) (zu 32)) 37 false,zo 40 (.pick (.t 37) (.c (.bool true)) (.t 39))] (.cond (.t 40) (.reg [zm 41 1,zk 42 .add 41 1,zm 1 42]) (zq [zm 43 1,zm 4 43] .ret)))))))))) (zq [zm 44 1,zm 4 44] .ret)),[.t 4]⟩
theorem za112:cN Tryz.prog 112=some c112:=by kernel_rfl
def c113:AFn:=⟨19,zq [zo 4 (.mv (zi 0))] (zq [zo 5 (.mv (zi 1))] (.seq (zq [zo 6 (.mv (zi 0))] (.block 0 (.loop (zr [zm 7 6,zm 8 1,zb 9 .lss 7 8] 9 .skip (.exit 0) (.seq (.block 1 (zq [zm 12 0,zm 13 6,zo 14 (.idxS (.t 12) (.t 13)),zo 15 (.bin .eql (.t 14) (zu 10))] (.cond (.t 15) (.reg [zm 16 5,zk 17 .add 16 1,zm 5 17]) .skip))) (.reg [zm 10 6,zk 11 .add 10 1,zm 6 11])))))) (zq [zm 18 5,zm 4 18] .ret))),[.t 4]⟩
theorem za113:cN Tryz.prog 113=some c113:=by kernel_rfl
def c114:AFn:=⟨120,zq [zo 4 (.new [zU 0,.str [],zI 0,zI 0,zI 0,zI 0])] (.seq (zq [zm 12 0,zm 13 1,zx 14 156 [.t 12,.t 13],zm 5 14] (zq [zm 15 5,zk 16 .gtr 15 0] (.cond (.t 16) (zq [zm 18 0,zm 19 1,zm 20 1,zm 21 5,zb 22 .add 20 21,zo 23 (.slStr (.t 18) (some (.t 19)) (some (.t 22))),zx 24 157 [.t 23],zm 17 24,ze 25 0 17,ze 26 1 17,zm 6 25,zm 7 26] (zr [zm 27 7,zo 28 (.un .not (.t 27))] 28 (zq [zo 29 (.build [zU 0,.str [],zI 0,zI 0,zI 0,zI 0] []),zp (.store 6 (.t 4) (.t 29))] .ret) .skip (zq [zm 30 6,zm 31 1,zm 32 1,zm 33 5,zb 34 .add 32 33,zo 35 (.build [zU 0,.str [],zI 0,zI 0,zI 0,zI 0] [(0,1,zu 1),(2,1,.t 30),(4,1,.t 31),(5,1,.t 34)]),zp (.store 6 (.t 4) (.t 35))] .ret))) .skip))) (zr [zm 36 0,zm 37 1,zo 38 (.idxS (.t 36) (.t 37)),zx 39 158 [.t 38]] 39 (zq [zm 40 1,zm 8 40] (.seq (.block 0 (.loop (zr [zm 41 8,zm 42 0,zo 43 (.len true (.t 42)),zb 44 .lss 41 43,zm 45 44,zg 46 (.mv (.t 0)) 45 true,zg 47 (.mv (.t 8)) 45 true,zg 48 (.idxS (.t 46) (.t 47)) 45 true,zg 49 (.call 158 [.t 48]) 45 true,zg 50 (.mv (.t 49)) 45 true,zg 51 (.mv (.t 0)) 50 false,zg 52 (.mv (.t 8)) 50 false,zg 53 (.idxS (.t 51) (.t 52)) 50 false,zg 54 (.call 159 [.t 53]) 50 false,zg 55 (.pick (.t 50) (.c (.bool true)) (.t 54)) 45 true,zo 56 (.pick (.t 45) (.t 55) (.c (.bool false)))] 56 .skip (.exit 0) (.block 1 (.reg [zm 57 8,zk 58 .add 57 1,zm 8 58]))))) (zq [zm 59 0,zm 60 1,zm 61 8,zo 62 (.slStr (.t 59) (some (.t 60)) (some (.t 61))),zm 63 1,zm 64 8,zo 65 (.build [zU 0,.str [],zI 0,zI 0,zI 0,zI 0] [(0,1,zu 2),(1,1,.t 62),(4,1,.t 63),(5,1,.t 64)]),zo 9 (.new [zU 0,.str [],zI 0,zI 0,zI 0,zI 0]),zp (.store 6 (.t 9) (.t 65))] (zr [zf 66 1 9,zl 67 66,zo 68 (.buildSl 6 [.str []] [(0,1,.c (.str [108,101,116])),(1,1,.c (.str [115,101,116])),(2,1,.c (.str [105,102])),(3,1,.c (.str [101,108,115,101])),(4,1,.c (.str [119,104,105,108,101])),(5,1,.c (.str [114,101,116,117,114,110]))]),zx 69 160 [.t 67,.t 68]] 69 (.reg [zf 70 0 9,zp (.store 1 (.t 70) (zu 3))]) .skip (zq [zt 71 6 9,zp (.store 6 (.t 4) (.t 71))] .ret))))) .skip (zq [zo 72 (.buildSl 20 [.str []] [(0,1,.c (.str [38,38])),(1,1,.c (.str [124,124])),(2,1,.c (.str [61,61])),(3,1,.c (.str [33,61])),(4,1,.c (.str [60,61])),(5,1,.c (.str [62,61])),(6,1,.c (.str [60])),(7,1,.c (.str [62])),(8,1,.c (.str [43])),(9,1,.c (.str [45])),(10,1,.c (.str [42])),(11,1,.c (.str [47])),(12,1,.c (.str [33])),(13,1,.c (.str [40])),(14,1,.c (.str [41])),(15,1,.c (.str [123])),(16,1,.c (.str [125])),(17,1,.c (.str [44])),(18,1,.c (.str [59])),(19,1,.c (.str [61]))]),zm 10 72] (.seq (zq [zo 11 (.mv (zi 0))] (.block 2 (.loop (zr [zm 73 11,zm 74 10,zh 75 74,zb 76 .lss 73 75] 76 .skip (.exit 2) (.seq (.block 3 (zq [zm 79 1,zm 80 10,zm 81 11,zd 82 80 81,zl 83 82,zo 84 (.len true (.t 83)),zb 85 .add 79 84,zm 86 0,zo 87 (.len true (.t 86)),zb 88 .leq 85 87,zm 89 88,zg 90 (.mv (.t 0)) 89 true,zg 91 (.mv (.t 1)) 89 true,zg 92 (.mv (.t 1)) 89 true,zg 93 (.mv (.t 10)) 89 true,zg 94 (.mv (.t 11)) 89 true,zg 95 (.idxA 1 (.t 93) (.t 94)) 89 true,zg 96 (.load false 1 (.t 95)) 89 true,zg 97 (.len true (.t 96)) 89 true,zg 98 (.bin .add (.t 92) (.t 97)) 89 true,zg 99 (.slStr (.t 90) (some (.t 91)) (some (.t 98))) 89 true,zg 100 (.mv (.t 10)) 89 true,zg 101 (.mv (.t 11)) 89 true,zg 102 (.idxA 1 (.t 100) (.t 101)) 89 true,zg 103 (.load false 1 (.t 102)) 89 true,zg 104 (.bin .eql (.t 99) (.t 103)) 89 true,zo 105 (.pick (.t 89) (.t 104) (.c (.bool false)))] (.cond (.t 105) (zq [zm 106 10,zm 107 11,zd 108 106 107,zl 109 108,zm 110 1,zm 111 1,zm 112 10,zm 113 11,zd 114 112 113,zl 115 114,zo 116 (.len true (.t 115)),zb 117 .add 111 116,zo 118 (.build [zU 0,.str [],zI 0,zI 0,zI 0,zI 0] [(0,1,zu 4),(1,1,.t 109),(4,1,.t 110),(5,1,.t 117)]),zp (.store 6 (.t 4) (.t 118))] .ret) .skip))) (.reg [zm 77 11,zk 78 .add 77 1,zm 11 78])))))) (zq [zo 119 (.build [zU 0,.str [],zI 0,zI 0,zI 0,zI 0] []),zp (.store 6 (.t 4) (.t 119))] .ret))))),[.cell true 6 4]⟩
theorem za114:cN Tryz.prog 114=some c114:=by kernel_rfl
def c156:AFn:=⟨57,zq [zo 4 (.mv (zi 0))] (zq [zm 7 1,zm 5 7] (.seq (.block 0 (.loop (zr [zm 8 5,zm 9 0,zo 10 (.len true (.t 9)),zb 11 .lss 8 10,zm 12 11,zg 13 (.mv (.t 0)) 12 true,zg 14 (.mv (.t 5)) 12 true,zg 15 (.idxS (.t 13) (.t 14)) 12 true,zg 16 (.call 159 [.t 15]) 12 true,zo 17 (.pick (.t 12) (.t 16) (.c (.bool false)))] 17 .skip (.exit 0) (.block 1 (.reg [zm 18 5,zk 19 .add 18 1,zm 5 19]))))) (zr [zm 20 5,zm 21 1,zb 22 .eql 20 21] 22 (zq [zo 4 (.mv (zi 0))] .ret) .skip (zq [zm 23 5,zk 24 .add 23 1,zm 6 24] (.seq (.block 2 (.loop (zr [zm 25 5,zm 26 0,zo 27 (.len true (.t 26)),zb 28 .lss 25 27,zm 29 28,zg 30 (.mv (.t 0)) 29 true,zg 31 (.mv (.t 5)) 29 true,zg 32 (.idxS (.t 30) (.t 31)) 29 true,zg 33 (.bin .eql (.t 32) (zu 46)) 29 true,zo 34 (.pick (.t 29) (.t 33) (.c (.bool false))),zm 35 34,zg 36 (.mv (.t 6)) 35 true,zg 37 (.mv (.t 0)) 35 true,zg 38 (.len true (.t 37)) 35 true,zg 39 (.bin .lss (.t 36) (.t 38)) 35 true,zo 40 (.pick (.t 35) (.t 39) (.c (.bool false))),zm 41 40,zg 42 (.mv (.t 0)) 41 true,zg 43 (.mv (.t 6)) 41 true,zg 44 (.idxS (.t 42) (.t 43)) 41 true,zg 45 (.call 159 [.t 44]) 41 true,zo 46 (.pick (.t 41) (.t 45) (.c (.bool false)))] 46 .skip (.exit 2) (.block 3 (.reg [zm 47 6,zk 48 .add 47 1,zm 6 48]))))) (zr [zm 49 6,zm 50 5,zk 51 .add 50 1,zb 52 .gtr 49 51] 52 (.reg [zm 53 6,zm 5 53]) .skip (zq [zm 54 5,zm 55 1,zb 56 .sub 54 55,zm 4 56] .ret))))))),[.t 4]⟩
theorem za156:cN Tryz.prog 156=some c156:=by kernel_rfl
def c159:AFn:=⟨9,zq [zo 2 (.mv (.c (.bool false)))] (zq [zm 3 0,zo 4 (.bin .geq (.t 3) (zu 48)),zm 5 4,zg 6 (.mv (.t 0)) 5 true,zg 7 (.bin .leq (.t 6) (zu 57)) 5 true,zo 8 (.pick (.t 5) (.t 7) (.c (.bool false))),zm 2 8] .ret),[.t 2]⟩
theorem za159:cN Tryz.prog 159=some c159:=by kernel_rfl
def c157:AFn:=⟨92,zq [zo 2 (.mv (zi 0)),zo 3 (.mv (.c (.bool false)))] (zr [zm 13 0,zx 14 156 [.t 13,zi 0],zm 15 0,zo 16 (.len true (.t 15)),zb 17 .neq 14 16,zm 18 17,zg 19 (.mv (.t 0)) 18 false,zg 20 (.len true (.t 19)) 18 false,zg 21 (.bin .eql (.t 20) (zi 0)) 18 false,zo 22 (.pick (.t 18) (.c (.bool true)) (.t 21))] 22 (zq [zo 2 (.mv (zi 0)),zo 3 (.mv (.c (.bool false)))] .ret) .skip (zq [zo 4 (.mv (zi 0))] (zq [zo 5 (.mv (zi 0))] (.seq (.block 0 (.loop (zr [zm 23 5,zm 24 0,zo 25 (.len true (.t 24)),zb 26 .lss 23 25,zm 27 26,zg 28 (.mv (.t 0)) 27 true,zg 29 (.mv (.t 5)) 27 true,zg 30 (.idxS (.t 28) (.t 29)) 27 true,zg 31 (.bin .neq (.t 30) (zu 46)) 27 true,zo 32 (.pick (.t 27) (.t 31) (.c (.bool false)))] 32 .skip (.exit 0) (.block 1 (zq [zm 33 4,zk 34 .mul 33 10,zm 35 0,zm 36 5,zo 37 (.idxS (.t 35) (.t 36)),zo 38 (.bin .sub (.t 37) (zu 48)),zv 39 .i64 38,zb 40 .add 34 39,zm 4 40] (zr [zm 41 4,zk 42 .geq 41 2147483648] 42 (zq [zo 2 (.mv (zi 0)),zo 3 (.mv (.c (.bool false)))] .ret) .skip (.reg [zm 43 5,zk 44 .add 43 1,zm 5 44]))))))) (zq [zo 6 (.mv zn)] (.seq (zq [zm 45 5,zk 46 .add 45 1,zm 7 46] (.block 2 (.loop (zr [zm 47 7,zm 48 0,zo 49 (.len true (.t 48)),zb 50 .lss 47 49] 50 .skip (.exit 2) (.seq (.block 3 (.reg [zm 53 6,zm 54 0,zm 55 7,zo 56 (.idxS (.t 54) (.t 55)),zo 57 (.bin .sub (.t 56) (zu 48)),zv 58 .i64 57,zo 59 (.buildSl 1 [zI 0] [(0,1,.t 58)]),zo 60 (.append 1 8 (.t 53) (.t 59)),zm 6 60])) (.reg [zm 51 7,zk 52 .add 51 1,zm 7 52])))))) (zq [zm 61 4,zm 8 61] (.seq (zq [zo 9 (.mv (zi 0))] (.block 4 (.loop (zr [zm 62 9,zk 63 .lss 62 32] 63 .skip (.exit 4) (.seq (.block 5 (zq [zo 10 (.mv (zi 0))] (.seq (zq [zm 66 6,zh 67 66,zk 68 .sub 67 1,zm 11 68] (.block 6 (.loop (zr [zm 69 11,zk 70 .geq 69 0] 70 .skip (.exit 6) (.seq (.block 7 (zq [zm 73 6,zm 74 11,zd 75 73 74,zl 76 75,zk 77 .mul 76 2,zm 78 10,zb 79 .add 77 78,zm 12 79] (zq [zm 80 6,zm 81 11,zm 82 12,zk 83 .rem 82 10,zd 84 80 81,zs 84 83] (.reg [zm 85 12,zk 86 .quo 85 10,zm 10 86])))) (.reg [zm 71 11,zk 72 .sub 71 1,zm 11 72])))))) (.reg [zm 87 8,zk 88 .mul 87 2,zm 89 10,zb 90 .add 88 89,zm 8 90])))) (.reg [zm 64 9,zk 65 .add 64 1,zm 9 65])))))) (zq [zm 91 8,zm 2 91,zo 3 (.mv (.c (.bool true)))] .ret))))))))),[.t 2,.t 3]⟩
theorem za157:cN Tryz.prog 157=some c157:=by kernel_rfl
def c158:AFn:=⟨21,zq [zo 2 (.mv (.c (.bool false)))] (zq [zm 3 0,zo 4 (.bin .geq (.t 3) (zu 97)),zm 5 4,zg 6 (.mv (.t 0)) 5 true,zg 7 (.bin .leq (.t 6) (zu 122)) 5 true,zo 8 (.pick (.t 5) (.t 7) (.c (.bool false))),zm 9 8,zg 10 (.mv (.t 0)) 9 false,zg 11 (.bin .geq (.t 10) (zu 65)) 9 false,zg 12 (.mv (.t 11)) 9 false,zg 13 (.mv (.t 0)) 12 true,zg 14 (.bin .leq (.t 13) (zu 90)) 12 true,zg 15 (.pick (.t 12) (.t 14) (.c (.bool false))) 9 false,zo 16 (.pick (.t 9) (.c (.bool true)) (.t 15)),zm 17 16,zg 18 (.mv (.t 0)) 17 false,zg 19 (.bin .eql (.t 18) (zu 95)) 17 false,zo 20 (.pick (.t 17) (.c (.bool true)) (.t 19)),zm 2 20] .ret),[.t 2]⟩
theorem za158:cN Tryz.prog 158=some c158:=by kernel_rfl
def c160:AFn:=⟨18,zq [zo 4 (.mv (.c (.bool false)))] (.seq (zq [zo 5 (.mv (zi 0))] (.block 0 (.loop (zr [zm 6 5,zm 7 1,zh 8 7,zb 9 .lss 6 8] 9 .skip (.exit 0) (.seq (.block 1 (zq [zm 12 1,zm 13 5,zd 14 12 13,zl 15 14,zm 16 0,zb 17 .eql 15 16] (.cond (.t 17) (zq [zo 4 (.mv (.c (.bool true)))] .ret) .skip))) (.reg [zm 10 5,zk 11 .add 10 1,zm 5 11])))))) (zq [zo 4 (.mv (.c (.bool false)))] .ret)),[.t 4]⟩
theorem za160:cN Tryz.prog 160=some c160:=by kernel_rfl
end
end Go.Proofs.Wo
namespace Go.Proofs.Wo
open Go.Abs Go.Abs.S Go.Proofs
def mdT:Nat→Option PMd:=fun f=>bif Nat.beq f 30 then some ⟨[],some (60,1,false)⟩ else bif Nat.beq f 32 then some ⟨[],some (63,1,false)⟩ else bif Nat.beq f 54 then some ⟨[],some (97,2,false)⟩ else none
def aClone(H:AHeap):List AVal→Option (AVal×AHeap)
 | [.str s]=>bif Nat.ble s.length 281474976710656 then some (.str s,H) else none
 | _=>none
def aTrue(H:AHeap):List AVal→Option (AVal×AHeap)
 | []=>some (.bool true,H)
 | _=>none
def nat0:ANat:=⟨fun f=>Nat.beq f 153,fun f args H=>bif Nat.beq f 153 then aClone H args else none,fun _=>none⟩
def nat:ANat:=⟨fun f=>Nat.beq f 153||Nat.beq f 19,fun f args H=>bif Nat.beq f 153 then aClone H args else bif Nat.beq f 19 then aTrue H args else none,fun _=>none⟩
abbrev natT:ANat:=natM nat mdT
open Go.Abs Go.Abs.S
abbrev Bs:=List UInt8
def dig(b:UInt8):Bool:=decide (48≤b.toNat)&&decide (b.toNat≤57)
def beg(b:UInt8):Bool:=((decide (97≤b.toNat)&&decide (b.toNat≤122))||(decide (65≤b.toNat)&&decide (b.toNat≤90)))||decide (b.toNat=95)
def bgd(b:UInt8):Bool:=beg b||dig b
def blk(b:UInt8):Bool:=((decide (b.toNat=9)||decide (b.toNat=10))||decide (b.toNat=13))||decide (b.toNat=32)
def nln(b:UInt8):Bool:=!decide (b.toNat=10)
def runF(p:UInt8→Bool)(s:Bs)(at_:Nat):Nat:=at_+((s.drop at_).takeWhile p).length
theorem drop_some{s:Bs}{i:Nat}{c:UInt8}(h:s[i]?=some c):s.drop i=c::s.drop (i+1):=by
 have hlt:=(List.getElem?_eq_some_iff.1 h).1
 rw[List.drop_eq_getElem_cons hlt]
 congr 1
 rw[List.getElem?_eq_getElem hlt]at h
 simpa using h
theorem runF_go{p:UInt8→Bool}{s:Bs}{i:Nat}{c:UInt8}(h:s[i]?=some c)(hp:p c=true):runF p s i=runF p s (i+1):=by
 unfold runF
 rw[drop_some h,List.takeWhile_cons_of_pos hp,List.length_cons]
 omega
theorem runF_no{p:UInt8→Bool}{s:Bs}{i:Nat}{c:UInt8}(h:s[i]?=some c)(hp:p c=false):runF p s i=i:=by
 unfold runF
 rw[drop_some h,List.takeWhile_cons_of_neg (by simp[hp])]
 simp
theorem runF_end{p:UInt8→Bool}{s:Bs}{i:Nat}(h:s.length≤i):runF p s i=i:=by
 unfold runF
 rw[List.drop_eq_nil_of_le h]
 simp
theorem runF_ge(p:UInt8→Bool)(s:Bs)(i:Nat):i≤runF p s i:=Nat.le_add_right _ _
theorem runF_le{p:UInt8→Bool}{s:Bs}{i:Nat}(h:i≤s.length):runF p s i≤s.length:=by
 unfold runF
 have:=(List.takeWhile_sublist (p:=p) (l:=s.drop i)).length_le
 simp only[List.length_drop]at this
 omega
theorem runF_in{p:UInt8→Bool}{s:Bs}{i j:Nat}(h1:i≤j)(h2:j<runF p s i):∃c,s[j]?=some c∧p c=true:=by
 unfold runF at h2
 have hj:j-i<((s.drop i).takeWhile p).length:=om
 have hm:=List.getElem_mem hj
 have hp:=List.all_takeWhile (p:=p) (l:=s.drop i)
 refine⟨((s.drop i).takeWhile p)[j-i],?_,List.all_eq_true.1 hp _ hm⟩
 obtain⟨t,ht⟩:=List.takeWhile_prefix p (l:=s.drop i)
 have:(s.drop i)[j-i]?=some ((s.drop i).takeWhile p)[j-i]:=by
  conv=>lhs; rw[← ht]
  rw[List.getElem?_append_left hj,List.getElem?_eq_getElem hj]
 rw[List.getElem?_drop,show i+(j-i)=j by omega]at this
 exact this
theorem runF_out{p:UInt8→Bool}{s:Bs}{i:Nat}{c:UInt8}(h:s[runF p s i]?=some c):p c=false:=by
 unfold runF at h
 rw[← List.getElem?_drop]at h
 generalize s.drop i=l at h
 induction l with
 | nil=>simp at h
 | cons a l ih=>
  cases ha:p a with
  | true=>
   rw[List.takeWhile_cons_of_pos ha]at h
   simp only[List.length_cons,List.getElem?_cons_succ]at h
   exact ih h
  | false=>
   rw[List.takeWhile_cons_of_neg (by simp[ha])]at h
   simp only[List.length_nil,List.getElem?_cons_zero,sJ]at h
   rw[← h]; exact ha
def numF(s:Bs)(i:Nat):Nat:=
 if runF dig s i=i∨s[runF dig s i]?≠some 46 then runF dig s i
 else if runF dig s i+1<runF dig s (runF dig s i+1) then runF dig s (runF dig s i+1) else runF dig s i
theorem numF_ge(s:Bs)(i:Nat):i≤numF s i:=by
 unfold numF
 have h1:=runF_ge dig s i
 have h2:=runF_ge dig s (runF dig s i+1)
 split
 ·exact h1
 ·split <;> omega
theorem numF_le{s:Bs}{i:Nat}(h:i≤s.length):numF s i≤s.length:=by
 unfold numF
 have h1:=runF_le (p:=dig) h
 split
 ·exact h1
 ·rename_i hn
  have hs:s[runF dig s i]?=some 46:=by
   by_cases c:s[runF dig s i]?=some 46
   ·exact c
   ·exact absurd (.inr c) hn
  have hlt:=(List.getElem?_eq_some_iff.1 hs).1
  split
  ·exact runF_le om
  ·exact h1
mutual
def bl:Bs→Bs
 | []=>[]
 | c::r=>if blk c then bl r else if c.toNat=35 then rm r else c::r
def rm:Bs→Bs
 | []=>[]
 | c::r=>if c.toNat=10 then bl r else rm r
end
def skipF(s:Bs)(i:Nat):Nat:=s.length-(bl (s.drop i)).length
mutual
theorem bl_le:∀l:Bs,(bl l).length≤l.length
 | []=>by simp[bl]
 | c::r=>by
  have h1:=bl_le r
  have h2:=rm_le r
  simp only[bl]
  split
  ·simp; omega
  ·split
   ·simp; omega
   ·simp
theorem rm_le:∀l:Bs,(rm l).length≤l.length
 | []=>by simp[rm]
 | c::r=>by
  have h1:=bl_le r
  have h2:=rm_le r
  simp only[rm]
  split
  ·simp; omega
  ·simp; omega
end
theorem skipF_le(s:Bs)(i:Nat):skipF s i≤s.length:=by unfold skipF; omega
theorem skip_blank{s:Bs}{i:Nat}{c:UInt8}(h:s[i]?=some c)(hb:blk c=true):skipF s i=skipF s (i+1):=by
 unfold skipF
 rw[drop_some h,bl,if_pos hb]
theorem skip_stop{s:Bs}{i:Nat}{c:UInt8}(h:s[i]?=some c)(hb:blk c=false)(hc:c.toNat≠35):skipF s i=i:=by
 have hlt:=(List.getElem?_eq_some_iff.1 h).1
 unfold skipF
 rw[drop_some h,bl,if_neg (by simp[hb]),if_neg hc,← drop_some h,List.length_drop]
 omega
theorem skip_end{s:Bs}{i:Nat}(h:s.length=i):skipF s i=i:=by
 unfold skipF
 rw[List.drop_eq_nil_of_le om,bl]
 simp; omega
theorem skip_run(s:Bs)(i:Nat):skipF s (runF blk s i)=skipF s i:=by
 have key:∀l:Bs,bl (l.drop (l.takeWhile blk).length)=bl l:=by
  intro l
  induction l with
  | nil=>simp
  | cons a l ih=>
   cases ha:blk a with
   | true=>rw[List.takeWhile_cons_of_pos ha,List.length_cons,List.drop_succ_cons,ih,bl,if_pos ha]
   | false=>rw[List.takeWhile_cons_of_neg (by simp[ha])]; simp
 unfold skipF runF
 rw[← List.drop_drop,key]
theorem rm_run:∀l:Bs,rm l=bl (l.drop (l.takeWhile nln).length)
 | []=>by simp[rm,bl]
 | c::r=>by
  by_cases h:c.toNat=10
  ·have hn:nln c=false:=by simp[nln,h]
   have hb:blk c=true:=by simp[blk,h]
   rw[rm,if_pos h,List.takeWhile_cons_of_neg (by simp[hn]),List.length_nil,List.drop_zero,bl,if_pos hb]
  ·have hn:nln c=true:=by simp[nln,h]
   rw[rm,if_neg h,List.takeWhile_cons_of_pos hn,List.length_cons,List.drop_succ_cons,rm_run r]
theorem skip_remark{s:Bs}{i:Nat}{c:UInt8}(h:s[i]?=some c)(hc:c.toNat=35):skipF s i=skipF s (runF nln s i):=by
 have hb:blk c=false:=by simp[blk,hc]
 have hn:nln c=true:=by simp[nln,hc]
 rw[runF_go h hn]
 unfold skipF runF
 rw[drop_some h,bl,if_neg (by simp[hb]),if_pos hc,rm_run,List.drop_drop]
def lineF(s:Bs)(i:Nat):Nat:=1+(s.take i).count 10
theorem line_succ{s:Bs}{i:Nat}{c:UInt8}(h:s[i]?=some c):lineF s (i+1)=lineF s i+if c.toNat=10 then 1 else 0:=by
 unfold lineF
 rw[List.take_add_one,h,Option.toList_some,List.count_append,List.count_singleton]
 have e:(c==(10:UInt8))=decide (c.toNat=10):=by
  rw[Bool.eq_iff_iff,beq_iff_eq,decide_eq_true_eq]
  constructor
  ·intro h; rw[h]; rfl
  ·intro h; exact UInt8.toNat_inj.1 h
 rw[e]
 by_cases hc:c.toNat=10
 ·simp[hc]; omega
 ·simp[hc]
def dv(c:UInt8):Nat:=c.toNat-48
def valF(l:Bs):Nat:=l.foldl (fun n c=>n*10+dv c) 0
theorem foldl_val(l:Bs)(n:Nat):l.foldl (fun n c=>n*10+dv c) n=n*10 ^ l.length+valF l:=by
 induction l generalizing n with
 | nil=>simp[valF]
 | cons c l ih=>
  simp only[List.foldl_cons,valF,List.length_cons]
  rw[ih,ih (0*10+dv c)]
  rw[Nat.pow_succ]
  have:(n*10+dv c)*10 ^ l.length=n*(10 ^ l.length*10)+(0*10+dv c)*10 ^ l.length:=by
   rw[Nat.add_mul,Nat.zero_mul,Nat.zero_add,Nat.mul_assoc,Nat.mul_comm 10]
  omega
theorem val_snoc(l:Bs)(c:UInt8):valF (l++[c])=valF l*10+dv c:=by simp[valF]
open Go.Abs Go.Abs.S
def valN(l:List Nat):Nat:=l.foldl (fun n d=>n*10+d) 0
theorem valN_from(l:List Nat)(n:Nat):l.foldl (fun n d=>n*10+d) n=n*10 ^ l.length+valN l:=by
 induction l generalizing n with
 | nil=>simp[valN]
 | cons c l ih=>
  simp only[List.foldl_cons,valN,List.length_cons]
  rw[ih,ih (0*10+c),Nat.pow_succ]
  have:(n*10+c)*10 ^ l.length=n*(10 ^ l.length*10)+(0*10+c)*10 ^ l.length:=by
   rw[Nat.add_mul,Nat.zero_mul,Nat.zero_add,Nat.mul_assoc,Nat.mul_comm 10]
  omega
theorem valN_cons(d:Nat)(l:List Nat):valN (d::l)=d*10 ^ l.length+valN l:=by
 have:=valN_from l (0*10+d)
 simp only[Nat.zero_mul,Nat.zero_add]at this
 rw[← this]; simp[valN]
theorem valN_lt:∀{l:List Nat},(∀d∈l,d≤9)→valN l<10 ^ l.length
 | [],_=>by simp[valN]
 | d::l,h=>by
  have h1:=h d (by simp)
  have h2:=valN_lt (l:=l) fun x hx=>h x (by simp[hx])
  rw[valN_cons,List.length_cons,Nat.pow_succ]
  have:d*10 ^ l.length≤9*10 ^ l.length:=Nat.mul_le_mul_right _ h1
  omega
def dbl:List Nat→Nat×List Nat
 | []=>(0,[])
 | d::r=>((d*2+(dbl r).1) / 10,(d*2+(dbl r).1) % 10::(dbl r).2)
theorem dbl_len:∀l:List Nat,(dbl l).2.length=l.length
 | []=>rfl
 | d::r=>by simp only[dbl,List.length_cons,dbl_len r]
theorem dbl_over:∀{l:List Nat},(∀d∈l,d≤9)→(dbl l).1≤1
 | [],_=>by simp[dbl]
 | d::r,h=>by
  have h1:=h d (by simp)
  have h2:=dbl_over (l:=r) fun x hx=>h x (by simp[hx])
  simp only[dbl]; omega
theorem dbl_dig:∀(l:List Nat),∀d∈(dbl l).2,d≤9
 | [],d,h=>by simp[dbl]at h
 | a::r,d,h=>by
  simp only[dbl,List.mem_cons]at h
  rcases h with rfl | h
  ·omega
  ·exact dbl_dig r d h
theorem dbl_val:∀(l:List Nat),(dbl l).1*10 ^ l.length+valN (dbl l).2=2*valN l
 | []=>by simp[dbl,valN]
 | d::r=>by
  have ih:=dbl_val r
  simp only[dbl,valN_cons,dbl_len,List.length_cons,Nat.pow_succ]
  generalize (dbl r).1=o at *
  generalize valN (dbl r).2=v at *
  generalize valN r=u at *
  generalize 10 ^ r.length=p at *
  have h1:=Nat.div_add_mod (d*2+o) 10
  have e1:(d*2+o) / 10*(p*10)=10*((d*2+o) / 10)*p:=by rw[Nat.mul_comm p,← Nat.mul_assoc,Nat.mul_comm _ 10]
  have e2:(10*((d*2+o) / 10)+(d*2+o) % 10)*p=(d*2+o)*p:=by rw[h1]
  have e3:(d*2+o)*p=2*(d*p)+o*p:=by rw[Nat.add_mul,Nat.mul_comm d 2,Nat.mul_assoc]
  rw[Nat.add_mul]at e2
  rw[e1]
  omega
def bits(l:List Nat)(n:Nat):Nat→Nat×List Nat
 | 0=>(n,l)
 | k+1=>(2*(bits l n k).1+(dbl (bits l n k).2).1,(dbl (bits l n k).2).2)
theorem bits_len(l:List Nat)(n:Nat):∀k,(bits l n k).2.length=l.length
 | 0=>rfl
 | k+1=>by simp only[bits,dbl_len,bits_len l n k]
theorem bits_dig{l:List Nat}(h:∀d∈l,d≤9)(n:Nat):∀k,∀d∈(bits l n k).2,d≤9
 | 0=>h
 | k+1=>by simp only[bits]; exact dbl_dig _
theorem bits_val(l:List Nat)(n:Nat):∀k,(bits l n k).1*10 ^ l.length+valN (bits l n k).2=2 ^ k*(n*10 ^ l.length+valN l)
 | 0=>by simp[bits]
 | k+1=>by
  have ih:=bits_val l n k
  have h2:=dbl_val (bits l n k).2
  rw[bits_len]at h2
  simp only[bits,Nat.pow_succ]
  rw[Nat.add_mul,Nat.mul_assoc,Nat.mul_right_comm (2 ^ k),← ih]
  omega
theorem bits_end{l:List Nat}(h:∀d∈l,d≤9)(n k:Nat):(bits l n k).1=2 ^ k*(n*10 ^ l.length+valN l) / 10 ^ l.length:=by
 have h1:=bits_val l n k
 have h2:=valN_lt (bits_dig h n k)
 rw[bits_len]at h2
 rw[← h1]
 have hp:0<10 ^ l.length:=Nat.pos_of_ne_zero (by simp)
 rw[Nat.mul_comm,Nat.mul_add_div hp,Nat.div_eq_of_lt h2,Nat.add_zero]
def frac(l:List Nat):Nat:=2 ^ 32*valN l / 10 ^ l.length
theorem bits_frac{l:List Nat}(h:∀d∈l,d≤9)(n:Nat):(bits l n 32).1=2 ^ 32*n+frac l:=by
 rw[bits_end h,frac,Nat.mul_add]
 have hp:0<10 ^ l.length:=Nat.pos_of_ne_zero (by simp)
 rw[← Nat.mul_assoc,Nat.mul_comm (2 ^ 32*n),Nat.mul_add_div hp]
theorem frac_lt{l:List Nat}(h:∀d∈l,d≤9):frac l<2 ^ 32:=by
 have:=valN_lt h
 unfold frac
 have hp:0<10 ^ l.length:=Nat.pos_of_ne_zero (by simp)
 exact (Nat.div_lt_iff_lt_mul hp).2 (Nat.mul_lt_mul_of_pos_left this dD)
theorem valN_append(a b:List Nat):valN (a++b)=valN a*10 ^ b.length+valN b:=by
 have:=valN_from b (valN a)
 rw[← this]; simp[valN]
theorem valN_zeros:∀k,valN (List.replicate k 0)=0
 | 0=>rfl
 | k+1=>by rw[List.replicate_succ,valN_cons,valN_zeros k]; simp
theorem frac_pad(l:List Nat)(k:Nat):frac (l++List.replicate k 0)=frac l:=by
 unfold frac
 rw[valN_append,valN_zeros,lA,List.length_replicate,Nat.add_zero,Nat.pow_add,← Nat.mul_assoc]
 exact Nat.mul_div_mul_right _ _ (Nat.pos_of_ne_zero (by simp))
theorem frac_take{l:List Nat}(h:∀d∈l,d≤9)(hl:32≤l.length):frac (l.take 32)=frac l:=by
 have ht:(l.take 32).length=32:=by simp; omega
 have hd:(l.drop 32).length=l.length-32:=by simp
 have e:valN l=valN (l.take 32)*10 ^ (l.length-32)+valN (l.drop 32):=by
  rw[← hd,← valN_append,List.take_append_drop]
 have hlt:=valN_lt (l:=l.drop 32) fun d hd=>h d (List.mem_of_mem_drop hd)
 rw[hd]at hlt
 have e2:(10:Nat) ^ l.length=10 ^ (l.length-32)*10 ^ 32:=by rw[← Nat.pow_add]; congr 1; omega
 unfold frac
 rw[ht,e,e2]
 generalize valN (l.take 32)=A
 generalize valN (l.drop 32)=B at *
 generalize hp:(10:Nat) ^ (l.length-32)=p at *
 have hpp:0<p:=by rw[← hp]; exact Nat.pos_of_ne_zero (by simp)
 rw[← Nat.div_div_eq_div_mul,Nat.mul_add,← Nat.mul_assoc,Nat.mul_comm (2 ^ 32*A) p,Nat.mul_add_div hpp]
 have hc:2 ^ 32*B / p<2 ^ 32:=(Nat.div_lt_iff_lt_mul hpp).2 (Nat.mul_lt_mul_of_pos_left hlt dD)
 generalize 2 ^ 32*B / p=c at hc
 have e3:(10:Nat) ^ 32=2 ^ 32*5 ^ 32:=by decide
 rw[e3,← Nat.div_div_eq_div_mul,← Nat.div_div_eq_div_mul,Nat.mul_add_div dD,Nat.div_eq_of_lt hc,Nat.add_zero,Nat.mul_div_cancel_left _ dD]
open Go.Abs Go.Abs.S
abbrev by8(c:UInt8):AVal:=.int .u8 (c.toNat:Int)
def Says(N:ANat)(g:Nat)(p:UInt8→Bool):Prop:=∀(c:UInt8) (H:AHeap),ACalls Tryz.prog N g [by8 c] H fun v H'=>v=.bool (p c)∧H=H'
theorem digit_spec(hN:natT.is 103=false):Says natT 103 dig:=by
 intro c H
 refine acalls_ofN hN za103 rfl ?_
 by_cases h1:(48:Int)≤(c.toNat:Int)
 ·by_cases h2:(c.toNat:Int)≤57
  ·simp only[c103,sA,sB,seval,h1,h2]
   exact⟨by simp[dig]; omega,by trivial⟩
  ·simp only[c103,sA,sB,seval,h1,h2]
   exact⟨by simp[dig]; omega,by trivial⟩
 ·simp only[c103,sA,sB,seval,h1]
  exact⟨by simp[dig]; omega,by trivial⟩
theorem begins_spec(hN:natT.is 106=false):Says natT 106 beg:=by
 intro c H
 refine acalls_ofN hN za106 rfl ?_
 have e:beg c=(((decide ((97:Int)≤c.toNat)&&decide ((c.toNat:Int)≤122))||(decide ((65:Int)≤c.toNat)&&decide ((c.toNat:Int)≤90)))||decide ((c.toNat:Int)=95)):=by
  rw[Bool.eq_iff_iff]; simp[beg]; omega
 rw[e]
 by_cases h1:(97:Int)≤(c.toNat:Int) <;> by_cases h2:(c.toNat:Int)≤122 <;> by_cases h3:(65:Int)≤(c.toNat:Int) <;> by_cases h4:(c.toNat:Int)≤90 <;> by_cases h5:(c.toNat:Int)=95
 all_goals first
  | (exfalso; omega)
  | (simp only [c106, sA, sB, seval, h1, h2, h3, h4, h5]
     exact ⟨by simp, by trivial⟩)
theorem blank_spec(hN:natT.is 146=false):Says natT 146 blk:=by
 intro c H
 refine acalls_ofN hN za146 rfl ?_
 have e:blk c=(((decide ((c.toNat:Int)=9)||decide ((c.toNat:Int)=10))||decide ((c.toNat:Int)=13))||decide ((c.toNat:Int)=32)):=by
  rw[Bool.eq_iff_iff]; simp[blk]; omega
 rw[e]
 by_cases h1:(c.toNat:Int)=9 <;> by_cases h2:(c.toNat:Int)=10 <;> by_cases h3:(c.toNat:Int)=13 <;> by_cases h4:(c.toNat:Int)=32
 all_goals first
  | (exfalso; omega)
  | (simp only [c146, sA, sB, seval, h1, h2, h3, h4]
     exact ⟨by simp, by trivial⟩)
theorem nline_spec(hN:natT.is 147=false):Says natT 147 nln:=by
 intro c H
 refine acalls_ofN hN za147 rfl ?_
 have e:nln c=!decide ((c.toNat:Int)=10):=by
  rw[Bool.eq_iff_iff]; simp[nln]; omega
 rw[e]
 by_cases h1:(c.toNat:Int)=10
 all_goals
  simp only[c147,sA,sB,seval,h1]
  exact⟨by trivial,by trivial⟩
theorem namy_spec(hN:natT.is 108=false)(h24:natT.is 106=false)(h22:natT.is 103=false):Says natT 108 bgd:=by
 intro c H
 refine acalls_ofN hN za108 rfl ?_
 simp only[c108,sA,sB,seval]
 refine (begins_spec h24 c H).mono ?_
 rintro v _ ⟨rfl,rfl⟩
 cases hb:beg c with
 | true=>
  simp only[sA,sB,seval]
  exact⟨by simp[bgd,hb],by trivial⟩
 | false=>
  simp only[sA,sB,seval]
  refine (digit_spec h22 c H).mono ?_
  rintro v _ ⟨rfl,rfl⟩
  cases hd:dig c with
  | true=>simp only[sA,sB,seval]; exact⟨by simp[bgd,hb,hd],by trivial⟩
  | false=>simp only[sA,sB,seval]; exact⟨by simp[bgd,hb,hd],by trivial⟩
theorem run_spec(hN:natT.is 107=false){g:Nat}{p:UInt8→Bool}(hp:Says natT g p){H:AHeap}{s:Bs}{i:Nat}(hi:i≤s.length)(hs:s.length≤4611686018427387904)(hg:g<1024:=by decide) :
  ACalls Tryz.prog natT 107 [.str s,.int .i64 (i:Int),.func (.func g) [] []] H fun v H'=>v=.int .i64 (runF p s i:Int)∧H=H':=by
 refine acalls_ofN hN za107 rfl ?_
 simp only[c107,hg,sA,sB,seval]
 refine aw_loop (fun q (T:Env) H'=>∃j:Nat,j≤s.length∧q=s.length-j∧T 0=.str s∧T 1=.int .i64 (j:Int)∧T 2=.func (.func g) [] []∧runF p s i=runF p s j∧H=H') (s.length-i) ⟨i,hi,rfl,rfl,rfl,rfl,rfl,rfl⟩ ?_
 rintro q T _ ⟨j,hj,rfl,g0,g1,g2,hA,rfl⟩
 by_cases hlt:j<s.length
 ·have hlt':(j:Int)<(s.length:Int):=om
  obtain⟨c,hc⟩:=isSome_of_lt hlt
  simp only[sA,sB,seval,hg,g0,g1,g2,hlt',str_idx hc]
  refine (hp c H).mono ?_
  rintro v _ ⟨rfl,rfl⟩
  cases hb:p c with
  | true=>
   simp only[sA,sB,seval,hg,g0,g1,g2,wrap1 j om]
   exact⟨_,om,j+1,om,rfl,by trivial,rfl,by trivial,by rw[hA,runF_go hc hb],by trivial⟩
  | false=>
   simp only[sA,sB,seval,hg,g0,g1,g2]
   exact⟨by rw[hA,runF_no hc hb],by trivial⟩
 ·have hlt':¬(j:Int)<(s.length:Int):=om
  simp only[sA,sB,seval,hg,g0,g1,g2,hlt']
  exact⟨by rw[hA,runF_end om],by trivial⟩
theorem skip_spec(h20:natT.is 101=false)(h25:natT.is 107=false)(h45:natT.is 146=false)(h46:natT.is 147=false){H:AHeap}{s:Bs}{i:Nat}(hi:i≤s.length)(hs:s.length≤4611686018427387904) :
  ACalls Tryz.prog natT 101 [.str s,.int .i64 (i:Int)] H fun v H'=>v=.int .i64 (skipF s i:Int)∧H=H':=by
 refine acalls_ofN h20 za101 rfl ?_
 simp only[c101,sA,sB,seval]
 refine aw_loop (fun q (T:Env) H'=>∃j:Nat,j≤s.length∧q=s.length-j∧T 0=.str s∧T 1=.int .i64 (j:Int)∧skipF s i=skipF s j∧H=H') (s.length-i) ⟨i,hi,rfl,rfl,rfl,rfl,rfl⟩ ?_
 rintro q T _ ⟨j,hj,rfl,g0,g1,hA,rfl⟩
 simp only[sA,sB,seval,g0,g1]
 refine (run_spec h25 (blank_spec h45) hj hs).mono ?_
 rintro v _ ⟨rfl,rfl⟩
 have h1:=runF_ge blk s j
 have h2:=runF_le (p:=blk) hj
 rw[← skip_run s j]at hA
 have hout:∀c,s[runF blk s j]?=some c→blk c=false:=fun c=>runF_out
 generalize runF blk s j=e at *
 by_cases he:e=s.length
 ·have he':(e:Int)=(s.length:Int):=om
  simp only[sA,sB,seval,g0,g1,he']
  exact⟨by rw[hA,skip_end he.symm,he],by trivial⟩
 have he':¬(e:Int)=(s.length:Int):=om
 obtain⟨c,hc⟩:=isSome_of_lt (l:=s) (i:=e) om
 by_cases h35:(c.toNat:Int)=35
 ·simp only[sA,sB,seval,g0,g1,he',str_idx hc,h35]
  refine (run_spec h25 (nline_spec h46) h2 hs).mono ?_
  rintro v _ ⟨rfl,rfl⟩
  have h3:=runF_le (p:=nln) h2
  have hn:nln c=true:=by simp[nln]; omega
  have h4:e<runF nln s e:=by rw[runF_go hc hn]; have:=runF_ge nln s (e+1); omega
  simp only[sA,sB,seval,g0,g1]
  exact⟨_,om,runF nln s e,h3,rfl,by trivial,by trivial,by rw[hA,skip_remark hc om],by trivial⟩
 ·simp only[sA,sB,seval,g0,g1,he',str_idx hc,h35]
  exact⟨by rw[hA,skip_stop hc (hout c hc) om],by trivial⟩
theorem numeral_spec(h23:natT.is 104=false)(h25:natT.is 107=false)(h22:natT.is 103=false){H:AHeap}{s:Bs}{i:Nat}(hi:i≤s.length)(hs:s.length≤4611686018427387904) :
  ACalls Tryz.prog natT 104 [.str s,.int .i64 (i:Int)] H fun v H'=>v=.int .i64 (numF s i:Int)∧H=H':=by
 refine acalls_ofN h23 za104 rfl ?_
 simp only[c104,sA,sB,seval]
 refine (run_spec h25 (digit_spec h22) hi hs).mono ?_
 rintro v _ ⟨rfl,rfl⟩
 have h1:=runF_ge dig s i
 have h2:=runF_le (p:=dig) hi
 unfold numF
 generalize runF dig s i=e at *
 by_cases he:(e:Int)=(i:Int)
 ·obtain rfl:e=i:=om
  simp only[sA,sB,seval]
  exact⟨by rw[if_pos (.inl (by trivial))],by trivial⟩
 by_cases hl:(e:Int)=(s.length:Int)
 ·obtain rfl:e=s.length:=om
  have hn:s[s.length]?=none:=List.getElem?_eq_none om
  simp only[sA,sB,seval,he]
  exact⟨by rw[if_pos (.inr (by rw[hn]; simp))],by trivial⟩
 obtain⟨c,hc⟩:=isSome_of_lt (l:=s) (i:=e) om
 by_cases h46:(c.toNat:Int)=46
 ·have hc46:s[e]?=some 46:=by
   rw[hc]; congr 1; exact UInt8.toNat_inj.1 (by simpa using (show c.toNat=46 by omega))
  have hcond:¬(e=i∨s[e]?≠some 46):=by
   rintro (h | h)
   ·omega
   ·exact h hc46
  rw[if_neg hcond]
  simp only[sA,sB,seval,he,hl,str_idx hc,h46,wrap1 e om]
  refine (run_spec h25 (digit_spec h22) (i:=e+1) om hs).mono ?_
  rintro v _ ⟨rfl,rfl⟩
  by_cases hm:((e+1:Nat):Int)<(runF dig s (e+1):Int)
  ·simp only[sA,sB,seval,wrap1 e om,hm]
   exact⟨by rw[if_pos om],by trivial⟩
  ·simp only[sA,sB,seval,wrap1 e om,hm]
   exact⟨by rw[if_neg om],by trivial⟩
 ·have hcond:e=i∨s[e]?≠some 46:=by
   right
   rw[hc]
   intro h
   simp only[sJ]at h
   subst h
   exact h46 rfl
  rw[if_pos hcond]
  simp only[sA,sB,seval,he,hl,str_idx hc,h46]
  exact⟨by trivial,by trivial⟩
open Go.Abs Go.Abs.S
def digs(s:Bs):List Nat:=s.map dv
theorem digs_le{s:Bs}(h:∀c∈s,dig c=true):∀d∈digs s,d≤9:=by
 intro d hd
 obtain⟨c,hc,rfl⟩:=List.mem_map.1 hd
 have:=h c hc
 simp[dig]at this
 unfold dv; omega
def pad(s:Bs)(i:Nat):List Nat:=digs (s.take i)++List.replicate (32-i) 0
theorem pad_len(s:Bs){i:Nat}(h:i≤s.length)(h2:i≤32):(pad s i).length=32:=by
 simp[pad,digs]; omega
theorem pad_set(s:Bs){i:Nat}{c:UInt8}(hc:s[i]?=some c)(h2:i<32):(pad s i).set i (dv c)=pad s (i+1):=by
 have hlt:=(List.getElem?_eq_some_iff.1 hc).1
 have hl:(digs (s.take i)).length=i:=by simp[digs]; omega
 unfold pad
 rw[List.set_append_right _ _ om,hl,Nat.sub_self,show 32-i=(32-(i+1))+1 by omega,List.replicate_succ,List.set_cons_zero]
 rw[List.take_add_one,hc]
 simp[digs]
theorem pad_frac(s:Bs)(h:∀c∈s,dig c=true):frac (pad s (min s.length 32))=frac (digs s):=by
 by_cases hl:s.length≤32
 ·rw[Nat.min_eq_left hl,pad,List.take_length,frac_pad]
 ·rw[Nat.min_eq_right om]
  have e:pad s 32=(digs s).take 32:=by simp[pad,digs,List.map_take]
  rw[e,frac_take (digs_le h) (by simp[digs]; omega)]
def half(l:List Nat)(m:Nat):List Nat:=l.take m++(dbl (l.drop m)).2
theorem half_all(l:List Nat):half l l.length=l:=by simp[half,dbl]
theorem half_zero(l:List Nat):half l 0=(dbl l).2:=by simp[half]
theorem half_len(l:List Nat)(m:Nat):(half l m).length=l.length:=by
 simp[half,dbl_len]; omega
theorem half_get{l:List Nat}{m d:Nat}(h:l[m]?=some d):(half l (m+1))[m]?=some d:=by
 have hlt:=(List.getElem?_eq_some_iff.1 h).1
 rw[half,List.getElem?_append_left (by simp; omega),List.getElem?_take_of_lt om,h]
theorem drop_at{l:List Nat}{m d:Nat}(h:l[m]?=some d):l.drop m=d::l.drop (m+1):=by
 have hlt:=(List.getElem?_eq_some_iff.1 h).1
 rw[List.drop_eq_getElem_cons hlt]
 congr 1
 rw[List.getElem?_eq_getElem hlt]at h
 simpa using h
theorem half_set{l:List Nat}{m d:Nat}(h:l[m]?=some d):(half l (m+1)).set m ((d*2+(dbl (l.drop (m+1))).1) % 10)=half l m:=by
 have hlt:=(List.getElem?_eq_some_iff.1 h).1
 unfold half
 rw[drop_at h,dbl]
 rw[List.set_append_left _ _ (by simp; omega)]
 rw[List.take_add_one,h,Option.toList_some,List.set_append_right _ _ (by simp; omega),List.append_assoc]
 congr 1
 have:m-(l.take m).length=0:=by simp; omega
 rw[this]; rfl
theorem part_spec(h35:natT.is 152=false){H:AHeap}{s:Bs}(hd:∀c∈s,dig c=true)(hs:s.length≤4611686018427387904) :
  ACalls Tryz.prog natT 152 [.str s] H fun v H'=>v=.int .i64 (frac (digs s):Int)∧Ext H.next H H':=by
 refine acalls_ofN h35 za152 rfl ?_
 obtain⟨H1,m1,r1,n1,k1⟩:=row_newL H (u8s (List.replicate 32 0)) (n:=32) rfl
 have hz:u8s (List.replicate 32 0)=[.int .u8 0,.int .u8 0,.int .u8 0,.int .u8 0,.int .u8 0,.int .u8 0,.int .u8 0,.int .u8 0,.int .u8 0,.int .u8 0,.int .u8 0,.int .u8 0,.int .u8 0,.int .u8 0,.int .u8 0,.int .u8 0,.int .u8 0,.int .u8 0,.int .u8 0,.int .u8 0,.int .u8 0,.int .u8 0,.int .u8 0,.int .u8 0,.int .u8 0,.int .u8 0,.int .u8 0,.int .u8 0,.int .u8 0,.int .u8 0,.int .u8 0,.int .u8 0]:=rfl
 rw[hz]at m1
 have hmin:(if (32:Int)<(s.length:Int) then (32:Int) else (s.length:Int))=((min s.length 32:Nat):Int):=by
  split <;> omega
 simp only[c152,sA,sB,seval,m1,hmin]
 have p0:pad s 0=List.replicate 32 0:=by simp[pad,digs]
 rw[← p0]at r1
 generalize hb:H.next=b at *
 refine aw_loop (fun q (T:Env) H'=>∃i:Nat,i≤min s.length 32∧q=min s.length 32-i∧T 0=.str s∧T 3=cellR b 32 0∧T 11=.int .i64 ((min s.length 32:Nat):Int)∧T 12=.int .i64 (i:Int)∧Row H' b (u8s (pad s i))∧H'.next=b+1∧∀c,c<b→H'.get c=H.get c) (min s.length 32)
  ⟨0,Nat.zero_le _,rfl,rfl,by simp only[sA,sB,seval],by simp only[sA,sB,seval],by simp only[sA,sB,seval]; try rfl,r1,om,fun c hc=>k1 c om⟩ ?_
 clear m1 r1 k1 n1 H1
 rintro q T H1 ⟨i,hi,rfl,g0,g3,g11,g12,r1,n1,k1⟩
 by_cases hlt:i<min s.length 32
 ·have hlt':(i:Int)<((min s.length 32:Nat):Int):=om
  obtain⟨c,hc⟩:=isSome_of_lt (l:=s) (i:=i) om
  have hdc:=hd c (List.mem_of_getElem? hc)
  have hdv:(c.toNat:Int)-48=((dv c:Nat):Int):=by simp[dig]at hdc; unfold dv; omega
  have hd9:dv c≤9:=by simp[dig]at hdc; unfold dv; omega
  have hw:IntKind.u8.wrap ((dv c:Nat):Int)=((dv c:Nat):Int):=wrapU8 om om
  have ia:=arr_idx (b:=b) (n:=32) (i:=i) om .i64
  obtain⟨H2,m2,r2,n2,k2⟩:=row_store r1 (n:=32) (by rw[u8s_len,pad_len s om om]) (i:=i) om (x:=.int .u8 ((dv c:Nat):Int)) rfl
  simp only[sA,sB,seval,g0,g3,g11,g12,hlt',str_idx hc,hdv,hw,ia,m2,wrap1 i om]
  refine⟨_,om,i+1,om,rfl,by trivial,by trivial,by trivial,rfl,?_,om,fun c hc=>(k2 c om).trans (k1 c hc)⟩
  rw[← pad_set s hc om,u8s_set]
  exact r2
 obtain rfl:i=min s.length 32:=om
 simp only[sA,sB,seval,g0,g3,g11,g12,Int.lt_irrefl]
 have hl:=pad_len s (i:=min s.length 32) om om
 have hp9:∀d∈pad s (min s.length 32),d≤9:=by
  intro d hdm
  rcases List.mem_append.1 hdm with h | h
  ·exact digs_le (s:=s.take (min s.length 32)) (fun c hc=>hd c (List.mem_of_mem_take hc)) d h
  ·have:=(List.mem_replicate.1 h).2; omega
 rw[← pad_frac s hd]
 generalize pad s (min s.length 32)=l at *
 refine aw_loop (fun q (T:Env) H'=>∃k:Nat,k≤32∧q=32-k∧T 3=cellR b 32 0∧T 5=.int .i64 ((bits l 0 k).1:Int)∧T 22=.int .i64 (k:Int)∧Row H' b (u8s (bits l 0 k).2)∧H'.next=b+1∧∀c,c<b→H'.get c=H.get c) 32
  ⟨0,Nat.zero_le _,rfl,by simp only[sA,sB,seval,g3],by simp only[sA,sB,seval]; try rfl,by simp only[sA,sB,seval]; try rfl,r1,n1,k1⟩ ?_
 clear g0 g3 g11 g12 r1 n1 k1 T H1
 rintro q T H1 ⟨k,hk,rfl,g3,g5,g22,r1,n1,k1⟩
 by_cases hlt:k<32
 ·have hlt':(k:Int)<32:=om
  have hb9:=bits_dig hp9 0 k
  have hbl:=bits_len l 0 k
  rw[hl]at hbl
  have hbv:(bits l 0 k).1<2 ^ 32:=by
   have h1:=bits_val l 0 k
   have h2:=valN_lt hp9
   rw[Nat.zero_mul,Nat.zero_add,hl]at h1
   rw[hl]at h2
   have h3:2 ^ k≤2 ^ 32:=Nat.pow_le_pow_right om hk
   have h4:(bits l 0 k).1*10 ^ 32<2 ^ 32*10 ^ 32:=by
    calc (bits l 0 k).1*10 ^ 32≤2 ^ k*valN l:=om
     _≤2 ^ 32*valN l:=Nat.mul_le_mul_right _ h3
     _<2 ^ 32*10 ^ 32:=Nat.mul_lt_mul_of_pos_left h2 dD
   exact Nat.lt_of_mul_lt_mul_right h4
  simp only[sA,sB,seval,g3,g5,g22,hlt']
  have hbits:bits l 0 (k+1)=(2*(bits l 0 k).1+(dbl (bits l 0 k).2).1,(dbl (bits l 0 k).2).2):=rfl
  generalize hm:(bits l 0 k).2=m at *
  generalize hout:(bits l 0 k).1=out at *
  have hov:=dbl_over hb9
  refine aw_loop (fun q (T:Env) H'=>∃j:Nat,j≤32∧j=q∧T 3=cellR b 32 0∧T 5=.int .i64 (out:Int)∧T 22=.int .i64 (k:Int)∧T 6=.int .u8 ((dbl (m.drop j)).1:Int)∧T 7=.int .i64 ((j:Int)-1)∧Row H' b (u8s (half m j))∧H'.next=b+1∧∀c,c<b→H'.get c=H.get c) 32
   ⟨32,om,rfl,by simp only[sA,sB,seval,g3],by simp only[sA,sB,seval,g5],by simp only[sA,sB,seval,g22],by simp only[sA,sB,seval]; rw[List.drop_eq_nil_of_le om]; rfl,by simp only[sA,sB,seval]; try rfl,by rw[← hbl,half_all]; exact r1,n1,k1⟩ ?_
  clear g3 g5 g22 r1 n1 k1 T H1
  rintro q T H1 ⟨j,hj,rfl,g3,g5,g22,g6,g7,r1,n1,k1⟩
  cases j with
  | zero=>
   have c0:¬(0:Int)≤((0:Nat):Int)-1:=om
   rw[List.drop_zero]at g6
   rw[half_zero]at r1
   have hsh:out*2 ^ 1<2 ^ 63:=om
   have e1:=bin_shlN (k':=.u64) (a:=out) (b:=1) om hsh
   have e2:=bin_orN (a:=out*2 ^ 1) (b:=(dbl m).1) hsh om
   rw[or_low 1 out om]at e2
   have hw:IntKind.i64.wrap ((dbl m).1:Int)=((dbl m).1:Int):=wrap64 om om
   simp only[Int.cast_ofNat_Int]at e1
   simp only[sA,sB,seval,g3,g5,g22,g6,g7,c0,e1,e2,hw,wrap1 k om]
   refine⟨_,om,k+1,om,rfl,by trivial,?_,rfl,?_,n1,k1⟩
   ·rw[hbits]; simp only; congr 2; omega
   ·rw[hbits]; exact r1
  | succ j=>
   have c0:(0:Int)≤((j+1:Nat):Int)-1:=om
   have ej:((j+1:Nat):Int)-1=(j:Int):=om
   rw[ej]at g7 c0
   obtain⟨d,hdd⟩:=isSome_of_lt (l:=m) (i:=j) om
   have hd9:=hb9 d (List.mem_of_getElem? hdd)
   have ho:=dbl_over (l:=m.drop (j+1)) fun x hx=>hb9 x (List.mem_of_mem_drop hx)
   have hset:=half_set hdd
   have hdr:dbl (m.drop j)=((d*2+(dbl (m.drop (j+1))).1) / 10,(d*2+(dbl (m.drop (j+1))).1) % 10::(dbl (m.drop (j+1))).2):=by rw[drop_at hdd]; rfl
   generalize (dbl (m.drop (j+1))).1=o at *
   have ia:=arr_idx (b:=b) (n:=32) (i:=j) om .i64
   have l1:=row_load r1 (n:=32) (by rw[u8s_len,half_len,hbl]) (u8s_get (half_get hdd))
   have w1:IntKind.u8.wrap ((d:Int)*2)=((d*2:Nat):Int):=by rw[wrapU8 om om]; omega
   have w2:IntKind.u8.wrap (((d*2:Nat):Int)+(o:Int))=((d*2+o:Nat):Int):=by rw[wrapU8 om om]; omega
   have e3:aBin .rem (.int .u8 ((d*2+o:Nat):Int)) (.int .u8 10)=some (.int .u8 (((d*2+o) % 10:Nat):Int)):=by
    rw[bin_rem _ _ _ om]; rfl
   have e4:aBin .quo (.int .u8 ((d*2+o:Nat):Int)) (.int .u8 10)=some (.int .u8 (((d*2+o) / 10:Nat):Int)):=by
    rw[bin_quo _ _ _ om]
    have:((d*2+o:Nat):Int).tdiv 10=(((d*2+o) / 10:Nat):Int):=rfl
    rw[this,wrapU8 om om]
   obtain⟨H2,m2,r2,n2,k2⟩:=row_store r1 (n:=32) (by rw[u8s_len,half_len,hbl]) (i:=j) om (x:=.int .u8 (((d*2+o) % 10:Nat):Int)) rfl
   have hwj:IntKind.i64.wrap ((j:Int)-1)=(j:Int)-1:=wrap64 om om
   simp only[sA,sB,seval,g3,g5,g22,g6,g7,c0,ia,l1,w1,w2,e3,e4,m2,hwj]
   refine⟨_,Nat.lt_succ_self j,j,om,rfl,by trivial,by trivial,by trivial,by rw[hdr],by trivial,?_,om,fun c hc=>(k2 c om).trans (k1 c hc)⟩
   rw[← hset,u8s_set]
   exact r2
 obtain rfl:k=32:=om
 have hlast:=bits_frac hp9 0
 rw[Nat.mul_zero,Nat.zero_add]at hlast
 rw[hlast]at g5
 simp only[sA,sB,seval,g3,g5,g22,Int.cast_ofNat_Int,Int.lt_irrefl]
 exact⟨by trivial,⟨om,fun c hc=>k1 c om⟩⟩
open Go.Abs Go.Abs.S
def npt(c:UInt8):Bool:=!decide (c.toNat=46)
def whole(s:Bs):Bs:=s.takeWhile npt
def behind(s:Bs):Bs:=(s.dropWhile npt).drop 1
def hasPt(s:Bs):Bool:=!(s.all npt)
theorem whole_le(s:Bs):(whole s).length≤s.length:=(List.takeWhile_sublist (p:=npt) (l:=s)).length_le
theorem whole_eq(s:Bs):whole s=s.take (whole s).length:=by
 exact (List.prefix_iff_eq_take.1 (List.takeWhile_prefix npt (l:=s)))
theorem drop_whole(s:Bs):s.drop (whole s).length=s.dropWhile npt:=by
 have h:whole s++s.dropWhile npt=s:=List.takeWhile_append_dropWhile (p:=npt) (l:=s)
 generalize hw:whole s=w at *
 conv=>lhs; rw[← h]
 rw[List.drop_left]
theorem behind_eq(s:Bs):behind s=s.drop ((whole s).length+1):=by
 rw[behind,← drop_whole,List.drop_drop]
theorem hasPt_lt{s:Bs}(h:hasPt s=true):(whole s).length<s.length:=by
 rcases Nat.lt_or_ge (whole s).length s.length with hl | hl
 ·exact hl
 ·have e:whole s=s:=by rw[whole_eq s,List.take_of_length_le hl]
  have:s.all npt=true:=by rw[← e]; exact List.all_takeWhile
  simp[hasPt,this]at h
theorem ibF_go(s:Bs)(n:Nat):ibF 46 s n=if hasPt s then ((n+(whole s).length:Nat):Int) else -1:=by
 induction s generalizing n with
 | nil=>rfl
 | cons c r ih=>
  rw[ibF]
  by_cases h:c.toNat=46
  ·have hc:c=46:=UInt8.toNat_inj.1 h
   subst hc
   simp[hasPt,npt,whole]
  ·have hc:¬c=46:=fun e=>h (by rw[e]; rfl)
   have hn:npt c=true:=by simp[npt,h]
   have e1:hasPt (c::r)=hasPt r:=by simp[hasPt,hn]
   have e2:(whole (c::r)).length=(whole r).length+1:=by rw[whole,List.takeWhile_cons_of_pos hn]; rfl
   have e3:Nat.beq c.toNat (UInt8.toNat 46)=false:=by
    cases hb:Nat.beq c.toNat (UInt8.toNat 46) with
    | false=>rfl
    | true=>exact absurd (Nat.eq_of_beq_eq_true hb) h
   rw[e1,e2,e3,cond_false,ih,show n+1+(whole r).length=n+((whole r).length+1) by omega]
theorem no_pt{s:Bs}(h:hasPt s=false):whole s=s∧behind s=[]:=by
 have ha:s.all npt=true:=by simpa[hasPt] using h
 have hall:=List.all_eq_true.1 ha
 have e:whole s=s:=by
  rw[whole]
  have:=List.takeWhile_append_of_pos (p:=npt) (l₁:=s) (l₂:=[]) hall
  simpa using this
 exact⟨e,by rw[behind_eq,e]; simp⟩
theorem ibs_spec(h76:natT.is 184=false){H:AHeap}{s:Bs}:ACalls Tryz.prog natT 184 [.str s,.int .u8 46] H fun v H'=>v=.int .i64 (ibF 46 s 0)∧H=H':=by
 refine acalls_ofN h76 za184 rfl ?_
 have e:aPf .ibs [.str s,.int .u8 46]=some (.int .i64 (ibF 46 s 0)):=rfl
 simp only[c184,sA,sB,seval,e]
 exact⟨by trivial,by trivial⟩
theorem index_spec(h74:natT.is 181=false)(h76:natT.is 184=false){H:AHeap}{s:Bs}:ACalls Tryz.prog natT 181 [.str s,.str [46]] H fun v H'=>v=.int .i64 (ibF 46 s 0)∧H=H':=by
 refine acalls_ofN h74 za181 rfl ?_
 have i0:aIdxS (.str [46]) (.int .i64 0)=some (.int .u8 46):=rfl
 have hl1:((List.length [(46:UInt8)]:Nat):Int)=1:=rfl
 by_cases hs:[46]=s
 ·subst hs
  have e:ibF 46 [46] 0=0:=rfl
  rw[e]
  simp only[c181,sA,sB,seval,hl1]
  exact⟨by trivial,by trivial⟩
 ·simp only[c181,sA,sB,seval,hl1,hs,i0]
  refine (ibs_spec h76).mono ?_
  rintro v _ ⟨rfl,rfl⟩
  simp only[sA,sB,seval]
  exact⟨by trivial,by trivial⟩
theorem cut_spec(h34:natT.is 151=false)(h57:natT.is 182=false)(h74:natT.is 181=false)(h76:natT.is 184=false){H:AHeap}{s:Bs}(hs:s.length≤4611686018427387904) :
  ACalls Tryz.prog natT 151 [.str s,.str [46]] H fun v H'=>v=.tuple [.str (whole s),.str (behind s),.bool (hasPt s)]∧H=H':=by
 refine acalls_ofN h34 za151 rfl ?_
 simp only[c151,sA,sB,seval]
 have key:ACalls Tryz.prog natT 182 [.str s,.str [46]] H fun v H'=>v=.tuple [.str (whole s),.str (behind s),.bool (hasPt s)]∧H=H':=by
  refine acalls_ofN h57 za182 rfl ?_
  simp only[c182,sA,sB,seval]
  refine (index_spec h74 h76).mono ?_
  rintro v _ ⟨rfl,rfl⟩
  have hl1:((List.length [(46:UInt8)]:Nat):Int)=1:=rfl
  rw[ibF_go]
  cases hp:hasPt s with
  | true=>
   have hlt:=hasPt_lt hp
   have hge:(0:Int)≤((0+(whole s).length:Nat):Int):=om
   rw[Nat.zero_add]at *
   have e1:=str_slH (s:=s) (h:=(whole s).length) (whole_le s)
   have e2:=str_slL (s:=s) (l:=(whole s).length+1) om
   rw[← whole_eq]at e1
   rw[← behind_eq]at e2
   simp only[sA,sB,seval,hge,hl1,wrap1 (whole s).length om,e1,e2]
   exact⟨by trivial,by trivial⟩
  | false=>
   obtain⟨e1,e2⟩:=no_pt hp
   simp only[sA,sB,seval,e1,e2]
   exact⟨by trivial,by trivial⟩
 refine key.mono ?_
 rintro v _ ⟨rfl,rfl⟩
 simp only[aExtract,List.getElem?_cons_zero,List.getElem?_cons_succ,sA,sB,seval]
 exact⟨by trivial,by trivial⟩
open Go.Abs Go.Abs.S
def isNum(s:Bs):Bool:=(match s with | []=>false | c::_=>dig c)&&decide (numF s 0=s.length)
def saysF(s:Bs):Option Nat:=if isNum s=true∧valF (whole s)<2147483648 then some (valF (whole s)*2 ^ 32+frac (digs (behind s))) else none
def told:Option Nat→AVal
 | some n=>.tuple [.int .i64 (n:Int),.bool true]
 | none=>.tuple [.int .i64 0,.bool false]
theorem dig_npt{c:UInt8}(h:dig c=true):npt c=true:=by
 simp[dig]at h; simp[npt]; omega
theorem whole_run(s:Bs):(whole s).length=runF npt s 0:=by simp[runF,whole]
theorem num_digs{s:Bs}(h:isNum s=true):(∀c∈whole s,dig c=true)∧∀c∈behind s,dig c=true:=by
 simp only[isNum,Bool.and_eq_true,decide_eq_true_eq]at h
 obtain⟨h0,h1⟩:=h
 have hin:∀{a j:Nat} {c:UInt8},a≤j→j<runF dig s a→s[j]?=some c→dig c=true:=by
  intro a j c ha hj hc
  obtain⟨d,hd,hp⟩:=runF_in ha hj
  rw[hc]at hd; cases hd; exact hp
 have hle:=runF_le (p:=dig) (s:=s) (i:=0) (Nat.zero_le _)
 by_cases hd:s[runF dig s 0]?=some 46
 ·have hlt:=(List.getElem?_eq_some_iff.1 hd).1
  have hp0:runF dig s 0≠0:=by
   intro e
   cases s with
   | nil=>simp at hlt
   | cons c r=>
    simp only at h0
    rw[runF_go (c:=c) rfl h0]at e
    have:=runF_ge dig (c::r) (0+1)
    omega
  have hw:(whole s).length=runF dig s 0:=by
   rw[whole_run]
   rcases Nat.lt_trichotomy (runF npt s 0) (runF dig s 0) with hl | hl | hl
   ·obtain⟨c,hc⟩:=isSome_of_lt (l:=s) (i:=runF npt s 0) om
    have:=runF_out hc
    rw[dig_npt (hin (Nat.zero_le _) hl hc)]at this
    cases this
   ·exact hl
   ·obtain⟨c,hc,hp⟩:=runF_in (Nat.zero_le _) hl
    rw[hd]at hc; cases hc
    simp[npt]at hp
  unfold numF at h1
  rw[if_neg (by rintro (e | e); exact hp0 e; exact e hd)]at h1
  split at h1
  ·constructor
   ·intro c hc
    rw[whole_eq,hw]at hc
    obtain⟨j,hj⟩:=List.mem_iff_getElem?.1 hc
    have hjl:=(List.getElem?_eq_some_iff.1 hj).1
    simp only[List.length_take]at hjl
    rw[List.getElem?_take_of_lt om]at hj
    exact hin (Nat.zero_le _) om hj
   ·intro c hc
    rw[behind_eq,hw]at hc
    obtain⟨j,hj⟩:=List.mem_iff_getElem?.1 hc
    rw[List.getElem?_drop]at hj
    have hjl:=(List.getElem?_eq_some_iff.1 hj).1
    exact hin (a:=runF dig s 0+1) om om hj
  ·omega
 ·unfold numF at h1
  rw[if_pos (.inr hd)]at h1
  have hall:∀c∈s,dig c=true:=by
   intro c hc
   obtain⟨j,hj⟩:=List.mem_iff_getElem?.1 hc
   have hjl:=(List.getElem?_eq_some_iff.1 hj).1
   exact hin (Nat.zero_le _) om hj
  have hp:hasPt s=false:=by
   simp only[hasPt,Bool.not_eq_false']
   exact List.all_eq_true.2 fun c hc=>dig_npt (hall c hc)
  obtain⟨e1,e2⟩:=no_pt hp
  rw[e1,e2]
  exact⟨hall,by simp⟩
theorem val_take_le(l:Bs)(i:Nat):valF (l.take i)≤valF l:=by
 have h:=foldl_val (l.drop i) (valF (l.take i))
 have e:valF l=List.foldl (fun n c=>n*10+dv c) (valF (l.take i)) (l.drop i):=by
  unfold valF
  rw[← List.foldl_append,List.take_append_drop]
 rw[e,h]
 have:valF (l.take i)*1≤valF (l.take i)*10 ^ (l.drop i).length:=Nat.mul_le_mul_left _ (Nat.pos_of_ne_zero (by simp))
 omega
theorem number_spec(h12:natT.is 105=false)(h22:natT.is 103=false)(h23:natT.is 104=false)(h25:natT.is 107=false)(h34:natT.is 151=false)(h35:natT.is 152=false)(h57:natT.is 182=false)(h74:natT.is 181=false)(h76:natT.is 184=false)
  {H:AHeap} {s:Bs} (hs:s.length≤4611686018427387904):ACalls Tryz.prog natT 105 [.str s] H fun v H'=>v=told (saysF s)∧Ext H.next H H':=by
 refine acalls_ofN h12 za105 rfl ?_
 cases s with
 | nil=>
  have e:saysF []=none:=rfl
  rw[e]
  simp only[c105,sA,sB,seval]
  exact⟨by trivial,Ext.refl _ _⟩
 | cons c r=>
  have i0:aIdxS (.str (c::r)) (.int .i64 0)=some (by8 c):=str_idx (s:=c::r) (i:=0) rfl .i64
  have hne:¬c::r=[]:=by simp
  simp only[c105,sA,sB,seval,hne,i0]
  refine (digit_spec h22 c H).mono ?_
  rintro v _ ⟨rfl,rfl⟩
  cases hd:dig c with
  | false=>
   have e:saysF (c::r)=none:=by simp[saysF,isNum,hd]
   rw[e]
   simp only[sA,sB,seval]
   exact⟨by trivial,Ext.refl _ _⟩
  | true=>
  simp only[sA,sB,seval]
  refine (numeral_spec h23 h25 h22 (Nat.zero_le _) hs).mono ?_
  rintro v _ ⟨rfl,rfl⟩
  have hle:=numF_le (s:=c::r) (Nat.zero_le _)
  by_cases hn:numF (c::r) 0=(c::r).length
  ·have hnum:isNum (c::r)=true:=by simp only[isNum,hd,hn,decide_true,Bool.and_self]
   have hn':((numF (c::r) 0:Nat):Int)=((c::r).length:Int):=by rw[hn]
   generalize c::r=s at *
   obtain⟨hw,hb⟩:=num_digs hnum
   simp only[sA,sB,seval,hn']
   refine (cut_spec h34 h57 h74 h76 hs).mono ?_
   rintro v _ ⟨rfl,rfl⟩
   simp only[aExtract,List.getElem?_cons_zero,List.getElem?_cons_succ,sA,sB,seval]
   have hwl:=whole_le s
   have hbl:(behind s).length≤s.length:=by rw[behind_eq]; simp
   have hsay:saysF s=if valF (whole s)<2147483648 then some (valF (whole s)*2 ^ 32+frac (digs (behind s))) else none:=by simp[saysF,hnum]
   rw[hsay]
   generalize whole s=w at *
   generalize behind s=t at *
   refine aw_loop (fun q (T:Env) H'=>∃i:Nat,i≤w.length∧q=w.length-i∧T 4=.str w∧T 5=.str t∧T 7=.int .i64 (valF (w.take i):Int)∧valF (w.take i)<2147483648∧T 31=.int .i64 (w.length:Int)∧T 32=.int .i64 (i:Int)∧H=H') w.length
    ⟨0,Nat.zero_le _,rfl,rfl,rfl,rfl,by simp[valF],rfl,rfl,rfl⟩ ?_
   rintro q T _ ⟨i,hi,rfl,g4,g5,g7,hv,g31,g32,rfl⟩
   by_cases hlt:i<w.length
   ·have hlt':(i:Int)<(w.length:Int):=om
    obtain⟨c,hc⟩:=isSome_of_lt hlt
    have hdc:=hw c (List.mem_of_getElem? hc)
    have hdv:(c.toNat:Int)-48=((dv c:Nat):Int):=by simp[dig]at hdc; unfold dv; omega
    have hd9:dv c≤9:=by simp[dig]at hdc; unfold dv; omega
    have hw1:IntKind.u8.wrap ((dv c:Nat):Int)=((dv c:Nat):Int):=wrapU8 om om
    have hw2:IntKind.i64.wrap ((dv c:Nat):Int)=((dv c:Nat):Int):=wrap64 om om
    have hw3:IntKind.i64.wrap ((valF (w.take i):Int)*10)=((valF (w.take i)*10:Nat):Int):=by rw[wrap64 om om]; omega
    have hw4:IntKind.i64.wrap (((valF (w.take i)*10:Nat):Int)+((dv c:Nat):Int))=((valF (w.take (i+1)):Nat):Int):=by
     rw[wrap64 om om,List.take_add_one,hc,Option.toList_some,val_snoc]; omega
    simp only[sA,sB,seval,g4,g5,g7,g31,g32,hlt',str_idx hc,hdv,hw1,hw2,hw3,hw4]
    by_cases hbig:valF (w.take (i+1))<2147483648
    ·have hbig':¬(2147483648:Int)≤((valF (w.take (i+1)):Nat):Int):=om
     simp only[sA,sB,seval,g4,g5,g7,g31,g32,hbig',wrap1 i om]
     exact⟨_,om,i+1,om,rfl,by trivial,by trivial,rfl,hbig,by trivial,rfl,by trivial⟩
    ·have hbig':(2147483648:Int)≤((valF (w.take (i+1)):Nat):Int):=om
     have:=val_take_le w (i+1)
     simp only[sA,sB,seval,g4,g5,g7,g31,g32,hbig']
     exact⟨by rw[if_neg om]; rfl,Ext.refl _ _⟩
   ·obtain rfl:i=w.length:=om
    rw[List.take_length]at g7 hv
    have e1:=bin_shlN (k':=.u64) (a:=valF w) (b:=32) om om
    simp only[Int.cast_ofNat_Int]at e1
    simp only[sA,sB,seval,g4,g5,g7,g31,g32,Int.lt_irrefl,e1]
    refine (part_spec h35 hb om).mono ?_
    rintro v H' ⟨rfl,hx⟩
    have hf:=frac_lt (digs_le hb)
    have e2:=bin_orN (a:=valF w*2 ^ 32) (b:=frac (digs t)) om om
    rw[or_low 32 _ hf]at e2
    simp only[sA,sB,seval,e2]
    exact⟨by rw[if_pos hv]; rfl,hx⟩
  ·have hn':¬((numF (c::r) 0:Nat):Int)=((c::r).length:Int):=om
   have e:saysF (c::r)=none:=by simp only[saysF,isNum,hn,decide_false,Bool.and_false,Bool.false_eq_true,false_and,if_false]
   rw[e]
   simp only[sA,sB,seval,hn']
   exact⟨by trivial,Ext.refl _ _⟩
open Go.Abs Go.Abs.S
theorem rdigit_spec(hN:natT.is 159=false):Says natT 159 dig:=by
 intro c H
 refine acalls_ofN hN za159 rfl ?_
 by_cases h1:(48:Int)≤(c.toNat:Int)
 ·by_cases h2:(c.toNat:Int)≤57
  ·simp only[c159,sA,sB,seval,h1,h2]
   exact⟨by simp[dig]; omega,by trivial⟩
  ·simp only[c159,sA,sB,seval,h1,h2]
   exact⟨by simp[dig]; omega,by trivial⟩
 ·simp only[c159,sA,sB,seval,h1]
  exact⟨by simp[dig]; omega,by trivial⟩
theorem rnumeral_spec(h36:natT.is 156=false)(h54:natT.is 159=false){H:AHeap}{s:Bs}{i:Nat}(hi:i≤s.length)(hs:s.length≤4611686018427387904) :
  ACalls Tryz.prog natT 156 [.str s,.int .i64 (i:Int)] H fun v H'=>v=.int .i64 ((numF s i-i:Nat):Int)∧H=H':=by
 refine acalls_ofN h36 za156 rfl ?_
 simp only[c156,sA,sB,seval]
 refine aw_cut (fun (T:Env) H'=>T 0=.str s∧T 1=.int .i64 (i:Int)∧T 5=.int .i64 (runF dig s i:Int)∧H=H') (calls_mono _ _) ?_ ?_
 ·refine aw_loop (fun q (T:Env) H'=>∃j:Nat,j≤s.length∧q=s.length-j∧T 0=.str s∧T 1=.int .i64 (i:Int)∧T 5=.int .i64 (j:Int)∧runF dig s i=runF dig s j∧H=H') (s.length-i) ⟨i,hi,rfl,rfl,rfl,rfl,rfl,rfl⟩ ?_
  rintro q T _ ⟨j,hj,rfl,g0,g1,g5,hA,rfl⟩
  by_cases hlt:j<s.length
  ·have hlt':(j:Int)<(s.length:Int):=om
   obtain⟨c,hc⟩:=isSome_of_lt hlt
   simp only[sA,sB,seval,g0,g1,g5,hlt',str_idx hc]
   refine (rdigit_spec h54 c H).mono ?_
   rintro v _ ⟨rfl,rfl⟩
   cases hb:dig c with
   | true=>
    simp only[sA,sB,seval,g0,g1,g5,wrap1 j om]
    exact⟨_,om,j+1,om,rfl,by trivial,by trivial,rfl,by rw[hA,runF_go hc hb],by trivial⟩
   | false=>
    simp only[sA,sB,seval,g0,g1,g5]
    exact⟨by trivial,by trivial,by rw[hA,runF_no hc hb],by trivial⟩
  ·have hlt':¬(j:Int)<(s.length:Int):=om
   simp only[sA,sB,seval,g0,g1,g5,hlt']
   exact⟨by trivial,by trivial,by rw[hA,runF_end om],by trivial⟩
 rintro T _ ⟨g0,g1,g5,rfl⟩
 have hle:=runF_le (p:=dig) hi
 have hge:=runF_ge dig s i
 have hdef:numF s i=if runF dig s i=i∨s[runF dig s i]?≠some 46 then runF dig s i else if runF dig s i+1<runF dig s (runF dig s i+1) then runF dig s (runF dig s i+1) else runF dig s i:=rfl
 rw[hdef]
 generalize runF dig s i=e at *
 by_cases he:e=i
 ·subst he
  simp only[sA,sB,seval,g0,g1,g5]
  exact⟨by rw[if_pos (.inl (by trivial))]; simp,by trivial⟩
 have he':¬(e:Int)=(i:Int):=om
 simp only[sA,sB,seval,g0,g1,g5,he',wrap1 e om]
 refine aw_cut (fun (T:Env) H'=>∃m:Nat,m=(if s[e]?=some 46 then runF dig s (e+1) else e+1)∧T 0=.str s∧T 1=.int .i64 (i:Int)∧T 5=.int .i64 (e:Int)∧T 6=.int .i64 (m:Int)∧H=H') (calls_mono _ _) ?_ ?_
 ·refine aw_loop (fun q (T:Env) H'=>∃m:Nat,e+1≤m∧m≤s.length+1∧q=s.length+1-m∧T 0=.str s∧T 1=.int .i64 (i:Int)∧T 5=.int .i64 (e:Int)∧T 6=.int .i64 (m:Int)∧(s[e]?=some 46→runF dig s (e+1)=runF dig s m)∧(s[e]?≠some 46→m=e+1)∧H=H') (s.length+1-(e+1)) ⟨e+1,om,om,rfl,by simp only[sA,sB,seval,g0],by simp only[sA,sB,seval,g1],by simp only[sA,sB,seval,g5],by simp only[sA,sB,seval],fun _=>rfl,fun _=>rfl,rfl⟩ ?_
  clear g0 g1 g5
  rintro q T _ ⟨m,h1,h2,rfl,g0,g1,g5,g6,hA,hB,rfl⟩
  by_cases hlt:e<s.length
  ·have hlt':(e:Int)<(s.length:Int):=om
   obtain⟨c,hc⟩:=isSome_of_lt hlt
   by_cases hp:(c.toNat:Int)=46
   ·have hc46:s[e]?=some 46:=by
     rw[hc]; congr 1; exact UInt8.toNat_inj.1 (by simpa using (show c.toNat=46 by omega))
    by_cases hml:m<s.length
    ·have hml':(m:Int)<(s.length:Int):=om
     obtain⟨d,hd⟩:=isSome_of_lt hml
     simp only[sA,sB,seval,g0,g1,g5,g6,hlt',str_idx hc,hp,hml',str_idx hd]
     refine (rdigit_spec h54 d H).mono ?_
     rintro v _ ⟨rfl,rfl⟩
     cases hb:dig d with
     | true=>
      simp only[sA,sB,seval,g0,g1,g5,g6,wrap1 m om]
      exact⟨_,om,m+1,om,om,rfl,by trivial,by trivial,by trivial,rfl,fun h=>by rw[hA h,runF_go hd hb],fun h=>absurd hc46 h,by trivial⟩
     | false=>
      simp only[sA,sB,seval,g0,g1,g5,g6]
      exact⟨m,by rw[if_pos hc46,hA hc46,runF_no hd hb],by trivial,by trivial,by trivial,by trivial,by trivial⟩
    ·have hml':¬(m:Int)<(s.length:Int):=om
     simp only[sA,sB,seval,g0,g1,g5,g6,hlt',str_idx hc,hp,hml']
     exact⟨m,by rw[if_pos hc46,hA hc46,runF_end om],by trivial,by trivial,by trivial,by trivial,by trivial⟩
   ·have hc46:s[e]?≠some 46:=by
     rw[hc]; intro h; cases h; exact hp rfl
    simp only[sA,sB,seval,g0,g1,g5,g6,hlt',str_idx hc,hp]
    exact⟨m,by rw[if_neg hc46,hB hc46],by trivial,by trivial,by trivial,by trivial,by trivial⟩
  ·have hlt':¬(e:Int)<(s.length:Int):=om
   have hc46:s[e]?≠some 46:=by rw[List.getElem?_eq_none om]; simp
   simp only[sA,sB,seval,g0,g1,g5,g6,hlt']
   exact⟨m,by rw[if_neg hc46,hB hc46],by trivial,by trivial,by trivial,by trivial,by trivial⟩
 clear g0 g1 g5
 rintro T _ ⟨m,hm,g0,g1,g5,g6,rfl⟩
 have hm1:m≤s.length+1:=by
  rw[hm]; split
  ·rename_i h
   have:=(List.getElem?_eq_some_iff.1 h).1
   have:=runF_le (p:=dig) (s:=s) (i:=e+1) om
   omega
  ·omega
 by_cases hc46:s[e]?=some 46
 ·rw[if_pos hc46]at hm
  rw[if_neg (by rintro (h | h); exact he h; exact h hc46),← hm]
  by_cases hgt:e+1<m
  ·rw[if_pos hgt]
   have hgt2:(((e+1:Nat)):Int)<(m:Int):=om
   simp only[sA,sB,seval,g0,g1,g5,g6,wrap1 e om,hgt2]
   exact⟨by rw[wrap64 om om]; congr 1; omega,by trivial⟩
  ·rw[if_neg hgt]
   have hgt2:¬(((e+1:Nat)):Int)<(m:Int):=om
   simp only[sA,sB,seval,g0,g1,g5,g6,wrap1 e om,hgt2]
   exact⟨by rw[wrap64 om om]; congr 1; omega,by trivial⟩
 ·rw[if_neg hc46]at hm
  rw[if_pos (.inr hc46)]
  have hgt2:¬(((e+1:Nat)):Int)<(m:Int):=om
  simp only[sA,sB,seval,g0,g1,g5,g6,wrap1 e om,hgt2]
  exact⟨by rw[wrap64 om om]; congr 1; omega,by trivial⟩
open Go.Abs Go.Abs.S
def l64(l:List Nat):List AVal:=l.map fun n:Nat=>.int .i64 (n:Int)
theorem l64_len(l:List Nat):(l64 l).length=l.length:=by simp[l64]
theorem l64_get{l:List Nat}{i:Nat}{n:Nat}(h:l[i]?=some n):(l64 l)[i]?=some (.int .i64 (n:Int)):=by simp[l64,h]
theorem l64_set(l:List Nat)(i n:Nat):l64 (l.set i n)=(l64 l).set i (.int .i64 (n:Int)):=by simp[l64]
theorem App_store{n:Nat}{H:AHeap}{s:AVal}{l:List AVal}(h:App n H s l){i:Nat}(hi:i<l.length){x:AVal}(hx:x.one=true) :
  ∃H',oStore 1 H (cellP s i) x=some H'∧App n H' s (l.set i x)∧Ext n H H':=by
 rcases h with⟨_,rfl⟩ | ⟨b,low,rfl,h2,h3,h4,h5⟩
 ·simp at hi
 ·refine⟨H.set b (.cells (l.set i x) l.length false),?_,.inr ⟨b,l.length,by simp,h2,h3,by rw[AHeap.get_set,if_pos rfl],by simp⟩,(Ext.refl n H).set h2 _⟩
  simp only[cellP,Nat.mul_one,Nat.zero_add]
  exact wr_whole h4 h5 hi hx
theorem isNum_iff(s:Bs):isNum s=true↔numF s 0=s.length∧s.length≠0:=by
 cases s with
 | nil=>simp[isNum]
 | cons c r=>
  simp only[isNum,Bool.and_eq_true,decide_eq_true_eq]
  constructor
  ·rintro ⟨_,h⟩; exact⟨h,by simp⟩
  ·rintro ⟨h,_⟩
   refine⟨?_,h⟩
   cases hd:dig c with
   | true=>rfl
   | false=>
    have e:runF dig (c::r) 0=0:=runF_no (c:=c) rfl hd
    unfold numF at h
    rw[e,if_pos (.inl rfl)]at h
    simp at h
theorem whole_at{s:Bs}{i:Nat}{c:UInt8}(hi:i<(whole s).length)(hc:s[i]?=some c):(whole s)[i]?=some c∧npt c=true:=by
 have h:(whole s)[i]?=some c:=by
  rw[whole_eq,List.getElem?_take_of_lt hi,hc]
 refine⟨h,?_⟩
 have:=List.all_takeWhile (p:=npt) (l:=s)
 exact List.all_eq_true.1 this _ (List.mem_of_getElem? h)
theorem whole_end{s:Bs}{c:UInt8}(hc:s[(whole s).length]?=some c):c.toNat=46:=by
 rw[whole_run]at hc
 have:=runF_out hc
 simpa[npt] using this
theorem bits_lt{l:List Nat}(h:∀d∈l,d≤9){n:Nat}(hn:n<2147483648)(k:Nat):(bits l n k).1<2 ^ (31+k):=by
 have h1:=bits_val l n k
 have h2:=valN_lt h
 have h3:n*10 ^ l.length+valN l<2147483648*10 ^ l.length:=by
  have:n*10 ^ l.length+10 ^ l.length≤2147483648*10 ^ l.length:=by
   rw[← Nat.succ_mul]; exact Nat.mul_le_mul_right _ hn
  omega
 have hp:0<10 ^ l.length:=Nat.pos_of_ne_zero (by simp)
 have h4:(bits l n k).1*10 ^ l.length<2 ^ (31+k)*10 ^ l.length:=by
  calc (bits l n k).1*10 ^ l.length≤2 ^ k*(n*10 ^ l.length+valN l):=om
   _<2 ^ k*(2147483648*10 ^ l.length):=Nat.mul_lt_mul_of_pos_left h3 (Nat.pos_of_ne_zero (by simp))
   _=2 ^ (31+k)*10 ^ l.length:=by rw[← Nat.mul_assoc,Nat.pow_add,Nat.mul_comm (2 ^ k)]
 exact Nat.lt_of_mul_lt_mul_right h4
theorem rnumber_spec(h13:natT.is 157=false)(h36:natT.is 156=false)(h54:natT.is 159=false)
  {H:AHeap} {s:Bs} (hs:s.length≤1099511627776):ACalls Tryz.prog natT 157 [.str s] H fun v H'=>v=told (saysF s)∧Ext H.next H H':=by
 refine acalls_ofN h13 za157 rfl ?_
 simp only[c157,sA,sB,seval]
 refine (rnumeral_spec h36 h54 (Nat.zero_le _) om).mono ?_
 rintro v _ ⟨rfl,rfl⟩
 have hle:=numF_le (s:=s) (Nat.zero_le _)
 by_cases hn:numF s 0=s.length
 ·have hn':((numF s 0-0:Nat):Int)=(s.length:Int):=om
  by_cases h0:s.length=0
  ·have h0':(s.length:Int)=0:=om
   have e:saysF s=none:=by
    unfold saysF
    rw[if_neg (by rw[isNum_iff]; rintro ⟨⟨_,h⟩,_⟩; exact h h0)]
   rw[e]
   simp only[sA,sB,seval,hn',h0']
   exact⟨by trivial,Ext.refl _ _⟩
  have h0':¬(s.length:Int)=0:=om
  have hnum:isNum s=true:=(isNum_iff s).2 ⟨hn,h0⟩
  obtain⟨hw,hb⟩:=num_digs hnum
  simp only[sA,sB,seval,hn',h0']
  have hwl:=whole_le s
  have hbl:(behind s).length=s.length-((whole s).length+1):=by rw[behind_eq]; simp
  have hsay:saysF s=if valF (whole s)<2147483648 then some (valF (whole s)*2 ^ 32+frac (digs (behind s))) else none:=by simp[saysF,hnum]
  rw[hsay]
  refine aw_cut (fun (T:Env) H'=>T 0=.str s∧T 5=.int .i64 ((whole s).length:Int)∧T 4=.int .i64 (valF (whole s):Int)∧valF (whole s)<2147483648∧H=H') (calls_mono _ _) ?_ ?_
  ·refine aw_loop (fun q (T:Env) H'=>∃i:Nat,i≤(whole s).length∧q=(whole s).length-i∧T 0=.str s∧T 4=.int .i64 (valF ((whole s).take i):Int)∧valF ((whole s).take i)<2147483648∧T 5=.int .i64 (i:Int)∧H=H') (whole s).length
    ⟨0,Nat.zero_le _,rfl,rfl,rfl,by simp[valF],rfl,rfl⟩ ?_
   rintro q T _ ⟨i,hi,rfl,g0,g4,hv,g5,rfl⟩
   by_cases hlt:i<(whole s).length
   ·have hlt':(i:Int)<(s.length:Int):=om
    obtain⟨c,hc⟩:=isSome_of_lt (l:=s) (i:=i) om
    obtain⟨hcw,hnp⟩:=whole_at hlt hc
    have hdc:=hw c (List.mem_of_getElem? hcw)
    have hnp':¬(c.toNat:Int)=46:=by simp[npt]at hnp; omega
    have hdv:(c.toNat:Int)-48=((dv c:Nat):Int):=by simp[dig]at hdc; unfold dv; omega
    have hd9:dv c≤9:=by simp[dig]at hdc; unfold dv; omega
    have hw1:IntKind.u8.wrap ((dv c:Nat):Int)=((dv c:Nat):Int):=wrapU8 om om
    have hw2:IntKind.i64.wrap ((dv c:Nat):Int)=((dv c:Nat):Int):=wrap64 om om
    have hw3:IntKind.i64.wrap ((valF ((whole s).take i):Int)*10)=((valF ((whole s).take i)*10:Nat):Int):=by rw[wrap64 om om]; omega
    have hw4:IntKind.i64.wrap (((valF ((whole s).take i)*10:Nat):Int)+((dv c:Nat):Int))=((valF ((whole s).take (i+1)):Nat):Int):=by
     rw[wrap64 om om,List.take_add_one,hcw,Option.toList_some,val_snoc]; omega
    simp only[sA,sB,seval,g0,g4,g5,hlt',str_idx hc,hnp',hdv,hw1,hw2,hw3,hw4]
    by_cases hbig:valF ((whole s).take (i+1))<2147483648
    ·have hbig':¬(2147483648:Int)≤((valF ((whole s).take (i+1)):Nat):Int):=om
     simp only[sA,sB,seval,g0,g4,g5,hbig',wrap1 i om]
     exact⟨_,om,i+1,om,rfl,by trivial,rfl,hbig,rfl,by trivial⟩
    ·have hbig':(2147483648:Int)≤((valF ((whole s).take (i+1)):Nat):Int):=om
     have:=val_take_le (whole s) (i+1)
     simp only[sA,sB,seval,g0,g4,g5,hbig']
     exact⟨by rw[if_neg om]; rfl,Ext.refl _ _⟩
   ·obtain rfl:i=(whole s).length:=om
    rw[List.take_length]at g4 hv
    by_cases hlt2:(whole s).length<s.length
    ·have hlt':((whole s).length:Int)<(s.length:Int):=om
     obtain⟨c,hc⟩:=isSome_of_lt hlt2
     have h46:(c.toNat:Int)=46:=by have:=whole_end hc; omega
     simp only[sA,sB,seval,g0,g4,g5,hlt',str_idx hc,h46]
     exact⟨by trivial,by trivial,by trivial,hv,by trivial⟩
    ·have hlt':¬((whole s).length:Int)<(s.length:Int):=om
     simp only[sA,sB,seval,g0,g4,g5,hlt']
     exact⟨by trivial,by trivial,by trivial,hv,by trivial⟩
  rintro T _ ⟨g0,g5,g4,hv,rfl⟩
  rw[if_pos hv]
  have hget:∀m,(behind s)[m]?=s[(whole s).length+1+m]?:=fun m=>by rw[behind_eq,List.getElem?_drop]
  generalize valF (whole s)=w at *
  generalize (whole s).length=e at *
  generalize behind s=t at *
  simp only[sA,sB,seval,g0,g4,g5,wrap1 e om]
  refine aw_cut (fun (T:Env) H'=>T 4=.int .i64 (w:Int)∧App H.next H' (T 6) (l64 (digs t))∧Ext H.next H H') (calls_mono _ _) ?_ ?_
  ·refine aw_loop (fun q (T:Env) H'=>∃m:Nat,m≤t.length∧q=t.length-m∧T 0=.str s∧T 4=.int .i64 (w:Int)∧T 7=.int .i64 ((e+1+m:Nat):Int)∧App H.next H' (T 6) (l64 (digs (t.take m)))∧Ext H.next H H') t.length
    ⟨0,Nat.zero_le _,rfl,by simp only[sA,sB,seval,g0],by simp only[sA,sB,seval,g4],by simp only[sA,sB,seval]; try rfl,by simp only[sA,sB,seval]; exact App.nil _ _,Ext.refl _ _⟩ ?_
   clear g0 g4 g5
   rintro q T H1 ⟨m,hm,rfl,g0,g4,g7,hA,hE⟩
   by_cases hlt:m<t.length
   ·have hlt':((e+1+m:Nat):Int)<(s.length:Int):=om
    obtain⟨c,hc⟩:=isSome_of_lt hlt
    have hcs:=(hget m).symm.trans hc
    have hdc:=hb c (List.mem_of_getElem? hc)
    have hdv:(c.toNat:Int)-48=((dv c:Nat):Int):=by simp[dig]at hdc; unfold dv; omega
    have hd9:dv c≤9:=by simp[dig]at hdc; unfold dv; omega
    have hw1:IntKind.u8.wrap ((dv c:Nat):Int)=((dv c:Nat):Int):=wrapU8 om om
    have hw2:IntKind.i64.wrap ((dv c:Nat):Int)=((dv c:Nat):Int):=wrap64 om om
    obtain⟨s',H2,e1,e2,e3⟩:=hA.push (bytes:=8) (by have:=hE.next; omega) (x:=.int .i64 ((dv c:Nat):Int)) rfl (by simp[l64,digs]; omega) om
    simp only[sA,sB,seval,g0,g4,g7,hlt',str_idx hcs,hdv,hw1,hw2,build1 _ _ (x:=.int .i64 ((dv c:Nat):Int)) rfl,e1,wrap1 (e+1+m) om]
    refine⟨_,om,m+1,om,rfl,by trivial,by trivial,rfl,?_,hE.trans e3⟩
    rw[List.take_add_one,hc]
    simpa[digs,l64] using e2
   ·obtain rfl:m=t.length:=om
    have hlt':¬((e+1+t.length:Nat):Int)<(s.length:Int):=om
    rw[List.take_length]at hA
    simp only[sA,sB,seval,g0,g4,g7,hlt']
    exact⟨by trivial,hA,hE⟩
  clear g0 g4 g5
  rintro T H1 ⟨g4,hA,hE⟩
  have hd9:=digs_le hb
  have htl:(digs t).length≤1099511627776:=by simp[digs]; omega
  generalize digs t=l at *
  simp only[sA,sB,seval,g4]
  refine aw_loop (fun q (T:Env) H'=>∃k:Nat,k≤32∧q=32-k∧T 8=.int .i64 ((bits l w k).1:Int)∧T 9=.int .i64 (k:Int)∧App H.next H' (T 6) (l64 (bits l w k).2)∧Ext H.next H H') 32
   ⟨0,Nat.zero_le _,rfl,by simp only[sA,sB,seval]; try rfl,by simp only[sA,sB,seval]; try rfl,by simp only[sA,sB,seval]; exact hA,hE⟩ ?_
  clear g4 hA hE T H1
  rintro q T H1 ⟨k,hk,rfl,g8,g9,hA,hE⟩
  by_cases hlt:k<32
  ·have hlt':(k:Int)<32:=om
   have hb9:=bits_dig hd9 w k
   have hbl:=bits_len l w k
   have hbv:=bits_lt hd9 hv k
   have hbv1:=bits_lt hd9 hv (k+1)
   have hpk:(2:Nat) ^ (31+(k+1))≤2 ^ 63:=Nat.pow_le_pow_right om om
   have hbits:bits l w (k+1)=(2*(bits l w k).1+(dbl (bits l w k).2).1,(dbl (bits l w k).2).2):=rfl
   rw[hbits]at hbv1
   simp only[sA,sB,seval,g8,g9,hlt',hA.cel.len,l64_len,hbl]
   generalize hm:(bits l w k).2=m at *
   generalize hout:(bits l w k).1=out at *
   have hov:=dbl_over hb9
   have hw0:IntKind.i64.wrap ((l.length:Int)-1)=(l.length:Int)-1:=wrap64 om om
   generalize hsl:T 6=sl at *
   refine aw_cut (fun (T:Env) H'=>T 8=.int .i64 (out:Int)∧T 9=.int .i64 (k:Int)∧T 10=.int .i64 ((dbl m).1:Int)∧App H.next H' (T 6) (l64 (dbl m).2)∧Ext H.next H H') (calls_mono _ _) ?_ ?_
   ·refine aw_loop (fun q (T:Env) H'=>∃j:Nat,j≤m.length∧j=q∧T 6=sl∧T 8=.int .i64 (out:Int)∧T 9=.int .i64 (k:Int)∧T 10=.int .i64 ((dbl (m.drop j)).1:Int)∧T 11=.int .i64 ((j:Int)-1)∧App H.next H' sl (l64 (half m j))∧Ext H.next H H') m.length
     ⟨m.length,om,rfl,by simp only[sA,sB,seval,hsl],by simp only[sA,sB,seval,g8],by simp only[sA,sB,seval,g9],by simp only[sA,sB,seval]; rw[List.drop_eq_nil_of_le om]; rfl,by simp only[sA,sB,seval,hw0,hbl],by rw[half_all]; exact hA,hE⟩ ?_
    clear g8 g9 hA hE hsl T H1
    rintro q T H1 ⟨j,hj,rfl,g6,g8,g9,g10,g11,hA,hE⟩
    cases j with
    | zero=>
     have c0:¬(0:Int)≤((0:Nat):Int)-1:=om
     rw[List.drop_zero]at g10
     rw[half_zero]at hA
     simp only[sA,sB,seval,g6,g8,g9,g10,g11,c0]
     exact⟨by trivial,by trivial,by trivial,hA,hE⟩
    | succ j=>
     have c0:(0:Int)≤((j+1:Nat):Int)-1:=om
     have ej:((j+1:Nat):Int)-1=(j:Int):=om
     rw[ej]at g11 c0
     obtain⟨d,hdd⟩:=isSome_of_lt (l:=m) (i:=j) om
     have hdn:=hb9 d (List.mem_of_getElem? hdd)
     have ho:=dbl_over (l:=m.drop (j+1)) fun x hx=>hb9 x (List.mem_of_mem_drop hx)
     have hset:=half_set hdd
     have hdr:dbl (m.drop j)=((d*2+(dbl (m.drop (j+1))).1) / 10,(d*2+(dbl (m.drop (j+1))).1) % 10::(dbl (m.drop (j+1))).2):=by rw[drop_at hdd]; rfl
     generalize (dbl (m.drop (j+1))).1=o at *
     have hjl:j<(l64 (half m (j+1))).length:=by rw[l64_len,half_len]; omega
     have ia:=hA.cel.idx .i64 hjl
     have l1:=hA.cel.load (l64_get (half_get hdd))
     have w1:IntKind.i64.wrap ((d:Int)*2)=((d*2:Nat):Int):=by rw[wrap64 om om]; omega
     have w2:IntKind.i64.wrap (((d*2:Nat):Int)+(o:Int))=((d*2+o:Nat):Int):=by rw[wrap64 om om]; omega
     have e3:aBin .rem (.int .i64 ((d*2+o:Nat):Int)) (.int .i64 10)=some (.int .i64 (((d*2+o) % 10:Nat):Int)):=by
      rw[bin_rem _ _ _ om]; rfl
     have e4:aBin .quo (.int .i64 ((d*2+o:Nat):Int)) (.int .i64 10)=some (.int .i64 (((d*2+o) / 10:Nat):Int)):=by
      rw[bin_quo _ _ _ om]
      have:((d*2+o:Nat):Int).tdiv 10=(((d*2+o) / 10:Nat):Int):=rfl
      rw[this,wrap64 om om]
     obtain⟨H2,m2,r2,n2⟩:=App_store hA hjl (x:=.int .i64 (((d*2+o) % 10:Nat):Int)) rfl
     have hwj:IntKind.i64.wrap ((j:Int)-1)=(j:Int)-1:=wrap64 om om
     simp only[sA,sB,seval,g6,g8,g9,g10,g11,c0,ia,l1,w1,w2,e3,e4,m2,hwj]
     refine⟨_,Nat.lt_succ_self j,j,om,rfl,by trivial,by trivial,by trivial,by rw[hdr],by trivial,?_,hE.trans n2⟩
     rw[← hset,l64_set]
     exact r2
   clear g8 g9 hA hE hsl T H1
   rintro T H1 ⟨g8,g9,g10,hA,hE⟩
   have w1:IntKind.i64.wrap ((out:Int)*2)=((2*out:Nat):Int):=by rw[wrap64 om om]; omega
   have w2:IntKind.i64.wrap (((2*out:Nat):Int)+((dbl m).1:Int))=((2*out+(dbl m).1:Nat):Int):=by rw[wrap64 om om]; omega
   simp only[sA,sB,seval,g8,g9,g10,w1,w2,wrap1 k om]
   exact⟨_,om,k+1,om,rfl,by rw[hbits],rfl,by rw[hbits]; exact hA,hE⟩
  obtain rfl:k=32:=om
  have hlast:=bits_frac hd9 w
  rw[hlast]at g8
  simp only[sA,sB,seval,g8,g9,Int.cast_ofNat_Int,Int.lt_irrefl]
  exact⟨by rw[Nat.mul_comm]; rfl,hE⟩
 ·have hn':¬((numF s 0-0:Nat):Int)=(s.length:Int):=om
  have e:saysF s=none:=by
   unfold saysF
   rw[if_neg (by rw[isNum_iff]; rintro ⟨⟨h,_⟩,_⟩; exact hn h)]
  rw[e]
  simp only[sA,sB,seval,hn']
  exact⟨by trivial,Ext.refl _ _⟩
open Go.Abs Go.Abs.S
def revD(n:Nat):List Nat:=if h:n<10 then [n] else n % 10::revD (n / 10)
termination_by n
decreasing_by omega
def decD(n:Nat):List Nat:=(revD n).reverse
theorem revD_lt{n:Nat}(h:n<10):revD n=[n]:=by rw[revD,dif_pos h]
theorem revD_ge{n:Nat}(h:¬n<10):revD n=n % 10::revD (n / 10):=by rw[revD,dif_neg h]
theorem decD_lt{n:Nat}(h:n<10):decD n=[n]:=by rw[decD,revD_lt h]; rfl
theorem decD_ge{n:Nat}(h:¬n<10):decD n=decD (n / 10)++[n % 10]:=by rw[decD,revD_ge h]; simp[decD]
def asc(l:List Nat):Bs:=l.map fun d=>UInt8.ofNat (48+d)
theorem asc_append(a b:List Nat):asc (a++b)=asc a++asc b:=by simp[asc]
theorem asc_len(l:List Nat):(asc l).length=l.length:=by simp[asc]
theorem decD_len(k:Nat):∀n,n<10 ^ (k+1)→(decD n).length≤k+1:=by
 induction k with
 | zero=>intro n h; rw[decD_lt (by simpa using h)]; simp
 | succ k ih=>
  intro n h
  by_cases hn:n<10
  ·rw[decD_lt hn]; simp
  ·rw[decD_ge hn]
   have:=ih (n / 10) (by rw[Nat.pow_succ]at h; omega)
   simp; omega
open Go.Abs Go.Abs.S
theorem un_neg(k:IntKind)(n:Int):aUn .neg (.int k n)=some (.int k (k.wrap (0-n))):=by
 simp only[aUn,wrF_eq]
def tl:ACode→ACode
 | .seq _ b=>b
 | c=>c
theorem asc_ne(n:Nat):asc (decD n)≠[]:=by
 by_cases h:n<10
 ·rw[decD_lt h]; simp[asc]
 ·rw[decD_ge h]; simp[asc]
end Go.Proofs.Wo
