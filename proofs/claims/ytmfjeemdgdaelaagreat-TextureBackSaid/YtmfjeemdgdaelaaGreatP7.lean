/- Part of a proof (TC1 T0 TN0 T1 T2 T3 T4 T5 T6); no condition. -/
import Derived.Test.YtmfjeemdgdaelaaGreatProg
import Derived.KernelRfl
import Derived.Test.YtmfjeemdgdaelaaGreatP6
set_option linter.unusedSimpArgs false
set_option linter.unusedVariables false
set_option linter.unnecessarySimpa false
namespace Go.Proofs.Tb
open Go.Abs Go.Abs.S
noncomputable section
def c14:AFn:=⟨4,zq [zo 0 (.mv (.c (.ptr none)))] (zq [zx 1 36 [],zo 2 (.build [.bool false,.bool false,.bool false,.ptr none,.int .u32 (.ofNat 0)] [(0,1,.c (.bool true)),(3,1,.t 1),(4,1,.c (.int .u32 (.ofNat 1)))]),zo 3 (.box (.t 2)),zm 0 3] .ret),[.t 0]⟩
theorem za14:cN Tryz.prog 14=some c14:=by kernel_rfl
def c36:AFn:=⟨5,zq [zo 0 (.mv (.c (.ptr none)))] (zq [zx 1 61 [],zo 2 (.hf .mkMap []),zo 3 (.build [.bool false,.bool false,.ptr none,zN,zI 0,zI 0,zI 0,.map none,zI 0] [(0,1,.c (.bool true)),(2,1,.t 1),(7,1,.t 2)]),zo 4 (.box (.t 3)),zm 0 4] .ret),[.t 0]⟩
theorem za36:cN Tryz.prog 36=some c36:=by kernel_rfl
def c61:AFn:=⟨4,zq [zo 0 (.mv (.c (.ptr none)))] (zq [zo 1 (.build [.bool false,zN,zI 0] [(0,1,.c (.bool true))]),zo 2 (.build [.bool false,zN,zI 0] [(0,3,.t 1)]),zo 3 (.box (.t 2)),zm 0 3] .ret),[.t 0]⟩
theorem za61:cN Tryz.prog 61=some c61:=by kernel_rfl
def c19:AFn:=⟨30,zq [zo 3 (.box (.t 1)),zo 4 (.mv zn),zo 5 (.mv (zi 0))] (.seq (zq [zm 8 0,zx 9 39 [.t 8],zm 6 9] (zq [zm 10 6,zk 11 .neq 10 0] (.cond (.t 11) (zq [zm 12 6,zo 4 (.mv zn),zm 5 12] .ret) .skip))) (zq [zm 13 0,zm 14 0,zc 15 14,zf 16 4 15,zl 17 16,zl 18 3,zx 19 40 [.t 17,.t 18],zc 20 13,zf 21 4 20,zs 21 19] (zq [zm 22 0,zc 23 22,zf 24 3 23,zl 25 24,zo 26 (.mkFunc (.func 41) [.t 25] []),zo 7 (.new [.nilFunc]),zs 7 26] (zq [zm 27 0,zo 28 (.mkFunc (.func 43) [] [.t 7,.t 3]),zx 29 42 [.t 27,.t 28],zm 4 29,zo 5 (.mv (zi 0))] .ret)))),[.t 4,.t 5]⟩
theorem za19:cN Tryz.prog 19=some c19:=by kernel_rfl
def c39:AFn:=⟨18,zq [zo 2 (.mv (zi 0))] (.seq (.block 0 (zq [zm 4 0,zo 5 (.pf (.eqv false .ptr) [.t 4,.c (.ptr none)]),zm 6 5,zg 7 (.mv (.t 0)) 6 false,zg 8 (.nilChk (.t 7)) 6 false,zg 9 (.fieldA 0 (.t 8)) 6 false,zg 10 (.load false 1 (.t 9)) 6 false,zg 11 (.un .not (.t 10)) 6 false,zo 12 (.pick (.t 6) (.c (.bool true)) (.t 11)),zm 3 12] (.cond (.t 3) (zq [zo 2 (.mv (zi 1))] .ret) (zq [zm 14 0,zc 15 14,zf 16 2 15,zl 17 16,zm 13 17] (.cond (.t 13) (zq [zo 2 (.mv (zi 23))] .ret) .skip))))) (zq [zo 2 (.mv (zi 0))] .ret)),[.t 2]⟩
theorem za39:cN Tryz.prog 39=some c39:=by kernel_rfl
def c40:AFn:=⟨35,zq [zo 4 (.mv (.c (.int .u32 (.ofNat 0))))] (zq [zm 9 0,zo 10 (.bin .and (.t 9) (.c (.int .u32 (.ofNat 65535)))),zo 11 (.bin .rem (.t 10) (.c (.int .u32 (.ofNat 65521)))),zm 12 0,zo 13 (.bin .shr (.t 12) (.c (.int .u64 (.ofNat 16)))),zo 14 (.bin .rem (.t 13) (.c (.int .u32 (.ofNat 65521)))),zm 5 11,zm 6 14] (.seq (zq [zm 15 1,zh 16 15,zo 17 (.mv (zi 0))] (.block 0 (.loop (zq [zb 18 .lss 17 16] (.seq (.cond (.t 18) .skip (.exit 0)) (.seq (.block 1 (zq [zd 19 15 17,zl 20 19,zm 8 20] (zq [zm 21 5,zm 22 8,zv 23 .u32 22,zb 24 .add 21 23,zo 25 (.bin .rem (.t 24) (.c (.int .u32 (.ofNat 65521)))),zm 5 25] (.reg [zm 26 6,zm 27 5,zb 28 .add 26 27,zo 29 (.bin .rem (.t 28) (.c (.int .u32 (.ofNat 65521)))),zm 6 29])))) (.reg [zk 30 .add 17 1,zm 17 30]))))))) (zq [zm 31 6,zo 32 (.bin .shl (.t 31) (.c (.int .u64 (.ofNat 16)))),zm 33 5,zb 34 .or 32 33,zm 4 34] .ret))),[.t 4]⟩
theorem za40:cN Tryz.prog 40=some c40:=by kernel_rfl
def c41:AFn:=⟨58,zq [zo 4 (.mv zn),zo 5 (.mv (zi 0))] (zr [zm 6 0,zo 7 (.pf (.eqv false .ptr) [.t 6,.c (.ptr none)]),zm 8 7,zg 9 (.mv (.t 0)) 8 false,zg 10 (.nilChk (.t 9)) 8 false,zg 11 (.fieldA 0 (.t 10)) 8 false,zg 12 (.load false 1 (.t 11)) 8 false,zg 13 (.un .not (.t 12)) 8 false,zo 14 (.pick (.t 8) (.c (.bool true)) (.t 13))] 14 (zq [zo 4 (.mv zn),zo 5 (.mv (zi 1))] .ret) .skip (zr [zm 15 0,zc 16 15,zf 17 1 16,zl 18 17] 18 (zq [zo 4 (.mv zn),zo 5 (.mv (zi 23))] .ret) .skip (zq [zm 19 0,zm 20 0,zc 21 20,zf 22 3 21,zl 23 22,zm 24 1,zy 25 23 24,zc 26 19,zf 27 3 26,zs 27 25] (.seq (.block 0 (.loop (zr [zm 28 0,zc 29 28,zf 30 4 29,zl 31 30,zm 32 0,zc 33 32,zf 34 3 33,zl 35 34,zh 36 35,zb 37 .add 31 36,zm 38 0,zc 39 38,zf 40 5 39,zl 41 40,zb 42 .sub 37 41,zk 43 .gtr 42 4096] 43 .skip (.exit 0) (.block 1 (.reg [zm 44 0,zm 45 0,zc 46 45,zf 47 5 46,zl 48 47,zk 49 .add 48 4096,zx 50 62 [.t 44,.t 49,.c (.bool false)]]))))) (zq [zm 51 0,zx 52 63 [.t 51]] (zq [zm 53 0,zc 54 53,zf 55 2 54,zl 56 55,zx 57 64 [.t 56],zm 4 57,zo 5 (.mv (zi 0))] .ret)))))),[.t 4,.t 5]⟩
theorem za41:cN Tryz.prog 41=some c41:=by kernel_rfl
def c62:AFn:=⟨194,zq [zo 20 (.build [.int .u32 (.ofNat 0),zI 0] [(0,1,.c (.int .u32 (.ofNat 0))),(1,1,zi 1)]),zo 6 (.new [.int .u32 (.ofNat 0),zI 0]),zp (.store 2 (.t 6) (.t 20))] (zr [zm 21 2] 21 (.reg [zf 22 0 6,zp (.store 1 (.t 22) (.c (.int .u32 (.ofNat 1))))]) .skip (zq [zm 23 0,zx 24 81 [.t 23]] (zq [zt 25 2 6,zo 26 (.build [.int .u32 (.ofNat 0),zI 0] [(0,1,.c (.int .u32 (.ofNat 1))),(1,1,zi 2)]),zo 27 (.buildSl 2 [.int .u32 (.ofNat 0),zI 0] [(0,2,.t 25),(2,2,.t 26)]),zm 7 27] (.seq (zq [zm 28 0,zc 29 28,zf 30 5 29,zl 31 30,zm 8 31] (.block 0 (.loop (zr [zm 32 8,zm 33 1,zb 34 .lss 32 33] 34 .skip (.exit 0) (.block 1 (.seq (zq [zm 36 0,zm 37 8,zm 38 1,zx 39 82 [.t 36,.t 37,.t 38],zm 35 39,ze 40 0 35,ze 41 1 35,zm 9 40,zm 10 41] (zq [zm 42 9,zk 43 .geq 42 3] (.cond (.t 43) (zq [zm 44 7,zm 45 9,zm 46 10,zx 47 83 [.t 44,.t 45,.t 46],zm 7 47] (zq [zm 48 8,zm 49 9,zb 50 .add 48 49,zm 8 50] (.exit 1))) .skip))) (zq [zm 51 7,zm 52 0,zc 53 52,zf 54 3 53,zl 55 54,zm 56 8,zm 57 0,zc 58 57,zf 59 4 58,zl 60 59,zb 61 .sub 56 60,zd 62 55 61,zl 63 62,zv 64 .i64 63,zx 65 84 [.t 64],zo 66 (.buildSl 1 [.int .u32 (.ofNat 0),zI 0] [(0,2,.t 65)]),zo 67 (.append 2 16 (.t 51) (.t 66)),zm 7 67] (.reg [zm 68 8,zk 69 .add 68 1,zm 8 69])))))))) (zq [zm 70 7,zx 71 84 [zi 256],zo 72 (.buildSl 1 [.int .u32 (.ofNat 0),zI 0] [(0,2,.t 71)]),zo 73 (.append 2 16 (.t 70) (.t 72)),zm 7 73] (zq [zo 11 (.mv (zi 0))] (.seq (zq [zm 74 7,zh 75 74,zo 76 (.mv (zi 0))] (.block 2 (.loop (zq [zb 77 .lss 76 75] (.seq (.cond (.t 77) .skip (.exit 2)) (.seq (.block 3 (zq [zo 78 (.idxA 2 (.t 74) (.t 76)),zt 79 2 78,zo 13 (.new [.int .u32 (.ofNat 0),zI 0]),zp (.store 2 (.t 13) (.t 79))] (.reg [zm 80 11,zf 81 1 13,zl 82 81,zb 83 .add 80 82,zm 11 83]))) (.reg [zk 84 .add 76 1,zm 76 84]))))))) (zq [zm 85 0,zc 86 85,zf 87 2 86,zl 88 87,zx 89 85 [.t 88],zk 90 .add 89 3,zk 91 .rem 90 8,zo 92 (.bin .sub (zi 8) (.t 91)),zk 93 .rem 92 8,zm 14 93] (.seq (zq [zm 94 1,zm 95 0,zc 96 95,zf 97 5 96,zl 98 97,zb 99 .sub 94 98,zm 15 99] (zq [zm 100 14,zo 101 (.bin .add (zi 3) (.t 100)),zk 102 .add 101 32,zm 103 15,zo 104 (.bin .mul (zi 8) (.t 103)),zb 105 .add 102 104,zm 106 11,zb 107 .lss 105 106] (.cond (.t 107) (zq [zm 108 0,zc 109 108,zf 110 2 109,zl 111 110,zf 112 0 6,zl 113 112,zx 114 86 [.t 111,.t 113,zi 1]] (zq [zm 115 0,zc 116 115,zf 117 2 116,zl 118 117,zx 119 86 [.t 118,.c (.int .u32 (.ofNat 0)),zi 2]] (zq [zm 120 0,zc 121 120,zf 122 2 121,zl 123 122,zx 124 65 [.t 123]] (zq [zm 125 0,zc 126 125,zf 127 2 126,zl 128 127,zm 129 15,zv 130 .u32 129,zx 131 86 [.t 128,.t 130,zi 16]] (zq [zm 132 0,zc 133 132,zf 134 2 133,zl 135 134,zm 136 15,zv 137 .u32 136,zo 138 (.bin .xor (.t 137) (.c (.int .u32 (.ofNat 65535)))),zx 139 86 [.t 135,.t 138,zi 16]] (zq [zm 140 7,zo 141 (.sl 2 (.t 140) none (some (zi 0)) none),zm 7 141] (zq [zm 142 0,zc 143 142,zf 144 3 143,zl 145 144,zm 146 0,zc 147 146,zf 148 5 147,zl 149 148,zm 150 0,zc 151 150,zf 152 4 151,zl 153 152,zb 154 .sub 149 153,zm 155 1,zm 156 0,zc 157 156,zf 158 4 157,zl 159 158,zb 160 .sub 155 159,zo 161 (.sl 1 (.t 145) (some (.t 154)) (some (.t 160)) none),zh 162 161,zo 163 (.mv (zi 0))] (.block 4 (.loop (zq [zb 164 .lss 163 162] (.seq (.cond (.t 164) .skip (.exit 4)) (.seq (.block 5 (zq [zd 165 161 163,zl 166 165,zm 17 166] (.reg [zm 167 7,zm 168 17,zv 169 .u32 168,zo 170 (.build [.int .u32 (.ofNat 0),zI 0] [(0,1,.t 169),(1,1,zi 8)]),zo 171 (.buildSl 1 [.int .u32 (.ofNat 0),zI 0] [(0,2,.t 170)]),zo 172 (.append 2 16 (.t 167) (.t 171)),zm 7 172]))) (.reg [zk 173 .add 163 1,zm 163 173]))))))))))))) .skip))) (.seq (zq [zm 174 7,zh 175 174,zo 176 (.mv (zi 0))] (.block 6 (.loop (zq [zb 177 .lss 176 175] (.seq (.cond (.t 177) .skip (.exit 6)) (.seq (.block 7 (zq [zo 178 (.idxA 2 (.t 174) (.t 176)),zt 179 2 178,zo 19 (.new [.int .u32 (.ofNat 0),zI 0]),zp (.store 2 (.t 19) (.t 179))] (.reg [zm 180 0,zc 181 180,zf 182 2 181,zl 183 182,zf 184 0 19,zl 185 184,zf 186 1 19,zl 187 186,zx 188 86 [.t 183,.t 185,.t 187]]))) (.reg [zk 189 .add 176 1,zm 176 189]))))))) (.reg [zm 190 0,zm 191 1,zc 192 190,zf 193 5 192,zs 193 191]))))))))))),[]⟩
theorem za62:cN Tryz.prog 62=some c62:=by kernel_rfl
def c81:AFn:=⟨72,zr [zm 5 0,zc 6 5,zf 7 5 6,zl 8 7,zm 9 0,zc 10 9,zf 11 8 10,zl 12 11,zb 13 .sub 8 12,zk 14 .lss 13 32768] 14 .ret .skip (zq [zm 15 0,zm 16 0,zc 17 16,zf 18 5 17,zl 19 18,zc 20 15,zf 21 8 20,zs 21 19] (zq [zm 22 0,zc 23 22,zf 24 7 23,zl 25 24,zo 26 .bad] (.block 0 (.loop (zq [zo 27 .bad,ze 28 0 27] (.seq (.cond (.t 28) .skip (.exit 0)) (.block 1 (zq [zo 29 .bad,ze 30 0 29,ze 31 1 29,zo 2 (.new [zU 0,zU 0,zU 0]),zp (.store 3 (.t 2) (.t 30)),zm 3 31] (zq [zo 4 (.mv (zi 0))] (.seq (.block 2 (.loop (zr [zm 32 4,zm 33 3,zh 34 33,zb 35 .lss 32 34,zm 36 35,zg 37 (.mv (.t 3)) 36 true,zg 38 (.mv (.t 4)) 36 true,zg 39 (.idxA 1 (.t 37) (.t 38)) 36 true,zg 40 (.load false 1 (.t 39)) 36 true,zg 41 (.mv (.t 0)) 36 true,zg 42 (.nilChk (.t 41)) 36 true,zg 43 (.fieldA 5 (.t 42)) 36 true,zg 44 (.load false 1 (.t 43)) 36 true,zg 45 (.bin .sub (.t 44) (zi 32768)) 36 true,zg 46 (.bin .lss (.t 40) (.t 45)) 36 true,zo 47 (.pick (.t 36) (.t 46) (.c (.bool false)))] 47 .skip (.exit 2) (.block 3 (.reg [zm 48 4,zk 49 .add 48 1,zm 4 49]))))) (.block 4 (zq [zm 51 4,zm 52 3,zh 53 52,zb 54 .eql 51 53,zm 50 54] (.cond (.t 50) (.reg [zm 55 0,zc 56 55,zf 57 7 56,zl 58 57,zt 59 3 2,zp .bad]) (zq [zm 61 4,zk 62 .gtr 61 0,zm 60 62] (.cond (.t 60) (.draw [zm 63 0,zc 64 63,zf 65 7 64,zl 66 65,zt 67 3 2,zm 68 3,zm 69 4,zo 70 (.sl 1 (.t 68) (some (.t 69)) none none),zo 71 (.append 1 8 zn (.t 70)),zp (.hf (.mf (.upd (.arr 3))) [.t 66,.t 67,.t 71])] [[],[],[],[9],[9],[],[],[],[],[]]) .skip))))))))))))))),[]⟩
theorem za81:cN Tryz.prog 81=some c81:=by kernel_rfl
def c82:AFn:=⟨159,zq [zo 6 (.mv (zi 0)),zo 7 (.mv (zi 0))] (zq [zm 15 2,zm 16 1,zb 17 .sub 15 16,zo 18 (.pf (.mm false) [zi 258,.t 17]),zm 8 18] (zr [zm 19 8,zk 20 .lss 19 3] 20 (zq [zo 6 (.mv (zi 0)),zo 7 (.mv (zi 0))] .ret) .skip (.seq (.block 0 (.loop (zr [zm 21 0,zc 22 21,zf 23 6 22,zl 24 23,zm 25 1,zb 26 .lss 24 25] 26 .skip (.exit 0) (.seq (.block 1 (zq [zm 34 0,zm 35 0,zc 36 35,zf 37 6 36,zl 38 37,zx 39 104 [.t 34,.t 38],zo 9 (.new [zU 0,zU 0,zU 0]),zp (.store 3 (.t 9) (.t 39))] (.draw [zm 40 0,zc 41 40,zf 42 7 41,zl 43 42,zt 44 3 9,zm 46 0,zc 47 46,zf 48 6 47,zl 49 48,zo 50 (.buildSl 1 [zI 0] [(0,1,.t 49)]),zo 51 (.hf (.mf (.entry (.arr 3) zN)) [.t 43,.t 44]),ze 45 0 51,zo 52 (.append 1 8 (.t 45) (.t 50)),ze 53 1 51,zp (.hf (.mf .store) [.t 43,.t 53,.t 52])] [[],[],[],[10],[10],[],[],[],[],[],[],[],[],[],[]]))) (.reg [zm 27 0,zc 28 27,zf 29 6 28,zl 30 29,zk 31 .add 30 1,zc 32 27,zf 33 6 32,zs 33 31]))))) (zq [zm 54 0,zc 55 54,zf 56 3 55,zl 57 56,zm 58 1,zm 59 0,zc 60 59,zf 61 4 60,zl 62 61,zb 63 .sub 58 62,zm 64 1,zm 65 0,zc 66 65,zf 67 4 66,zl 68 67,zb 69 .sub 64 68,zm 70 8,zb 71 .add 69 70,zo 72 (.sl 1 (.t 57) (some (.t 63)) (some (.t 71)) none),zm 10 72] (.seq (.draw [zm 73 0,zc 74 73,zf 75 7 74,zl 76 75,zm 77 0,zm 78 1,zx 79 104 [.t 77,.t 78],zo 80 (.hf (.mLook (.arr 3) false zN) [.t 76,.t 79]),zm 11 80] [[],[],[],[7],[],[],[],[],[]]) (.seq (zq [zm 81 11,zh 82 81,zk 83 .sub 82 1,zm 12 83] (.block 2 (.loop (zr [zm 84 12,zk 85 .geq 84 0,zm 86 85,zg 87 (.mv (.t 11)) 86 true,zg 88 (.mv (.t 12)) 86 true,zg 89 (.idxA 1 (.t 87) (.t 88)) 86 true,zg 90 (.load false 1 (.t 89)) 86 true,zg 91 (.mv (.t 1)) 86 true,zg 92 (.bin .sub (.t 91) (zi 32768)) 86 true,zg 93 (.bin .geq (.t 90) (.t 92)) 86 true,zo 94 (.pick (.t 86) (.t 93) (.c (.bool false))),zm 95 94,zg 96 (.mv (.t 6)) 95 true,zg 97 (.mv (.t 8)) 95 true,zg 98 (.bin .lss (.t 96) (.t 97)) 95 true,zo 99 (.pick (.t 95) (.t 98) (.c (.bool false)))] 99 .skip (.exit 2) (.seq (.block 3 (zr [zm 102 11,zm 103 12,zd 104 102 103,zl 105 104,zm 106 1,zb 107 .geq 105 106] 107 (.exit 3) .skip (zq [zm 108 0,zc 109 108,zf 110 3 109,zl 111 110,zm 112 11,zm 113 12,zd 114 112 113,zl 115 114,zm 116 0,zc 117 116,zf 118 4 117,zl 119 118,zb 120 .sub 115 119,zo 121 (.sl 1 (.t 111) (some (.t 120)) none none),zm 13 121] (zr [zm 122 13,zm 123 6,zd 124 122 123,zl 125 124,zm 126 10,zm 127 6,zd 128 126 127,zl 129 128,zb 130 .neq 125 129] 130 (.exit 3) .skip (zq [zo 14 (.mv (zi 0))] (.seq (.block 4 (.loop (zr [zm 131 14,zm 132 8,zb 133 .lss 131 132,zm 134 133,zg 135 (.mv (.t 13)) 134 true,zg 136 (.mv (.t 14)) 134 true,zg 137 (.idxA 1 (.t 135) (.t 136)) 134 true,zg 138 (.load false 1 (.t 137)) 134 true,zg 139 (.mv (.t 10)) 134 true,zg 140 (.mv (.t 14)) 134 true,zg 141 (.idxA 1 (.t 139) (.t 140)) 134 true,zg 142 (.load false 1 (.t 141)) 134 true,zg 143 (.bin .eql (.t 138) (.t 142)) 134 true,zo 144 (.pick (.t 134) (.t 143) (.c (.bool false)))] 144 .skip (.exit 4) (.block 5 (.reg [zm 145 14,zk 146 .add 145 1,zm 14 146]))))) (zq [zm 147 14,zm 148 6,zb 149 .gtr 147 148] (.cond (.t 149) (.reg [zm 150 14,zm 151 1,zm 152 11,zm 153 12,zd 154 152 153,zl 155 154,zb 156 .sub 151 155,zm 6 150,zm 7 156]) .skip)))))))) (.reg [zm 100 12,zk 101 .sub 100 1,zm 12 101])))))) (zq [zm 157 6,zm 158 7,zm 6 157,zm 7 158] .ret))))))),[.t 6,.t 7]⟩
theorem za82:cN Tryz.prog 82=some c82:=by kernel_rfl
def c104:AFn:=⟨18,zq [zo 4 (.new [zU 0,zU 0,zU 0])] (zq [zm 5 0,zc 6 5,zf 7 3 6,zl 8 7,zm 9 1,zm 10 0,zc 11 10,zf 12 4 11,zl 13 12,zb 14 .sub 9 13,zo 15 (.sl 1 (.t 8) (some (.t 14)) none none),zo 16 (.pf (.s2a 3) [.t 15]),zt 17 3 16,zp (.store 3 (.t 4) (.t 17))] .ret),[.cell true 3 4]⟩
theorem za104:cN Tryz.prog 104=some c104:=by kernel_rfl
def c83:AFn:=⟨40,zq [zo 6 (.mv zn)] (zr [zm 11 1,zk 12 .eql 11 258] 12 (.reg [zm 13 0,zx 14 84 [zi 285],zo 15 (.buildSl 1 [.int .u32 (.ofNat 0),zI 0] [(0,2,.t 14)]),zo 16 (.append 2 16 (.t 13) (.t 15)),zm 0 16]) (zq [zm 18 1,zx 19 105 [.t 18,zi 3,.f 106],zm 17 19,ze 20 0 17,ze 21 1 17,zo 8 (.new [.int .u32 (.ofNat 0),zI 0]),zm 7 20,zp (.store 2 (.t 8) (.t 21))] (.draw [zm 22 0,zm 23 7,zo 24 (.bin .add (zi 257) (.t 23)),zx 25 84 [.t 24],zt 26 2 8,zo 27 (.buildSl 2 [.int .u32 (.ofNat 0),zI 0] [(0,2,.t 25),(2,2,.t 26)]),zo 28 (.append 2 16 (.t 22) (.t 27)),zm 0 28] [[],[],[],[],[3],[],[],[]])) (zq [zm 30 2,zx 31 105 [.t 30,zi 1,.f 107],zm 29 31,ze 32 0 29,ze 33 1 29,zo 10 (.new [.int .u32 (.ofNat 0),zI 0]),zm 9 32,zp (.store 2 (.t 10) (.t 33))] (.seq (.draw [zm 34 0,zm 35 9,zx 36 108 [.t 35,zi 5],zt 37 2 10,zo 38 (.buildSl 2 [.int .u32 (.ofNat 0),zI 0] [(0,2,.t 36),(2,2,.t 37)]),zo 39 (.append 2 16 (.t 34) (.t 38)),zm 6 39] [[],[],[],[2],[],[],[]]) .ret))),[.t 6]⟩
theorem za83:cN Tryz.prog 83=some c83:=by kernel_rfl
def c84:AFn:=⟨27,zq [zo 2 (.new [.int .u32 (.ofNat 0),zI 0])] (zq [zo 3 (.mv (zi 0)),zo 4 (.mv (zi 8))] (.seq (.block 0 (zq [zm 9 0,zk 10 .lss 9 144,zm 8 10] (.cond (.t 8) (.reg [zm 11 0,zo 12 (.bin .add (zi 48) (.t 11)),zm 3 12]) (zq [zm 14 0,zk 15 .lss 14 256,zm 13 15] (.cond (.t 13) (.reg [zm 16 0,zo 17 (.bin .add (zi 400) (.t 16)),zk 18 .sub 17 144,zm 3 18,zo 4 (.mv (zi 9))]) (zq [zm 20 0,zk 21 .lss 20 280,zm 19 21] (.cond (.t 19) (.reg [zm 22 0,zk 23 .sub 22 256,zm 3 23,zo 4 (.mv (zi 7))]) (.reg [zm 5 0,zo 6 (.bin .add (zi 192) (.t 5)),zk 7 .sub 6 280,zm 3 7])))))))) (zq [zm 24 3,zm 25 4,zx 26 108 [.t 24,.t 25],zp (.store 2 (.t 2) (.t 26))] .ret))),[.cell true 2 2]⟩
theorem za84:cN Tryz.prog 84=some c84:=by kernel_rfl
def c108:AFn:=⟨13,zq [zo 4 (.new [.int .u32 (.ofNat 0),zI 0])] (zq [zm 5 0,zv 6 .u32 5,zx 7 118 [.t 6],zm 8 1,zo 9 (.bin .sub (zi 32) (.t 8)),zb 10 .shr 7 9,zm 11 1,zo 12 (.build [.int .u32 (.ofNat 0),zI 0] [(0,1,.t 10),(1,1,.t 11)]),zp (.store 2 (.t 4) (.t 12))] .ret),[.cell true 2 4]⟩
theorem za108:cN Tryz.prog 108=some c108:=by kernel_rfl
def c118:AFn:=⟨26,zq [zo 2 (.mv (.c (.int .u32 (.ofNat 0))))] (zq [zm 3 0,zo 4 (.bin .shr (.t 3) (.c (.int .u64 (.ofNat 1)))),zo 5 (.bin .and (.t 4) (.c (.int .u32 (.ofNat 1431655765)))),zm 6 0,zo 7 (.bin .and (.t 6) (.c (.int .u32 (.ofNat 1431655765)))),zo 8 (.bin .shl (.t 7) (.c (.int .u64 (.ofNat 1)))),zb 9 .or 5 8,zm 0 9] (zq [zm 10 0,zo 11 (.bin .shr (.t 10) (.c (.int .u64 (.ofNat 2)))),zo 12 (.bin .and (.t 11) (.c (.int .u32 (.ofNat 858993459)))),zm 13 0,zo 14 (.bin .and (.t 13) (.c (.int .u32 (.ofNat 858993459)))),zo 15 (.bin .shl (.t 14) (.c (.int .u64 (.ofNat 2)))),zb 16 .or 12 15,zm 0 16] (zq [zm 17 0,zo 18 (.bin .shr (.t 17) (.c (.int .u64 (.ofNat 4)))),zo 19 (.bin .and (.t 18) (.c (.int .u32 (.ofNat 252645135)))),zm 20 0,zo 21 (.bin .and (.t 20) (.c (.int .u32 (.ofNat 252645135)))),zo 22 (.bin .shl (.t 21) (.c (.int .u64 (.ofNat 4)))),zb 23 .or 19 22,zm 0 23] (zq [zm 24 0,zx 25 133 [.t 24],zm 2 25] .ret)))),[.t 2]⟩
theorem za118:cN Tryz.prog 118=some c118:=by kernel_rfl
def c133:AFn:=⟨15,zq [zo 2 (.mv (.c (.int .u32 (.ofNat 0))))] (zq [zm 3 0,zo 4 (.bin .shr (.t 3) (.c (.int .u64 (.ofNat 8)))),zo 5 (.bin .and (.t 4) (.c (.int .u32 (.ofNat 16711935)))),zm 6 0,zo 7 (.bin .and (.t 6) (.c (.int .u32 (.ofNat 16711935)))),zo 8 (.bin .shl (.t 7) (.c (.int .u64 (.ofNat 8)))),zb 9 .or 5 8,zm 0 9] (zq [zm 10 0,zo 11 (.bin .shr (.t 10) (.c (.int .u64 (.ofNat 16)))),zm 12 0,zo 13 (.bin .shl (.t 12) (.c (.int .u64 (.ofNat 16)))),zb 14 .or 11 13,zm 2 14] .ret)),[.t 2]⟩
theorem za133:cN Tryz.prog 133=some c133:=by kernel_rfl
def c105:AFn:=⟨34,zq [zo 6 (.mv (zi 0)),zo 7 (.new [.int .u32 (.ofNat 0),zI 0])] (zq [zo 8 (.mv (zi 0))] (.seq (.block 0 (.loop (zr [zm 9 0,zm 10 1,zb 11 .sub 9 10,zm 12 2,zm 13 8,zo 14 (.callv (.t 12) [.t 13]),zo 15 (.bin .shl (zi 1) (.t 14)),zb 16 .geq 11 15] 16 .skip (.exit 0) (.block 1 (zq [zm 17 1,zm 18 2,zm 19 8,zo 20 (.callv (.t 18) [.t 19]),zo 21 (.bin .shl (zi 1) (.t 20)),zb 22 .add 17 21,zm 1 22] (.reg [zm 23 8,zk 24 .add 23 1,zm 8 24])))))) (zq [zm 25 8,zm 26 0,zm 27 1,zb 28 .sub 26 27,zv 29 .u32 28,zm 30 2,zm 31 8,zo 32 (.callv (.t 30) [.t 31]),zo 33 (.build [.int .u32 (.ofNat 0),zI 0] [(0,1,.t 29),(1,1,.t 32)]),zm 6 25,zp (.store 2 (.t 7) (.t 33))] .ret))),[.t 6,.cell true 2 7]⟩
theorem za105:cN Tryz.prog 105=some c105:=by kernel_rfl
def c106:AFn:=⟨7,zq [zo 2 (.mv (zi 0))] (zq [zm 3 0,zk 4 .quo 3 4,zk 5 .sub 4 1,zo 6 (.pf (.mm true) [zi 0,.t 5]),zm 2 6] .ret),[.t 2]⟩
theorem za106:cN Tryz.prog 106=some c106:=by kernel_rfl
def c107:AFn:=⟨7,zq [zo 2 (.mv (zi 0))] (zq [zm 3 0,zk 4 .quo 3 2,zk 5 .sub 4 1,zo 6 (.pf (.mm true) [zi 0,.t 5]),zm 2 6] .ret),[.t 2]⟩
theorem za107:cN Tryz.prog 107=some c107:=by kernel_rfl
def c85:AFn:=⟨18,zq [zo 2 (.mv (zi 0))] (zr [zm 3 0,zo 4 (.pf (.eqv false .ptr) [.t 3,.c (.ptr none)]),zm 5 4,zg 6 (.mv (.t 0)) 5 false,zg 7 (.nilChk (.t 6)) 5 false,zg 8 (.fieldA 0 (.t 7)) 5 false,zg 9 (.fieldA 0 (.t 8)) 5 false,zg 10 (.load false 1 (.t 9)) 5 false,zg 11 (.un .not (.t 10)) 5 false,zo 12 (.pick (.t 5) (.c (.bool true)) (.t 11))] 12 (zq [zo 2 (.mv (zi 0))] .ret) .skip (zq [zm 13 0,zc 14 13,zf 15 0 14,zf 16 2 15,zl 17 16,zm 2 17] .ret)),[.t 2]⟩
theorem za85:cN Tryz.prog 85=some c85:=by kernel_rfl
def c86:AFn:=⟨91,zq [zo 6 (.mv (zi 0))] (zr [zm 9 0,zo 10 (.pf (.eqv false .ptr) [.t 9,.c (.ptr none)]),zm 11 10,zg 12 (.mv (.t 0)) 11 false,zg 13 (.nilChk (.t 12)) 11 false,zg 14 (.fieldA 0 (.t 13)) 11 false,zg 15 (.fieldA 0 (.t 14)) 11 false,zg 16 (.load false 1 (.t 15)) 11 false,zg 17 (.un .not (.t 16)) 11 false,zo 18 (.pick (.t 11) (.c (.bool true)) (.t 17))] 18 (zq [zo 6 (.mv (zi 1))] .ret) .skip (zr [zm 19 2,zk 20 .lss 19 0,zm 21 20,zg 22 (.mv (.t 2)) 21 false,zg 23 (.bin .gtr (.t 22) (zi 32)) 21 false,zo 24 (.pick (.t 21) (.c (.bool true)) (.t 23)),zm 25 24,zg 26 (.mv (.t 1)) 25 false,zg 27 (.conv .u64 (.t 26)) 25 false,zg 28 (.mv (.t 2)) 25 false,zg 29 (.bin .shr (.t 27) (.t 28)) 25 false,zg 30 (.bin .neq (.t 29) (.c (.int .u64 (.ofNat 0)))) 25 false,zo 31 (.pick (.t 25) (.c (.bool true)) (.t 30))] 31 (zq [zo 6 (.mv (zi 2))] .ret) .skip (.seq (.block 0 (.loop (zr [zm 32 2,zk 33 .gtr 32 0] 33 .skip (.exit 0) (.block 1 (zq [zm 34 0,zc 35 34,zf 36 0 35,zx 37 87 [.t 36],zm 7 37] (zr [zm 38 7,zk 39 .eql 38 0] 39 (.reg [zm 40 0,zm 41 0,zc 42 41,zf 43 0 42,zf 44 1 43,zl 45 44,zo 46 (.buildSl 1 [zU 0] [(0,1,zu 0)]),zy 47 45 46,zc 48 40,zf 49 0 48,zf 50 1 49,zs 50 47]) .skip (zq [zm 51 0,zc 52 51,zf 53 0 52,zf 54 1 53,zl 55 54,zm 56 0,zc 57 56,zf 58 0 57,zf 59 1 58,zl 60 59,zh 61 60,zk 62 .sub 61 1,zd 63 55 62,zl 64 63,zm 65 1,zv 66 .u8 65,zm 67 7,zb 68 .shl 66 67,zb 69 .or 64 68,zd 70 55 62,zs 70 69] (zq [zm 71 7,zo 72 (.bin .sub (zi 8) (.t 71)),zm 73 2,zo 74 (.pf (.mm false) [.t 72,.t 73]),zm 8 74] (zq [zm 75 1,zm 76 8,zb 77 .shr 75 76,zm 1 77] (zq [zm 78 2,zm 79 8,zb 80 .sub 78 79,zm 2 80] (.reg [zm 81 0,zc 82 81,zf 83 0 82,zf 84 2 83,zl 85 84,zm 86 8,zb 87 .add 85 86,zc 88 81,zf 89 0 88,zf 90 2 89,zs 90 87]))))))))))) (zq [zo 6 (.mv (zi 0))] .ret)))),[.t 6]⟩
theorem za86:cN Tryz.prog 86=some c86:=by kernel_rfl
def c87:AFn:=⟨8,zq [zo 2 (.mv (zi 0))] (zq [zm 3 0,zc 4 3,zf 5 2 4,zl 6 5,zk 7 .rem 6 8,zm 2 7] .ret),[.t 2]⟩
theorem za87:cN Tryz.prog 87=some c87:=by kernel_rfl
def c65:AFn:=⟨21,zq [zo 2 (.mv (zi 0))] (zr [zm 3 0,zo 4 (.pf (.eqv false .ptr) [.t 3,.c (.ptr none)]),zm 5 4,zg 6 (.mv (.t 0)) 5 false,zg 7 (.nilChk (.t 6)) 5 false,zg 8 (.fieldA 0 (.t 7)) 5 false,zg 9 (.fieldA 0 (.t 8)) 5 false,zg 10 (.load false 1 (.t 9)) 5 false,zg 11 (.un .not (.t 10)) 5 false,zo 12 (.pick (.t 5) (.c (.bool true)) (.t 11))] 12 (zq [zo 2 (.mv (zi 1))] .ret) .skip (zq [zm 13 0,zm 14 0,zc 15 14,zf 16 0 15,zx 17 87 [.t 16],zo 18 (.bin .sub (zi 8) (.t 17)),zk 19 .rem 18 8,zx 20 86 [.t 13,.c (.int .u32 (.ofNat 0)),.t 19],zm 2 20] .ret)),[.t 2]⟩
theorem za65:cN Tryz.prog 65=some c65:=by kernel_rfl
def c63:AFn:=⟨42,zr [zm 3 0,zc 4 3,zf 5 5 4,zl 6 5,zm 7 0,zc 8 7,zf 9 4 8,zl 10 9,zb 11 .sub 6 10,zk 12 .leq 11 65536] 12 .ret .skip (zq [zm 13 0,zc 14 13,zf 15 5 14,zl 16 15,zk 17 .sub 16 32768,zm 18 0,zc 19 18,zf 20 6 19,zl 21 20,zo 22 (.pf (.mm false) [.t 17,.t 21]),zm 2 22] (zq [zm 23 0,zm 24 0,zc 25 24,zf 26 3 25,zl 27 26,zm 28 2,zm 29 0,zc 30 29,zf 31 4 30,zl 32 31,zb 33 .sub 28 32,zo 34 (.sl 1 (.t 27) (some (.t 33)) none none),zo 35 (.append 1 1 zn (.t 34)),zc 36 23,zf 37 3 36,zs 37 35] (.reg [zm 38 0,zm 39 2,zc 40 38,zf 41 4 40,zs 41 39]))),[]⟩
theorem za63:cN Tryz.prog 63=some c63:=by kernel_rfl
def c64:AFn:=⟨51,zq [zo 2 (.mv zn)] (zr [zm 5 0,zo 6 (.pf (.eqv false .ptr) [.t 5,.c (.ptr none)]),zm 7 6,zg 8 (.mv (.t 0)) 7 false,zg 9 (.nilChk (.t 8)) 7 false,zg 10 (.fieldA 0 (.t 9)) 7 false,zg 11 (.fieldA 0 (.t 10)) 7 false,zg 12 (.load false 1 (.t 11)) 7 false,zg 13 (.un .not (.t 12)) 7 false,zo 14 (.pick (.t 7) (.c (.bool true)) (.t 13))] 14 (zq [zo 2 (.mv zn)] .ret) .skip (zq [zm 15 0,zc 16 15,zf 17 0 16,zf 18 1 17,zl 19 18,zh 20 19,zm 3 20] (zr [zm 21 0,zc 22 21,zf 23 0 22,zx 24 87 [.t 23],zk 25 .neq 24 0] 25 (.reg [zm 26 3,zk 27 .sub 26 1,zm 3 27]) .skip (zr [zm 28 3,zk 29 .eql 28 0] 29 (zq [zo 2 (.mv zn)] .ret) .skip (zq [zm 30 0,zc 31 30,zf 32 0 31,zf 33 1 32,zl 34 33,zm 35 3,zm 36 3,zo 37 (.sl 1 (.t 34) none (some (.t 35)) (some (.t 36))),zm 4 37] (zq [zm 38 0,zm 39 0,zc 40 39,zf 41 0 40,zf 42 1 41,zl 43 42,zm 44 3,zo 45 (.sl 1 (.t 43) (some (.t 44)) none none),zo 46 (.append 1 1 zn (.t 45)),zc 47 38,zf 48 0 47,zf 49 1 48,zs 49 46] (zq [zm 50 4,zm 2 50] .ret))))))),[.t 2]⟩
theorem za64:cN Tryz.prog 64=some c64:=by kernel_rfl
def c43:AFn:=⟨9,zq [zo 2 (.mv zn),zo 3 (.mv (zi 0))] (zq [zl 4 0,zl 5 1,zo 6 (.callv (.t 4) [.t 5]),ze 7 0 6,ze 8 1 6,zm 2 7,zm 3 8] .ret),[.t 2,.t 3]⟩
theorem za43:cN Tryz.prog 43=some c43:=by kernel_rfl
def c42:AFn:=⟨27,zq [zo 4 (.mv zn)] (zq [zo 5 (.mv zn)] (zr [zm 8 0,zc 9 8,zf 10 1 9,zl 11 10,zo 12 (.un .not (.t 11))] 12 (zq [zm 13 5,zo 14 (.buildSl 2 [zU 0] [(0,1,zu 120),(1,1,zu 1)]),zy 15 13 14,zm 5 15] (.reg [zm 16 0,zc 17 16,zf 18 1 17,zp (.store 1 (.t 18) (.c (.bool true)))])) .skip (zq [zm 20 1,zo 21 (.callv (.t 20) []),zm 19 21,ze 22 0 19,ze 23 1 19,zm 6 22,zm 7 23] (zq [zm 24 5,zm 25 6,zy 26 24 25,zm 4 26] .ret)))),[.t 4]⟩
theorem za42:cN Tryz.prog 42=some c42:=by kernel_rfl
def c20:AFn:=⟨50,zq [zo 2 (.mv zn),zo 3 (.mv (zi 0))] (.seq (zq [zm 6 0,zx 7 39 [.t 6],zm 4 7] (zq [zm 8 4,zk 9 .neq 8 0] (.cond (.t 9) (zq [zm 10 4,zo 2 (.mv zn),zm 3 10] .ret) .skip))) (zq [zm 11 0,zm 12 0,zc 13 12,zf 14 3 13,zl 15 14,zo 16 (.mkFunc (.func 44) [.t 15] []),zx 17 42 [.t 11,.t 16],zm 5 17] (zq [zm 18 0,zc 19 18,zf 20 2 19,zp (.store 1 (.t 20) (.c (.bool true)))] (zq [zm 21 0,zc 22 21,zf 23 3 22,zp (.store 1 (.t 23) (.c (.ptr none)))] (zq [zm 24 5,zm 25 0,zc 26 25,zf 27 4 26,zl 28 27,zo 29 (.bin .shr (.t 28) (.c (.int .u64 (.ofNat 24)))),zv 30 .u8 29,zm 31 0,zc 32 31,zf 33 4 32,zl 34 33,zo 35 (.bin .shr (.t 34) (.c (.int .u64 (.ofNat 16)))),zv 36 .u8 35,zm 37 0,zc 38 37,zf 39 4 38,zl 40 39,zo 41 (.bin .shr (.t 40) (.c (.int .u64 (.ofNat 8)))),zv 42 .u8 41,zm 43 0,zc 44 43,zf 45 4 44,zl 46 45,zv 47 .u8 46,zo 48 (.buildSl 4 [zU 0] [(0,1,.t 30),(1,1,.t 36),(2,1,.t 42),(3,1,.t 47)]),zy 49 24 48,zm 2 49,zo 3 (.mv (zi 0))] .ret))))),[.t 2,.t 3]⟩
theorem za20:cN Tryz.prog 20=some c20:=by kernel_rfl
def c44:AFn:=⟨48,zq [zo 2 (.mv zn),zo 3 (.mv (zi 0))] (zr [zm 4 0,zo 5 (.pf (.eqv false .ptr) [.t 4,.c (.ptr none)]),zm 6 5,zg 7 (.mv (.t 0)) 6 false,zg 8 (.nilChk (.t 7)) 6 false,zg 9 (.fieldA 0 (.t 8)) 6 false,zg 10 (.load false 1 (.t 9)) 6 false,zg 11 (.un .not (.t 10)) 6 false,zo 12 (.pick (.t 6) (.c (.bool true)) (.t 11))] 12 (zq [zo 2 (.mv zn),zo 3 (.mv (zi 1))] .ret) .skip (zr [zm 13 0,zc 14 13,zf 15 1 14,zl 16 15] 16 (zq [zo 2 (.mv zn),zo 3 (.mv (zi 23))] .ret) .skip (zq [zm 17 0,zm 18 0,zc 19 18,zf 20 4 19,zl 21 20,zm 22 0,zc 23 22,zf 24 3 23,zl 25 24,zh 26 25,zb 27 .add 21 26,zx 28 62 [.t 17,.t 27,.c (.bool true)]] (zq [zm 29 0,zc 30 29,zf 31 2 30,zl 32 31,zx 33 65 [.t 32]] (zq [zm 34 0,zc 35 34,zf 36 1 35,zp (.store 1 (.t 36) (.c (.bool true)))] (zq [zm 37 0,zm 38 0,zc 39 37,zf 40 3 39,zp (.store 1 (.t 40) zn),zc 41 38,zf 42 7 41,zp (.store 1 (.t 42) (.c (.map none)))] (zq [zm 43 0,zc 44 43,zf 45 2 44,zl 46 45,zx 47 64 [.t 46],zm 2 47,zo 3 (.mv (zi 0))] .ret))))))),[.t 2,.t 3]⟩
theorem za44:cN Tryz.prog 44=some c44:=by kernel_rfl
def c26:AFn:=⟨70,zq [zo 4 (.mv zn),zo 5 (.mv (zi 0))] (zr [zm 11 0,zh 12 11,zk 13 .lss 12 2] 13 (zq [zo 4 (.mv zn),zo 5 (.mv (zi 12))] .ret) .skip (zr [zm 14 0,zo 15 (.idxA 1 (.t 14) (zi 0)),zl 16 15,zm 17 0,zo 18 (.idxA 1 (.t 17) (zi 1)),zl 19 18,zx 20 50 [.t 16,.t 19],zo 21 (.un .not (.t 20))] 21 (zq [zo 4 (.mv zn),zo 5 (.mv (zi 10))] .ret) .skip (zq [zm 23 0,zo 24 (.sl 1 (.t 23) (some (zi 2)) none none),zm 25 1,zx 26 51 [.t 24,.t 25],zm 22 26,ze 27 0 22,ze 28 1 22,ze 29 2 22,zm 6 27,zm 7 28,zm 8 29] (zr [zm 30 8,zk 31 .neq 30 0] 31 (zq [zm 32 8,zo 4 (.mv zn),zm 5 32] .ret) .skip (zq [zm 33 0,zm 34 7,zo 35 (.bin .add (zi 2) (.t 34)),zo 36 (.sl 1 (.t 33) (some (.t 35)) none none),zm 9 36] (zr [zm 37 9,zh 38 37,zk 39 .lss 38 4] 39 (zq [zo 4 (.mv zn),zo 5 (.mv (zi 12))] .ret) .skip (zq [zm 40 9,zo 41 (.idxA 1 (.t 40) (zi 0)),zl 42 41,zv 43 .u32 42,zo 44 (.bin .shl (.t 43) (.c (.int .u64 (.ofNat 24)))),zm 45 9,zo 46 (.idxA 1 (.t 45) (zi 1)),zl 47 46,zv 48 .u32 47,zo 49 (.bin .shl (.t 48) (.c (.int .u64 (.ofNat 16)))),zb 50 .or 44 49,zm 51 9,zo 52 (.idxA 1 (.t 51) (zi 2)),zl 53 52,zv 54 .u32 53,zo 55 (.bin .shl (.t 54) (.c (.int .u64 (.ofNat 8)))),zb 56 .or 50 55,zm 57 9,zo 58 (.idxA 1 (.t 57) (zi 3)),zl 59 58,zv 60 .u32 59,zb 61 .or 56 60,zm 10 61] (zr [zm 62 10,zm 63 6,zx 64 40 [.c (.int .u32 (.ofNat 1)),.t 63],zb 65 .neq 62 64] 65 (zq [zo 4 (.mv zn),zo 5 (.mv (zi 11))] .ret) .skip (zr [zm 66 9,zh 67 66,zk 68 .gtr 67 4] 68 (zq [zo 4 (.mv zn),zo 5 (.mv (zi 10))] .ret) .skip (zq [zm 69 6,zm 4 69,zo 5 (.mv (zi 0))] .ret)))))))))),[.t 4,.t 5]⟩
theorem za26:cN Tryz.prog 26=some c26:=by kernel_rfl
def c50:AFn:=⟨28,zq [zo 4 (.mv (.c (.bool false)))] (zq [zm 5 0,zo 6 (.bin .rem (.t 5) (zu 16)),zo 7 (.bin .eql (.t 6) (zu 8)),zm 8 7,zg 9 (.mv (.t 0)) 8 true,zg 10 (.bin .quo (.t 9) (zu 16)) 8 true,zg 11 (.bin .leq (.t 10) (zu 7)) 8 true,zo 12 (.pick (.t 8) (.t 11) (.c (.bool false))),zm 13 12,zg 14 (.mv (.t 0)) 13 true,zg 15 (.conv .i64 (.t 14)) 13 true,zg 16 (.bin .mul (zi 256) (.t 15)) 13 true,zg 17 (.mv (.t 1)) 13 true,zg 18 (.conv .i64 (.t 17)) 13 true,zg 19 (.bin .add (.t 16) (.t 18)) 13 true,zg 20 (.bin .rem (.t 19) (zi 31)) 13 true,zg 21 (.bin .eql (.t 20) (zi 0)) 13 true,zo 22 (.pick (.t 13) (.t 21) (.c (.bool false))),zm 23 22,zg 24 (.mv (.t 1)) 23 true,zg 25 (.bin .and (.t 24) (zu 32)) 23 true,zg 26 (.bin .eql (.t 25) (zu 0)) 23 true,zo 27 (.pick (.t 23) (.t 26) (.c (.bool false))),zm 4 27] .ret),[.t 4]⟩
theorem za50:cN Tryz.prog 50=some c50:=by kernel_rfl
def c51:AFn:=⟨16,zq [zo 4 (.mv zn),zo 5 (.mv (zi 0)),zo 6 (.mv (zi 0))] (zq [zm 8 0,zx 9 68 [.t 8],zm 10 1,zo 11 (.build [.ptr none,zN,zI 0,.ptr none,.ptr none] [(0,1,.t 9),(2,1,.t 10)]),zo 7 (.new [.ptr none,zN,zI 0,.ptr none,.ptr none]),zp (.store 5 (.t 7) (.t 11))] (zq [zx 12 69 [.t 7],ze 13 0 12,ze 14 1 12,ze 15 2 12,zm 4 13,zm 5 14,zm 6 15] .ret)),[.t 4,.t 5,.t 6]⟩
theorem za51:cN Tryz.prog 51=some c51:=by kernel_rfl
def c68:AFn:=⟨8,zq [zo 2 (.mv (.c (.ptr none)))] (zq [zm 3 0,zo 4 (.append 1 1 zn (.t 3)),zo 5 (.build [.bool false,zN,zI 0] [(0,1,.c (.bool true)),(1,1,.t 4)]),zo 6 (.build [.bool false,zN,zI 0] [(0,3,.t 5)]),zo 7 (.box (.t 6)),zm 2 7] .ret),[.t 2]⟩
theorem za68:cN Tryz.prog 68=some c68:=by kernel_rfl
def c69:AFn:=⟨19,.seq (.block 1000000 (zq [zo 2 (.new [zN]),zo 3 (.new [zI 0]),zo 4 (.new [zI 0])] (zq [zo 5 (.mkFunc (.func 88) [] [.t 2,.t 3,.t 4]),zo 20 (.pf .dset [.t 20,.t 5])] (.seq (.block 0 (.loop (.seq (.seq (zq [zm 6 0,zx 22 1113 [.t 6],zo 21 (.pf .isP [.t 22])] (.seq (.cond (.t 21) (zq [zm 19 22] (.exit 1000000)) .skip) (.reg [zm 7 22]))) (.cond (.t 7) .skip (.exit 0))) (.block 1 .skip)))) (.seq (.draw [zm 8 0,zc 9 8,zf 10 1 9,zl 11 10,zm 12 0,zc 13 12,zf 14 0 13,zl 15 14,zx 16 90 [.t 15],zk 17 .add 16 7,zk 18 .quo 17 8,zs 2 11,zs 3 18,zp (.store 1 (.t 4) (zi 0))] [[],[],[],[11],[],[],[],[],[],[],[],[],[],[]]) (.exit 1000000)))))) (zq [zo 21 (.pf .isU [.t 20])] (.cond (.t 21) (zq [zo 21 (.pf .isU [.t 19])] (.cond (.t 21) (zq [zl 23 2,zl 24 3,zl 25 4,zo 22 (.pf .tup [.t 23,.t 24,.t 25])] .ret) (.reg [zp .bad]))) (zq [zo 22 (.pf .unP [.t 19]),zo 21 (.pf (.isF 88 3) [.t 20]),zo 23 (.pf (.capt 0) [.t 20]),zo 24 (.pf (.capt 1) [.t 20]),zo 25 (.pf (.capt 2) [.t 20]),zp (.call 2136 [.t 23,.t 24,.t 25,.t 22])] (zq [zl 23 2,zl 24 3,zl 25 4,zo 22 (.pf .tup [.t 23,.t 24,.t 25])] .ret)))),[.t 22]⟩
theorem za69:cNE Tryz.prog (some ⟨[89],(some (88,3,true))⟩) 69=some c69:=by kernel_rfl
def c1113:AFn:=⟨50,.seq (.block 1000000 (zq [zo 2 (.mv (.c (.bool false)))] (.seq (zq [zm 4 0,zx 53 1133 [.t 4,zi 1],zo 52 (.pf .isP [.t 53])] (.seq (.cond (.t 52) (zq [zm 50 53] (.exit 1000000)) .skip) (.reg [zm 5 53,zm 3 5]))) (.seq (.seq (zq [zm 6 0,zx 53 1133 [.t 6,zi 2],zo 52 (.pf .isP [.t 53])] (.seq (.cond (.t 52) (zq [zm 50 53] (.exit 1000000)) .skip) (.reg [zm 7 53]))) (.block 0 (zq [zk 10 .eql 7 0,zm 9 10] (.cond (.t 9) (zq [zm 11 0,zx 53 1134 [.t 11],zo 52 (.pf .isP [.t 53])] (.seq (.cond (.t 52) (zq [zm 50 53] (.exit 1000000)) .skip) (.reg [zm 12 53]))) (zq [zk 14 .eql 7 1,zm 13 14] (.cond (.t 13) (zr [zm 15 0,zc 16 15,zf 17 3 16,zl 18 17,zo 19 (.pf (.eqv false .ptr) [.t 18,.c (.ptr none)])] 19 (.reg [zm 21 0,zm 22 0,zx 23 111 [],zm 20 23,ze 24 0 20,ze 25 1 20,zc 26 21,zf 27 3 26,zs 27 24,zc 28 22,zf 29 4 28,zs 29 25]) .skip (zq [zm 30 0,zm 31 0,zc 32 31,zf 33 3 32,zl 34 33,zm 35 0,zc 36 35,zf 37 4 36,zl 38 37,zx 39 1136 [.t 30,.t 34,.t 38]] (zq [zo 52 (.pf .isP [.t 39])] (.cond (.t 52) (zq [zo 52 (.pf .isU [.t 51])] (.cond (.t 52) (zq [zm 50 39] (.exit 1000000)) (.reg [zp .bad]))) .skip)))) (zq [zk 41 .eql 7 2,zm 40 41] (.cond (.t 40) (zq [zm 42 0,zm 43 0,zx 53 1137 [.t 43],zo 52 (.pf .isP [.t 53])] (.seq (.cond (.t 52) (zq [zm 50 53] (.exit 1000000)) .skip) (zq [zm 44 53,ze 45 0 44,ze 46 1 44,zx 53 1136 [.t 42,.t 45,.t 46],zo 52 (.pf .isP [.t 53])] (.seq (.cond (.t 52) (zq [zm 50 53] (.exit 1000000)) .skip) (.reg [zm 47 53]))))) (zq [zo 8 (.mkIface 149 (zi 10)),zo 50 (.pf .mkP [.t 8])] (.exit 1000000)))))))))) (zq [zm 48 3,zk 49 .eql 48 0,zm 2 49] (.exit 1000000)))))) (zq [zo 52 (.pf .isU [.t 51])] (.cond (.t 52) (zq [zo 52 (.pf .isU [.t 50])] (.cond (.t 52) (zq [zm 54 2,zo 53 (.pf .tup [.t 54])] .ret) (zq [zm 53 50] .ret))) (.reg [zp .bad]))),[.t 53]⟩
theorem za1113:cNE Tryz.prog (some ⟨[109,110,112,113],none⟩) 1113=some c1113:=by kernel_rfl
def c1133:AFn:=⟨22,.seq (.block 1000000 (zq [zo 4 (.mv (zi 0))] (zq [zm 8 0,zc 9 8,zf 10 0 9,zl 11 10,zm 12 1,zx 13 119 [.t 11,.t 12],zm 7 13,ze 14 0 7,ze 15 1 7,zm 5 14,zm 6 15] (zr [zm 16 6,zk 17 .neq 16 0] 17 (zq [zm 18 6,zo 19 (.mkIface 149 (.t 18)),zo 22 (.pf .mkP [.t 19])] (.exit 1000000)) .skip (zq [zm 20 5,zv 21 .i64 20,zm 4 21] (.exit 1000000)))))) (zq [zo 24 (.pf .isU [.t 23])] (.cond (.t 24) (zq [zo 24 (.pf .isU [.t 22])] (.cond (.t 24) (zq [zm 26 4,zo 25 (.pf .tup [.t 26])] .ret) (zq [zm 25 22] .ret))) (.reg [zp .bad]))),[.t 25]⟩
theorem za1133:cNE Tryz.prog (some ⟨[],none⟩) 1133=some c1133:=by kernel_rfl
def c119:AFn:=⟨94,zq [zo 4 (.mv (.c (.int .u32 (.ofNat 0)))),zo 5 (.mv (zi 0))] (zr [zm 11 0,zo 12 (.pf (.eqv false .ptr) [.t 11,.c (.ptr none)]),zm 13 12,zg 14 (.mv (.t 0)) 13 false,zg 15 (.nilChk (.t 14)) 13 false,zg 16 (.fieldA 0 (.t 15)) 13 false,zg 17 (.fieldA 0 (.t 16)) 13 false,zg 18 (.load false 1 (.t 17)) 13 false,zg 19 (.un .not (.t 18)) 13 false,zo 20 (.pick (.t 13) (.c (.bool true)) (.t 19))] 20 (zq [zo 4 (.mv (.c (.int .u32 (.ofNat 0)))),zo 5 (.mv (zi 1))] .ret) .skip (zr [zm 21 1,zk 22 .lss 21 0,zm 23 22,zg 24 (.mv (.t 1)) 23 false,zg 25 (.bin .gtr (.t 24) (zi 32)) 23 false,zo 26 (.pick (.t 23) (.c (.bool true)) (.t 25))] 26 (zq [zo 4 (.mv (.c (.int .u32 (.ofNat 0)))),zo 5 (.mv (zi 2))] .ret) .skip (zr [zm 27 0,zc 28 27,zf 29 0 28,zf 30 1 29,zl 31 30,zh 32 31,zk 33 .mul 32 8,zm 34 0,zc 35 34,zf 36 0 35,zf 37 2 36,zl 38 37,zb 39 .sub 33 38,zm 40 1,zb 41 .lss 39 40] 41 (zq [zo 4 (.mv (.c (.int .u32 (.ofNat 0)))),zo 5 (.mv (zi 12))] .ret) .skip (zq [zo 6 (.mv (.c (.int .u32 (.ofNat 0))))] (.seq (zq [zo 7 (.mv (zi 0))] (.block 0 (.loop (zr [zm 42 7,zm 43 1,zb 44 .lss 42 43] 44 .skip (.exit 0) (.block 1 (zq [zm 45 0,zc 46 45,zf 47 0 46,zx 48 87 [.t 47],zm 8 48] (zq [zm 49 8,zo 50 (.bin .sub (zi 8) (.t 49)),zm 51 1,zm 52 7,zb 53 .sub 51 52,zo 54 (.pf (.mm false) [.t 50,.t 53]),zm 9 54] (zq [zm 55 0,zc 56 55,zf 57 0 56,zf 58 1 57,zl 59 58,zm 60 0,zc 61 60,zf 62 0 61,zf 63 2 62,zl 64 63,zk 65 .quo 64 8,zd 66 59 65,zl 67 66,zm 68 8,zb 69 .shr 67 68,zv 70 .u32 69,zm 71 9,zo 72 (.bin .shl (.c (.int .u32 (.ofNat 1))) (.t 71)),zo 73 (.bin .sub (.t 72) (.c (.int .u32 (.ofNat 1)))),zb 74 .and 70 73,zm 10 74] (zq [zm 75 6,zm 76 10,zm 77 7,zb 78 .shl 76 77,zb 79 .or 75 78,zm 6 79] (zq [zm 80 7,zm 81 9,zb 82 .add 80 81,zm 7 82] (.reg [zm 83 0,zc 84 83,zf 85 0 84,zf 86 2 85,zl 87 86,zm 88 9,zb 89 .add 87 88,zc 90 83,zf 91 0 90,zf 92 2 91,zs 92 89]))))))))))) (zq [zm 93 6,zm 4 93,zo 5 (.mv (zi 0))] .ret)))))),[.t 4,.t 5]⟩
theorem za119:cN Tryz.prog 119=some c119:=by kernel_rfl
def c1134:AFn:=⟨35,.seq (.block 1000000 (zq [zm 3 0,zc 4 3,zf 5 0 4,zl 6 5,zx 7 120 [.t 6]] (.seq (zq [zm 8 0,zx 38 1133 [.t 8,zi 16],zo 37 (.pf .isP [.t 38])] (.seq (.cond (.t 37) (zq [zm 35 38] (.exit 1000000)) .skip) (.reg [zm 9 38,zm 2 9]))) (.seq (.seq (zq [zm 10 0,zx 38 1133 [.t 10,zi 16],zo 37 (.pf .isP [.t 38])] (.seq (.cond (.t 37) (zq [zm 35 38] (.exit 1000000)) .skip) (.reg [zm 11 38,zm 12 2,zk 13 .xor 12 65535,zb 14 .neq 11 13]))) (.cond (.t 14) (zq [zo 15 (.mkIface 149 (zi 10)),zo 35 (.pf .mkP [.t 15])] (.exit 1000000)) .skip)) (.seq (zq [zm 16 0,zm 17 2,zx 38 1145 [.t 16,.t 17],zo 37 (.pf .isP [.t 38])] (.seq (.cond (.t 37) (zq [zm 35 38] (.exit 1000000)) .skip) (.reg [zm 18 38]))) (zq [zm 19 2,zo 20 (.mv (zi 0))] (.block 0 (.loop (zq [zb 21 .lss 20 19] (.seq (.cond (.t 21) .skip (.exit 0)) (.seq (.block 1 (.seq (.draw [zm 22 0,zm 23 0,zc 24 23,zf 25 1 24,zl 26 25,zm 27 0,zx 28 1133 [.t 27,zi 8],zg 29 (.conv .u8 (.t 28)) 1000028 false,zg 30 (.buildSl 1 [zU 0] [(0,1,.t 29)]) 1000028 false,zg 31 (.append 1 1 (.t 26) (.t 30)) 1000028 false,zg 32 (.nilChk (.t 22)) 1000028 false,zg 33 (.fieldA 1 (.t 32)) 1000028 false,⟨none,.store 1 (.t 33) (.t 31),some (1000028,false)⟩] [[],[],[],[],[8,9],[],[],[],[],[],[],[],[]]) (zq [zo 37 (.pf .isP [.t 28])] (.cond (.t 37) (zq [zo 37 (.pf .isU [.t 36])] (.cond (.t 37) (zq [zm 35 28] (.exit 1000000)) (.reg [zp .bad]))) .skip)))) (.reg [zk 34 .add 20 1,zm 20 34])))))))))))) (zq [zo 37 (.pf .isU [.t 36])] (.cond (.t 37) (zq [zo 37 (.pf .isU [.t 35])] (.cond (.t 37) (zq [zo 38 (.pf .tup [])] .ret) (zq [zm 38 35] .ret))) (.reg [zp .bad]))),[.t 38]⟩
theorem za1134:cNE Tryz.prog (some ⟨[109,121],none⟩) 1134=some c1134:=by kernel_rfl
def c120:AFn:=⟨28,zq [zo 2 (.mv (zi 0))] (zr [zm 3 0,zo 4 (.pf (.eqv false .ptr) [.t 3,.c (.ptr none)]),zm 5 4,zg 6 (.mv (.t 0)) 5 false,zg 7 (.nilChk (.t 6)) 5 false,zg 8 (.fieldA 0 (.t 7)) 5 false,zg 9 (.fieldA 0 (.t 8)) 5 false,zg 10 (.load false 1 (.t 9)) 5 false,zg 11 (.un .not (.t 10)) 5 false,zo 12 (.pick (.t 5) (.c (.bool true)) (.t 11))] 12 (zq [zo 2 (.mv (zi 1))] .ret) .skip (.seq (.draw [zm 13 0,zc 14 13,zf 15 0 14,zf 16 2 15,zl 17 16,zm 18 0,zc 19 18,zf 20 0 19,zx 21 87 [.t 20],zo 22 (.bin .sub (zi 8) (.t 21)),zk 23 .rem 22 8,zb 24 .add 17 23,zc 25 13,zf 26 0 25,zf 27 2 26,zs 27 24] [[],[],[],[],[15],[],[],[],[],[],[],[],[],[],[],[]]) (zq [zo 2 (.mv (zi 0))] .ret))),[.t 2]⟩
theorem za120:cN Tryz.prog 120=some c120:=by kernel_rfl
def c1145:AFn:=⟨17,.seq (.block 1000000 (zq [zm 4 1,zm 5 0,zc 6 5,zf 7 2 6,zl 8 7,zm 9 0,zc 10 9,zf 11 1 10,zl 12 11,zh 13 12,zb 14 .sub 8 13,zb 15 .gtr 4 14] (.cond (.t 15) (zq [zo 16 (.mkIface 149 (zi 3)),zo 17 (.pf .mkP [.t 16])] (.exit 1000000)) .skip))) (zq [zo 19 (.pf .isU [.t 18])] (.cond (.t 19) (zq [zo 19 (.pf .isU [.t 17])] (.cond (.t 19) (zq [zo 20 (.pf .tup [])] .ret) (zq [zm 20 17] .ret))) (.reg [zp .bad]))),[.t 20]⟩
theorem za1145:cNE Tryz.prog (some ⟨[],none⟩) 1145=some c1145:=by kernel_rfl
def c111:AFn:=⟨37,zq [zo 0 (.mv (.c (.ptr none))),zo 1 (.mv (.c (.ptr none)))] (zq [zo 2 (.new [zI 0,zI 0,zI 0,zI 0,zI 0,zI 0,zI 0,zI 0,zI 0,zI 0,zI 0,zI 0,zI 0,zI 0,zI 0,zI 0,zI 0,zI 0,zI 0,zI 0,zI 0,zI 0,zI 0,zI 0,zI 0,zI 0,zI 0,zI 0,zI 0,zI 0,zI 0,zI 0,zI 0,zI 0,zI 0,zI 0,zI 0,zI 0,zI 0,zI 0,zI 0,zI 0,zI 0,zI 0,zI 0,zI 0,zI 0,zI 0,zI 0,zI 0,zI 0,zI 0,zI 0,zI 0,zI 0,zI 0,zI 0,zI 0,zI 0,zI 0,zI 0,zI 0,zI 0,zI 0,zI 0,zI 0,zI 0,zI 0,zI 0,zI 0,zI 0,zI 0,zI 0,zI 0,zI 0,zI 0,zI 0,zI 0,zI 0,zI 0,zI 0,zI 0,zI 0,zI 0,zI 0,zI 0,zI 0,zI 0,zI 0,zI 0,zI 0,zI 0,zI 0,zI 0,zI 0,zI 0,zI 0,zI 0,zI 0,zI 0,zI 0,zI 0,zI 0,zI 0,zI 0,zI 0,zI 0,zI 0,zI 0,zI 0,zI 0,zI 0,zI 0,zI 0,zI 0,zI 0,zI 0,zI 0,zI 0,zI 0,zI 0,zI 0,zI 0,zI 0,zI 0,zI 0,zI 0,zI 0,zI 0,zI 0,zI 0,zI 0,zI 0,zI 0,zI 0,zI 0,zI 0,zI 0,zI 0,zI 0,zI 0,zI 0,zI 0,zI 0,zI 0,zI 0,zI 0,zI 0,zI 0,zI 0,zI 0,zI 0,zI 0,zI 0,zI 0,zI 0,zI 0,zI 0,zI 0,zI 0,zI 0,zI 0,zI 0,zI 0,zI 0,zI 0,zI 0,zI 0,zI 0,zI 0,zI 0,zI 0,zI 0,zI 0,zI 0,zI 0,zI 0,zI 0,zI 0,zI 0,zI 0,zI 0,zI 0,zI 0,zI 0,zI 0,zI 0,zI 0,zI 0,zI 0,zI 0,zI 0,zI 0,zI 0,zI 0,zI 0,zI 0,zI 0,zI 0,zI 0,zI 0,zI 0,zI 0,zI 0,zI 0,zI 0,zI 0,zI 0,zI 0,zI 0,zI 0,zI 0,zI 0,zI 0,zI 0,zI 0,zI 0,zI 0,zI 0,zI 0,zI 0,zI 0,zI 0,zI 0,zI 0,zI 0,zI 0,zI 0,zI 0,zI 0,zI 0,zI 0,zI 0,zI 0,zI 0,zI 0,zI 0,zI 0,zI 0,zI 0,zI 0,zI 0,zI 0,zI 0,zI 0,zI 0,zI 0,zI 0,zI 0,zI 0,zI 0,zI 0,zI 0,zI 0,zI 0,zI 0,zI 0,zI 0,zI 0,zI 0,zI 0,zI 0,zI 0,zI 0,zI 0,zI 0,zI 0,zI 0,zI 0,zI 0,zI 0,zI 0,zI 0,zI 0,zI 0,zI 0,zI 0,zI 0,zI 0,zI 0,zI 0,zI 0,zI 0,zI 0,zI 0,zI 0,zI 0,zI 0])] (.seq (zq [zo 6 (.mv (zi 0))] (.block 0 (.loop (zq [zk 7 .lss 6 288] (.seq (.cond (.t 7) .skip (.exit 0)) (.seq (.block 1 (zq [zm 8 6,zm 3 8] (.block 2 (zq [zm 12 3,zk 13 .lss 12 144,zm 11 13] (.cond (.t 11) (.reg [zm 14 3,zo 15 (.idxArr 288 1 (.t 2) (.t 14)),zp (.store 1 (.t 15) (zi 8))]) (zq [zm 17 3,zk 18 .lss 17 256,zm 16 18] (.cond (.t 16) (.reg [zm 19 3,zo 20 (.idxArr 288 1 (.t 2) (.t 19)),zp (.store 1 (.t 20) (zi 9))]) (zq [zm 22 3,zk 23 .lss 22 280,zm 21 23] (.cond (.t 21) (.reg [zm 24 3,zo 25 (.idxArr 288 1 (.t 2) (.t 24)),zp (.store 1 (.t 25) (zi 7))]) (.reg [zm 9 3,zo 10 (.idxArr 288 1 (.t 2) (.t 9)),zp (.store 1 (.t 10) (zi 8))])))))))))) (.reg [zk 26 .add 6 1,zm 6 26]))))))) (zq [zo 4 (.new [zI 0,zI 0,zI 0,zI 0,zI 0,zI 0,zI 0,zI 0,zI 0,zI 0,zI 0,zI 0,zI 0,zI 0,zI 0,zI 0,zI 0,zI 0,zI 0,zI 0,zI 0,zI 0,zI 0,zI 0,zI 0,zI 0,zI 0,zI 0,zI 0,zI 0,zI 0,zI 0])] (.seq (zq [zo 27 (.mv (zi 0))] (.block 3 (.loop (zq [zk 28 .lss 27 32] (.seq (.cond (.t 28) .skip (.exit 3)) (.seq (.block 4 (zq [zm 29 27,zm 5 29] (.reg [zm 30 5,zo 31 (.idxArr 32 1 (.t 4) (.t 30)),zp (.store 1 (.t 31) (zi 5))]))) (.reg [zk 32 .add 27 1,zm 27 32]))))))) (zq [zo 33 (.slA 288 1 (.t 2) none none none),zx 34 122 [.t 33],zo 35 (.slA 32 1 (.t 4) none none none),zx 36 122 [.t 35],zm 0 34,zm 1 36] .ret))))),[.t 0,.t 1]⟩
theorem za111:cN Tryz.prog 111=some c111:=by kernel_rfl
def c122:AFn:=⟨95,zq [zo 2 (.mv (.c (.ptr none)))] (zq [zo 11 (.build [zI 0,zI 0,zI 0,zI 0,zI 0,zI 0,zI 0,zI 0,zI 0,zI 0,zI 0,zI 0,zI 0,zI 0,zI 0,zI 0,zN,zI 0] [(17,1,zi 15)]),zo 12 (.box (.t 11)),zm 3 12] (.seq (zq [zm 13 0,zh 14 13,zo 15 (.mv (zi 0))] (.block 0 (.loop (zq [zb 16 .lss 15 14] (.seq (.cond (.t 16) .skip (.exit 0)) (.seq (.block 1 (zq [zd 17 13 15,zl 18 17,zm 5 18] (.reg [zm 19 3,zm 20 5,zc 21 19,zf 22 0 21,zo 23 (.idxArr 16 1 (.t 22) (.t 20)),zl 24 23,zk 25 .add 24 1,zc 26 19,zf 27 0 26,zo 28 (.idxArr 16 1 (.t 27) (.t 20)),zs 28 25]))) (.reg [zk 29 .add 15 1,zm 15 29]))))))) (zq [zm 30 0,zh 31 30,zm 32 3,zc 33 32,zf 34 0 33,zo 35 (.idxArr 16 1 (.t 34) (zi 0)),zl 36 35,zb 37 .sub 31 36,zm 6 37] (zq [zm 38 3,zc 39 38,zf 40 0 39,zo 41 (.idxArr 16 1 (.t 40) (zi 0)),zp (.store 1 (.t 41) (zi 0))] (zq [zo 7 (.new [zI 0,zI 0,zI 0,zI 0,zI 0,zI 0,zI 0,zI 0,zI 0,zI 0,zI 0,zI 0,zI 0,zI 0,zI 0,zI 0])] (.seq (zq [zo 8 (.mv (zi 1))] (.block 2 (.loop (zr [zm 42 8,zk 43 .leq 42 15] 43 .skip (.exit 2) (.seq (.block 3 (.reg [zm 46 8,zm 47 8,zk 48 .sub 47 1,zo 49 (.idxArr 16 1 (.t 7) (.t 48)),zl 50 49,zm 51 3,zm 52 8,zk 53 .sub 52 1,zc 54 51,zf 55 0 54,zo 56 (.idxArr 16 1 (.t 55) (.t 53)),zl 57 56,zb 58 .add 50 57,zo 59 (.idxArr 16 1 (.t 7) (.t 46)),zs 59 58])) (.reg [zm 44 8,zk 45 .add 44 1,zm 8 45])))))) (zq [zm 60 3,zm 61 6,zo 62 (.mkSlice 8 [zI 0] (.t 61) (.t 61)),zc 63 60,zf 64 16 63,zs 64 62] (.seq (zq [zm 65 0,zh 66 65,zo 67 (.mv (zi 0))] (.block 4 (.loop (zq [zb 68 .lss 67 66] (.seq (.cond (.t 68) .skip (.exit 4)) (.seq (.block 5 (zq [zm 69 67,zd 70 65 67,zl 71 70,zm 9 69,zm 10 71] (zq [zm 72 10,zk 73 .neq 72 0] (.cond (.t 73) (zq [zm 74 3,zc 75 74,zf 76 16 75,zl 77 76,zm 78 10,zo 79 (.idxArr 16 1 (.t 7) (.t 78)),zl 80 79,zm 81 9,zd 82 77 80,zs 82 81] (.reg [zm 83 10,zo 84 (.idxArr 16 1 (.t 7) (.t 83)),zl 85 84,zk 86 .add 85 1,zo 87 (.idxArr 16 1 (.t 7) (.t 83)),zs 87 86])) .skip)))) (.reg [zk 88 .add 67 1,zm 67 88]))))))) (zr [zm 89 6,zk 90 .eql 89 1] 90 (.reg [zm 91 3,zc 92 91,zf 93 17 92,zp (.store 1 (.t 93) (zi 1))]) .skip (zq [zm 94 3,zm 2 94] .ret)))))))))),[.t 2]⟩
theorem za122:cN Tryz.prog 122=some c122:=by kernel_rfl
def c1136:AFn:=⟨39,.seq (.block 1000000 (.block 0 (.loop (.block 1 (.seq (zq [zm 7 0,zm 8 1,zx 42 1147 [.t 7,.t 8],zo 41 (.pf .isP [.t 42])] (.seq (.cond (.t 41) (zq [zm 39 42] (.exit 1000000)) .skip) (.reg [zm 9 42,zm 6 9]))) (.block 2 (zq [zm 12 6,zk 13 .lss 12 256,zm 11 13] (.cond (.t 11) (.seq (zq [zm 14 0,zx 42 1145 [.t 14,zi 1],zo 41 (.pf .isP [.t 42])] (.seq (.cond (.t 41) (zq [zm 39 42] (.exit 1000000)) .skip) (.reg [zm 15 42]))) (.reg [zm 16 0,zm 17 0,zc 18 17,zf 19 1 18,zl 20 19,zm 21 6,zv 22 .u8 21,zo 23 (.buildSl 1 [zU 0] [(0,1,.t 22)]),zy 24 20 23,zc 25 16,zf 26 1 25,zs 26 24])) (zq [zm 28 6,zk 29 .eql 28 256,zm 27 29] (.cond (.t 27) (.exit 1000000) (zq [zm 31 6,zk 32 .lss 31 286,zm 30 32] (.cond (.t 30) (zq [zm 33 0,zm 34 6,zk 35 .sub 34 256,zk 36 .sub 35 1,zm 37 2,zx 42 1148 [.t 33,.t 36,.t 37],zo 41 (.pf .isP [.t 42])] (.seq (.cond (.t 41) (zq [zm 39 42] (.exit 1000000)) .skip) (.reg [zm 38 42]))) (zq [zo 10 (.mkIface 149 (zi 10)),zo 39 (.pf .mkP [.t 10])] (.exit 1000000)))))))))))))) (zq [zo 41 (.pf .isU [.t 40])] (.cond (.t 41) (zq [zo 41 (.pf .isU [.t 39])] (.cond (.t 41) (zq [zo 42 (.pf .tup [])] .ret) (zq [zm 42 39] .ret))) (.reg [zp .bad]))),[.t 42]⟩
theorem za1136:cNE Tryz.prog (some ⟨[123,121,124],none⟩) 1136=some c1136:=by kernel_rfl
def c1147:AFn:=⟨54,.seq (.block 1000000 (zq [zo 4 (.mv (zi 0))] (zq [zo 5 (.mv (zi 0)),zo 6 (.mv (zi 0)),zo 7 (.mv (zi 0))] (.seq (zq [zo 8 (.mv (zi 1))] (.block 0 (.loop (zr [zm 10 8,zm 11 1,zc 12 11,zf 13 17 12,zl 14 13,zb 15 .leq 10 14] 15 .skip (.exit 0) (.seq (.block 1 (.seq (zq [zm 18 5,zo 19 (.bin .shl (.t 18) (.c (.int .u64 (.ofNat 1)))),zm 20 0,zx 57 1133 [.t 20,zi 1],zo 56 (.pf .isP [.t 57])] (.seq (.cond (.t 56) (zq [zm 54 57] (.exit 1000000)) .skip) (.reg [zm 21 57,zb 22 .or 19 21,zm 5 22]))) (zq [zm 23 6,zo 24 (.bin .shl (.t 23) (.c (.int .u64 (.ofNat 1)))),zm 6 24] (zq [zm 25 1,zm 26 8,zc 27 25,zf 28 0 27,zo 29 (.idxArr 16 1 (.t 28) (.t 26)),zl 30 29,zm 9 30] (zr [zm 31 5,zm 32 6,zb 33 .sub 31 32,zm 34 9,zb 35 .lss 33 34] 35 (zq [zm 36 1,zc 37 36,zf 38 16 37,zl 39 38,zm 40 7,zm 41 5,zb 42 .add 40 41,zm 43 6,zb 44 .sub 42 43,zd 45 39 44,zl 46 45,zm 4 46] (.exit 1000000)) .skip (zq [zm 47 7,zm 48 9,zb 49 .add 47 48,zm 7 49] (.reg [zm 50 6,zm 51 9,zb 52 .add 50 51,zm 6 52]))))))) (.reg [zm 16 8,zk 17 .add 16 1,zm 8 17])))))) (zq [zo 53 (.mkIface 149 (zi 10)),zo 54 (.pf .mkP [.t 53])] (.exit 1000000)))))) (zq [zo 56 (.pf .isU [.t 55])] (.cond (.t 56) (zq [zo 56 (.pf .isU [.t 54])] (.cond (.t 56) (zq [zm 58 4,zo 57 (.pf .tup [.t 58])] .ret) (zq [zm 57 54] .ret))) (.reg [zp .bad]))),[.t 57]⟩
theorem za1147:cNE Tryz.prog (some ⟨[109],none⟩) 1147=some c1147:=by kernel_rfl
def c1148:AFn:=⟨62,.seq (.block 1000000 (zq [zo 6 (.mv (zi 258))] (zr [zm 9 1,zk 10 .lss 9 28] 10 (zq [zm 11 0,zm 12 1,zx 65 1158 [.t 11,.t 12,zi 4],zo 64 (.pf .isP [.t 65])] (.seq (.cond (.t 64) (zq [zm 62 65] (.exit 1000000)) .skip) (.reg [zm 13 65,zo 14 (.bin .add (zi 3) (.t 13)),zm 6 14]))) .skip (.seq (zq [zm 15 0,zm 16 2,zx 65 1147 [.t 15,.t 16],zo 64 (.pf .isP [.t 65])] (.seq (.cond (.t 64) (zq [zm 62 65] (.exit 1000000)) .skip) (.reg [zm 17 65,zm 7 17]))) (zr [zm 18 7,zk 19 .geq 18 30] 19 (zq [zo 20 (.mkIface 149 (zi 10)),zo 62 (.pf .mkP [.t 20])] (.exit 1000000)) .skip (.seq (zq [zm 21 0,zm 22 7,zx 65 1158 [.t 21,.t 22,zi 2],zo 64 (.pf .isP [.t 65])] (.seq (.cond (.t 64) (zq [zm 62 65] (.exit 1000000)) .skip) (.reg [zm 23 65,zo 24 (.bin .add (zi 1) (.t 23)),zm 8 24]))) (zr [zm 25 8,zm 26 0,zc 27 26,zf 28 1 27,zl 29 28,zh 30 29,zb 31 .gtr 25 30] 31 (zq [zo 32 (.mkIface 149 (zi 10)),zo 62 (.pf .mkP [.t 32])] (.exit 1000000)) .skip (.seq (zq [zm 33 0,zm 34 6,zx 65 1145 [.t 33,.t 34],zo 64 (.pf .isP [.t 65])] (.seq (.cond (.t 64) (zq [zm 62 65] (.exit 1000000)) .skip) (.reg [zm 35 65]))) (zq [zm 36 6,zo 37 (.mv (zi 0))] (.block 0 (.loop (zq [zb 38 .lss 37 36] (.seq (.cond (.t 38) .skip (.exit 0)) (.seq (.block 1 (.draw [zm 39 0,zm 40 0,zc 41 40,zf 42 1 41,zl 43 42,zm 44 0,zc 45 44,zf 46 1 45,zl 47 46,zm 48 0,zc 49 48,zf 50 1 49,zl 51 50,zh 52 51,zm 53 8,zb 54 .sub 52 53,zd 55 47 54,zl 56 55,zo 57 (.buildSl 1 [zU 0] [(0,1,.t 56)]),zy 58 43 57,zc 59 39,zf 60 1 59,zs 60 58] [[],[],[],[],[19],[],[],[],[],[],[],[],[],[],[],[],[],[],[],[],[],[],[]])) (.reg [zk 61 .add 37 1,zm 37 61]))))))))))))))) (zq [zo 64 (.pf .isU [.t 63])] (.cond (.t 64) (zq [zo 64 (.pf .isU [.t 62])] (.cond (.t 64) (zq [zo 65 (.pf .tup [])] .ret) (zq [zm 65 62] .ret))) (.reg [zp .bad]))),[.t 65]⟩
theorem za1148:cNE Tryz.prog (some ⟨[134,123,121],none⟩) 1148=some c1148:=by kernel_rfl
def c1158:AFn:=⟨27,.seq (.block 1000000 (zq [zo 6 (.mv (zi 0))] (zr [zm 8 1,zm 9 2,zb 10 .lss 8 9] 10 (zq [zm 11 1,zm 6 11] (.exit 1000000)) .skip (zq [zm 12 1,zm 13 2,zb 14 .quo 12 13,zk 15 .sub 14 1,zm 7 15] (.seq (zq [zm 16 2,zm 17 1,zm 18 2,zb 19 .rem 17 18,zb 20 .add 16 19,zm 21 7,zb 22 .shl 20 21,zm 23 0,zm 24 7,zx 25 1133 [.t 23,.t 24],zg 26 (.bin .add (.t 22) (.t 25)) 1000025 false,zg 6 (.mv (.t 26)) 1000025 false] (zq [zo 29 (.pf .isP [.t 25])] (.cond (.t 29) (zq [zo 29 (.pf .isU [.t 28])] (.cond (.t 29) (zq [zm 27 25] (.exit 1000000)) (.reg [zp .bad]))) .skip))) (.exit 1000000)))))) (zq [zo 29 (.pf .isU [.t 28])] (.cond (.t 29) (zq [zo 29 (.pf .isU [.t 27])] (.cond (.t 29) (zq [zm 31 6,zo 30 (.pf .tup [.t 31])] .ret) (zq [zm 30 27] .ret))) (.reg [zp .bad]))),[.t 30]⟩
theorem za1158:cNE Tryz.prog (some ⟨[109],none⟩) 1158=some c1158:=by kernel_rfl
def c90:AFn:=⟨18,zq [zo 2 (.mv (zi 0))] (zr [zm 3 0,zo 4 (.pf (.eqv false .ptr) [.t 3,.c (.ptr none)]),zm 5 4,zg 6 (.mv (.t 0)) 5 false,zg 7 (.nilChk (.t 6)) 5 false,zg 8 (.fieldA 0 (.t 7)) 5 false,zg 9 (.fieldA 0 (.t 8)) 5 false,zg 10 (.load false 1 (.t 9)) 5 false,zg 11 (.un .not (.t 10)) 5 false,zo 12 (.pick (.t 5) (.c (.bool true)) (.t 11))] 12 (zq [zo 2 (.mv (zi 0))] .ret) .skip (zq [zm 13 0,zc 14 13,zf 15 0 14,zf 16 2 15,zl 17 16,zm 2 17] .ret)),[.t 2]⟩
theorem za90:cN Tryz.prog 90=some c90:=by kernel_rfl
def c28:AFn:=⟨10,zq [zo 4 (.mv (.c (.bool false)))] (zq [zm 5 0,zo 6 (.convBS (.t 5)),zm 7 1,zo 8 (.convBS (.t 7)),zb 9 .eql 6 8,zm 4 9] .ret),[.t 4]⟩
theorem za28:cN Tryz.prog 28=some c28:=by kernel_rfl
def c2136:AFn:=⟨12,zq [zm 12 3,zo 3 (.mv (.c (.tuple []))),zm 6 12,zo 12 (.mv (.c (.tuple [])))] (zq [zo 7 (.pf (.tAss 149 true (zI 0)) [.t 6]),zm 5 7,ze 8 0 5,ze 9 1 5,zm 3 8,zm 4 9] (zq [zm 10 4] (.cond (.t 10) (.reg [zm 11 3,zp (.store 1 (.t 0) zn),zp (.store 1 (.t 1) (zi 0)),zs 2 11]) .skip))),[]⟩
theorem za2136:cNE Tryz.prog none 2136=some c2136:=by kernel_rfl
end
abbrev Bs:=List UInt8
def bitsN:Nat→Nat→List Bool
 | _,0=>[]
 | n,k+1=>(n % 2==1)::bitsN (n / 2) k
def natOf:List Bool→Nat
 | []=>0
 | b::r=>(if b then 1 else 0)+2*natOf r
theorem bitsN_len(n k:Nat):(bitsN n k).length=k:=by
 induction k generalizing n with
 | zero=>rfl
 | succ k ih=>simp[bitsN,ih]
theorem natOf_lt(l:List Bool):natOf l<2 ^ l.length:=by
 induction l with
 | nil=>simp[natOf]
 | cons b r ih=>simp only[natOf,List.length_cons,Nat.pow_succ]; split <;> omega
theorem natOf_append(a b:List Bool):natOf (a++b)=natOf a+2 ^ a.length*natOf b:=by
 induction a with
 | nil=>simp[natOf]
 | cons x r ih=>
  simp only[List.cons_append,natOf,ih,List.length_cons,Nat.pow_succ]
  have:2 ^ r.length*2*natOf b=2*(2 ^ r.length*natOf b):=by rw[Nat.mul_comm (2 ^ r.length) 2,Nat.mul_assoc]
  rw[this]; omega
theorem natOf_bits{n k:Nat}(h:n<2 ^ k):natOf (bitsN n k)=n:=by
 induction k generalizing n with
 | zero=>simp at h; subst h; rfl
 | succ k ih=>
  rw[Nat.pow_succ]at h
  simp only[bitsN,natOf,ih (n:=n / 2) om]
  by_cases h1:n % 2=1
  ·simp[h1]; omega
  ·simp[h1]; omega
theorem bits_natOf(l:List Bool):bitsN (natOf l) l.length=l:=by
 induction l with
 | nil=>rfl
 | cons b r ih=>
  simp only[List.length_cons,bitsN,natOf]
  have e1:((if b=true then 1 else 0)+2*natOf r) / 2=natOf r:=by split <;> omega
  have e2:(((if b=true then 1 else 0)+2*natOf r) % 2==1)=b:=by
   cases b <;> simp <;> omega
  rw[e1,e2,ih]
theorem bits_split(n a b:Nat):bitsN n (a+b)=bitsN n a++bitsN (n / 2 ^ a) b:=by
 induction a generalizing n with
 | zero=>simp[bitsN]
 | succ a ih=>
  rw[show a+1+b=(a+b)+1 by omega]
  simp only[bitsN,ih,List.cons_append]
  rw[Nat.div_div_eq_div_mul,← Nat.pow_succ']
theorem bits_mod(n k:Nat):bitsN (n % 2 ^ k) k=bitsN n k:=by
 induction k generalizing n with
 | zero=>rfl
 | succ k ih=>
  simp only[bitsN]
  have h1:n % 2 ^ (k+1) % 2=n % 2:=by
   rw[Nat.pow_succ]
   exact Nat.mod_mul_left_mod n (2 ^ k) 2
  have h2:n % 2 ^ (k+1) / 2=(n / 2) % 2 ^ k:=by
   rw[Nat.pow_succ,Nat.mul_comm,Nat.mod_mul_right_div_self]
  rw[h1,h2,ih]
theorem natOf_take(n k:Nat):natOf (bitsN n k)=n % 2 ^ k:=by
 rw[← bits_mod,natOf_bits (Nat.mod_lt _ (Nat.two_pow_pos k))]
def byteAt(l:List Bool)(j:Nat):Nat:=natOf ((l.drop (8*j)).take 8)
def pack(l:List Bool):List Nat:=(List.range ((l.length+7) / 8)).map (byteAt l)
theorem pack_len(l:List Bool):(pack l).length=(l.length+7) / 8:=by simp[pack]
theorem byteAt_lt(l:List Bool)(j:Nat):byteAt l j<256:=by
 have h:=natOf_lt ((l.drop (8*j)).take 8)
 have h2:((l.drop (8*j)).take 8).length≤8:=by simp; omega
 exact Nat.lt_of_lt_of_le h (Nat.pow_le_pow_right om h2)
theorem pack_lt{l:List Bool}{x:Nat}(h:x∈pack l):x<256:=by
 simp only[pack,List.mem_map,List.mem_range]at h
 obtain⟨j,_,rfl⟩:=h
 exact byteAt_lt _ _
theorem pack_get{l:List Bool}{j:Nat}(h:j<(l.length+7) / 8):(pack l)[j]?=some (byteAt l j):=by
 simp[pack,h]
def openP(m:List Bool):List Nat:=if m.length % 8=0 then pack m++[0] else pack m
theorem openP_len(m:List Bool):(openP m).length=m.length / 8+1:=by
 unfold openP
 split
 ·rw[lA,pack_len]; simp; omega
 ·rw[pack_len]; omega
theorem openP_last(m:List Bool):(openP m)[m.length / 8]?=some (byteAt m (m.length / 8)):=by
 unfold openP
 split
 ·rename_i h
  have hl:(pack m).length=m.length / 8:=by rw[pack_len]; omega
  rw[List.getElem?_append_right om,hl,Nat.sub_self]
  have:byteAt m (m.length / 8)=0:=by
   unfold byteAt
   rw[List.drop_of_length_le om]; rfl
  rw[this]; rfl
 ·exact pack_get om
theorem pack_step(m bs:List Bool)(h0:0<bs.length)(h:m.length % 8+bs.length≤8) :
  pack (m++bs)=(openP m).set (m.length / 8) (byteAt m (m.length / 8)+natOf bs*2 ^ (m.length % 8)):=by
 have hlast:byteAt m (m.length / 8)<2 ^ (m.length % 8):=by
  have h1:=natOf_lt ((m.drop (8*(m.length / 8))).take 8)
  have h2:((m.drop (8*(m.length / 8))).take 8).length=m.length % 8:=by simp; omega
  rw[h2]at h1; exact h1
 apply List.ext_getElem?
 intro j
 have hL:(m++bs).length=m.length+bs.length:=by simp
 by_cases hj:j<m.length / 8
 ·rw[pack_get (by rw[hL]; omega),List.getElem?_set_ne om]
  have e:byteAt (m++bs) j=byteAt m j:=by
   unfold byteAt
   rw[List.drop_append_of_le_length om,List.take_append_of_le_length (by simp; omega)]
  rw[e]
  unfold openP
  split
  ·rw[List.getElem?_append_left (by rw[pack_len]; omega)]
   exact (pack_get om).symm
  ·exact (pack_get om).symm
 ·by_cases hj2:j=m.length / 8
  ·subst hj2
   rw[pack_get (by rw[hL]; omega),List.getElem?_set_self (by rw[openP_len]; omega)]
   congr 1
   unfold byteAt
   rw[List.drop_append_of_le_length om]
   have hd:(m.drop (8*(m.length / 8))).length=m.length % 8:=by simp; omega
   rw[List.take_of_length_le (by rw[lA,hd]; omega),natOf_append,hd,List.take_of_length_le (by rw[hd]; omega),Nat.mul_comm (2 ^ (m.length % 8))]
  ·rw[List.getElem?_eq_none (by rw[pack_len,hL]; omega),List.getElem?_eq_none (by rw[List.length_set,openP_len]; omega)]
def fillN(n:Nat):Nat:=(8-n % 8) % 8
theorem fill_ok(n:Nat):(n+fillN n) % 8=0:=by unfold fillN; omega
structure Tok where
 n:Nat
 back:Nat
 b:UInt8
def run(b:Bs):Nat→Nat→Nat→Nat
 | _,_,0=>0
 | p,i,m+1=>if b[p]?=b[i]? then 1+run b (p+1) (i+1) m else 0
theorem run_le(b:Bs)(p i m:Nat):run b p i m≤m:=by
 induction m generalizing p i with
 | zero=>simp[run]
 | succ m ih=>
  unfold run
  split
  ·have:=ih (p+1) (i+1); omega
  ·omega
theorem run_at(b:Bs):∀(m p i j:Nat),j<run b p i m→b[p+j]?=b[i+j]?:=by
 intro m
 induction m with
 | zero=>intro p i j h; simp[run]at h
 | succ m ih=>
  intro p i j h
  unfold run at h
  split at h
  ·rename_i he
   cases j with
   | zero=>exact he
   | succ j=>
    have:=ih (p+1) (i+1) j om
    rw[show p+(j+1)=p+1+j by omega,show i+(j+1)=i+1+j by omega]; exact this
  ·omega
theorem run_stop(b:Bs):∀(m p i:Nat),run b p i m<m→b[p+run b p i m]?≠b[i+run b p i m]?:=by
 intro m
 induction m with
 | zero=>intro p i h; omega
 | succ m ih=>
  intro p i h
  by_cases he:b[p]?=b[i]?
  ·have e:run b p i (m+1)=1+run b (p+1) (i+1) m:=by rw[run,if_pos he]
   rw[e]at h ⊢
   have:=ih (p+1) (i+1) om
   rw[show p+(1+run b (p+1) (i+1) m)=p+1+run b (p+1) (i+1) m by omega,show i+(1+run b (p+1) (i+1) m)=i+1+run b (p+1) (i+1) m by omega]; exact this
  ·have e:run b p i (m+1)=0:=by rw[run,if_neg he]
   rw[e]; exact he
def best(b:Bs)(i m:Nat):Nat→Nat×Nat→Nat×Nat
 | 0,x=>x
 | p+1,x=>best b i m p (if x.1<run b p i m then (run b p i m,p) else x)
def mlen(i to:Nat):Nat:=min 258 (to-i)
def matchF(b:Bs)(i to:Nat):Nat×Nat:=best b i (mlen i to) i (0,0)
theorem best_spec(b:Bs)(i m:Nat):∀(p:Nat) (x:Nat×Nat),p≤i→(x.1=0∨(x.2<i∧x.1=run b x.2 i m))→(best b i m p x).1=0∨((best b i m p x).2<i∧(best b i m p x).1=run b (best b i m p x).2 i m)
 | 0,x,_,hx=>hx
 | p+1,x,hp,hx=>by
  unfold best
  refine best_spec b i m p _ om ?_
  split
  ·exact .inr ⟨by simp only; omega,rfl⟩
  ·exact hx
def toksF(b:Bs)(to:Nat):Nat→Nat→List Tok
 | 0,_=>[]
 | f+1,i=>if i<to then
   if 3≤(matchF b i to).1 then ⟨(matchF b i to).1,i-(matchF b i to).2,0⟩::toksF b to f (i+(matchF b i to).1)
   else ⟨0,0,b.getD i 0⟩::toksF b to f (i+1)
  else []
def toks(b:Bs)(from_ to:Nat):List Tok:=toksF b to (to-from_) from_
def codeF(s:Nat):Nat×Nat:=if s≤143 then (48+s,8) else if s≤255 then (400+s-144,9) else if s≤279 then (s-256,7) else (192+s-280,8)
def fixB(s:Nat):List Bool:=(bitsN (codeF s).1 (codeF s).2).reverse
def lenL:List Nat:=[3,4,5,6,7,8,9,10,11,13,15,17,19,23,27,31,35,43,51,59,67,83,99,115,131,163,195,227,258]
def lenE:List Nat:=[0,0,0,0,0,0,0,0,1,1,1,1,2,2,2,2,3,3,3,3,4,4,4,4,5,5,5,5,0]
def disL:List Nat:=[1,2,3,4,5,7,9,13,17,25,33,49,65,97,129,193,257,385,513,769,1025,1537,2049,3073,4097,6145,8193,12289,16385,24577]
def disE:List Nat:=[0,0,0,0,1,1,2,2,3,3,4,4,5,5,6,6,7,7,8,8,9,9,10,10,11,11,12,12,13,13]
def findF(l:List Nat)(n:Nat):Nat→Nat→Nat
 | 0,k=>k
 | f+1,k=>if k+1<l.length∧l.getD (k+1) 0≤n then findF l n f (k+1) else k
def find(l:List Nat)(n:Nat):Nat:=findF l n l.length 0
def lenB(n:Nat):List Bool:=fixB (257+find lenL n)++bitsN (n-lenL.getD (find lenL n) 0) (lenE.getD (find lenL n) 0)
def disB(n:Nat):List Bool:=(bitsN (find disL n) 5).reverse++bitsN (n-disL.getD (find disL n) 0) (disE.getD (find disL n) 0)
def tokB(t:Tok):List Bool:=if t.back=0 then fixB t.b.toNat else lenB t.n++disB t.back
def fixedB(l:List Tok)(last:Nat):List Bool:=bitsN last 1++bitsN 1 2++l.flatMap tokB++fixB 256
def storedB(at_:Nat)(b:Bs)(last:Nat):List Bool:=bitsN last 1++bitsN 0 2++List.replicate (fillN (at_+3)) false++bitsN b.length 16++bitsN (65535-b.length) 16++b.flatMap fun x=>bitsN x.toNat 8
def blockB(at_:Nat)(b:Bs)(from_ to last:Nat):List Bool:=
 if (storedB at_ ((b.drop from_).take (to-from_)) last).length<(fixedB (toks b from_ to) last).length then storedB at_ ((b.drop from_).take (to-from_)) last else fixedB (toks b from_ to) last
def adlerF(s:Nat×Nat)(b:Bs):Nat×Nat:=b.foldl (fun s x=>((s.1+x.toNat) % 65521,(s.2+(s.1+x.toNat) % 65521) % 65521)) s
def adler(sum:Nat)(b:Bs):Nat:=(adlerF (sum % 65536 % 65521,sum / 65536 % 65521) b).2*65536+(adlerF (sum % 65536 % 65521,sum / 65536 % 65521) b).1
end Go.Proofs.Tb
namespace Go.Proofs.Tb
open Go.Abs Go.Abs.S Go.Proofs
def mdT:Nat→Option PMd:=fun f=>
 bif Nat.beq f 69 then some ⟨[89],some (88,3,true)⟩ else
 bif Nat.beq f 89 then some ⟨[109,110,112,113],none⟩ else
 bif Nat.beq f 109 then some ⟨[],none⟩ else
 bif Nat.beq f 110 then some ⟨[109,121],none⟩ else
 bif Nat.beq f 121 then some ⟨[],none⟩ else
 bif Nat.beq f 112 then some ⟨[123,121,124],none⟩ else
 bif Nat.beq f 123 then some ⟨[109],none⟩ else
 bif Nat.beq f 124 then some ⟨[134,123,121],none⟩ else
 bif Nat.beq f 134 then some ⟨[109],none⟩ else none
abbrev natT:ANat:=natM noNat mdT
theorem natT_ok:NatOK Tryz.prog natT:=natM_ok noNat_ok mdT
def k2(k:Nat):Prop:=k=2∨k=4
theorem row_st{H:AHeap}{b n:Nat}{l l':List AVal}(h:Row H b l)(hn:l.length=n){i:Nat}(hi:i<n){x:AVal}(hx:x.one=true)(e:l.set i x=l') :
  ∃H',oStore 1 H (cellR b n i) x=some H'∧Row H' b l'∧H'.next=H.next∧∀c,c≠b→H'.get c=H.get c:=by
 subst e; exact row_store h hn hi hx
def OW(n:Nat)(τ:Nat→Nat)(H:AHeap)(o:Nat)(M:List Bool)(pl:Nat):Prop:=
 ∃vb,Row H o [.bool true,vb,.int .i64 (pl:Int)]∧o<n∧n≤H.next∧τ o=2∧(∀c,n≤c→τ c=0)∧AppN 1 0 H vb (u8s (pack M)) (pack M).length∧Blk vb (fun b=>b<n∧τ b=4)∧pl % 8=M.length % 8
theorem OW.fr{n n':Nat}{τ τ':Nat→Nat}{H H':AHeap}{o:Nat}{M:List Bool}{pl:Nat}(h:OW n τ H o M pl)(hn:n≤n')(hn':n'≤H'.next)(hH:H.next≤H'.next)(tz:∀c,n'≤c→τ' c=0)(ht:∀c,c<n→k2 (τ c)→τ' c=τ c)(e:∀c,c<n→k2 (τ c)→H'.get c=H.get c):OW n' τ' H' o M pl:=by
 obtain⟨vb,h1,h2,h3,h4,h5,h6,h7,h8⟩:=h
 exact⟨vb,h1.same (e o h2 (.inl h4)),om,hn',by rw[ht o h2 (.inl h4)]; exact h4,tz,h6.same hH (h7.mono fun b hb=>e b hb.1 (.inr hb.2)),h7.mono fun b hb=>⟨om,by rw[ht b hb.1 (.inr hb.2)]; exact hb.2⟩,h8⟩
theorem OW.ext{n:Nat}{τ:Nat→Nat}{H H':AHeap}{o:Nat}{M:List Bool}{pl:Nat}(h:OW n τ H o M pl)(hH:H.next≤H'.next)(e:∀c,c<n→H'.get c=H.get c):OW n τ H' o M pl:=by
 have h':=h
 obtain⟨vb,h1,h2,h3,h4,h5,h6,h7,h8⟩:=h
 exact h'.fr rL om hH h5 (fun _ _ _=>rfl) fun c hc _=>e c hc
theorem OW.more{n m:Nat}{τ:Nat→Nat}{H:AHeap}{o:Nat}{M:List Bool}{pl:Nat}(h:OW n τ H o M pl)(hm:n≤m)(hH:m≤H.next):OW m τ H o M pl:=by
 have h':=h
 obtain⟨vb,h1,h2,h3,h4,h5,h6,h7,h8⟩:=h
 exact h'.fr hm hH rL (fun c hc=>h5 c om) (fun _ _ _=>rfl) fun _ _ _=>rfl
theorem fldA(b n i o:Nat):aField o (cellR b n i)=some (cellR b n (i+o)):=_root_.id rfl
theorem nil_cell(b n i:Nat):aNilChk (cellR b n i)=some (cellR b n i):=_root_.id rfl
theorem eq_ptr_nil(b n i:Nat):aPf (.eqv false .ptr) [cellR b n i,.ptr none]=some (.bool false):=_root_.id rfl
theorem inside_spec{H:AHeap}{o pl:Nat}{v0 v1:AVal}(h:Row H o [v0,v1,.int .i64 (pl:Int)]):ACalls Tryz.prog natT 87 [cellR o 3 0] H fun v H'=>v=.int .i64 ((pl % 8:Nat):Int)∧H=H':=by
 refine acalls_ofN rfl za87 rfl ?_
 have l2:oLoad false 1 H (cellR o 3 2)=some (.int .i64 (pl:Int)):=row_load h rfl rfl
 have r8:aBin .rem (.int .i64 (pl:Int)) (.int .i64 8)=some (.int .i64 ((pl % 8:Nat):Int)):=bin_remN pl 8 om
 simp only[c87,sA,sB,seval,nil_cell,fldA,l2,r8]
 exact⟨tt,tt⟩
theorem bits_spec{n:Nat}{τ:Nat→Nat}{H:AHeap}{o:Nat}{M:List Bool}{pl:Nat}(h:OW n τ H o M pl):ACalls Tryz.prog natT 85 [cellR o 3 0] H fun v H'=>v=.int .i64 (pl:Int)∧H=H':=by
 obtain⟨vb,h1,_⟩:=h
 refine acalls_ofN rfl za85 rfl ?_
 have l0:oLoad false 1 H (cellR o 3 0)=some (.bool true):=row_load h1 rfl rfl
 have l2:oLoad false 1 H (cellR o 3 2)=some (.int .i64 (pl:Int)):=row_load h1 rfl rfl
 simp only[c85,sA,sB,seval,eq_ptr_nil,nil_cell,fldA,l0,l2]
 exact⟨tt,tt⟩
def putP:List Nat:=[1,1,1,0,2,3,1,2,1,1]
theorem put_tail{H:AHeap}{o:Nat}{N:List Bool}{pl u m at_ st:Nat}{vb:AVal}{τ:Nat→Nat}{T:Env}{Q:Post}(g0:T 0=cellR o 3 0)(g1:T 1=.int .u32 (u:Int))(g2:T 2=.int .i64 (m:Int))(g7:T 7=.int .i64 (at_:Int))
  (hat:at_=N.length % 8) (hst:st=min (8-at_) m) (hm:0<m) (hm32:m≤32) (hu:u<2 ^ m) (hpl:pl≤1000000100) (hN:N.length≤1000000100)
  (R:Row H o [.bool true,vb,.int .i64 (pl:Int)]) (on:o<H.next) (to:τ o=2) (tz:∀c,H.next≤c→τ c=0) (A:AppN 1 0 H vb (u8s (openP N)) (openP N).length) (B:Blk vb fun b=>b<H.next∧τ b=4) (hp:pl % 8=at_)
  (hQ:∀T2 H2,T2 0=cellR o 3 0→T2 1=.int .u32 ((u / 2 ^ st:Nat):Int)→T2 2=.int .i64 ((m-st:Nat):Int)→OW H2.next τ H2 o (N++bitsN u st) (pl+st)→FrS k2 τ H τ H2→Q .normal T2 H2) :
  wp (ACalls Tryz.prog natT) (hold (restP putP c86.body)) Q T H:=by
 have hst8:at_+st≤8:=om
 have hst0:0<st:=om
 have lb:oLoad false 1 H (cellR o 3 1)=some vb:=row_load R rfl rfl
 have hOl:=openP_len N
 have hlen:aLenK false vb=some (.int .i64 ((openP N).length:Int)):=A.len
 have w1:IntKind.i64.wrap (((openP N).length:Int)-1)=((N.length / 8:Nat):Int):=by rw[wrap64 om om]; omega
 have hlast:=openP_last N
 have hb256:=byteAt_lt N (N.length / 8)
 have hlow:byteAt N (N.length / 8)<2 ^ at_:=by
  have h1:=natOf_lt ((N.drop (8*(N.length / 8))).take 8)
  have h2:((N.drop (8*(N.length / 8))).take 8).length=at_:=by simp; omega
  rw[h2]at h1; exact h1
 have hput:(u % 256*2 ^ at_ % 256)=u % 2 ^ st*2 ^ at_:=by
  have h256:(256:Nat)=2 ^ (8-at_)*2 ^ at_:=by rw[← Nat.pow_add,show 8-at_+at_=8 by omega]
  have e1:u % 256*2 ^ at_ % 256=u % 2 ^ (8-at_)*2 ^ at_:=by
   have hmm:u % 256*2 ^ at_ % (2 ^ (8-at_)*2 ^ at_)=(u % 256 % 2 ^ (8-at_))*2 ^ at_:=Nat.mul_mod_mul_right _ _ _
   rw[← h256]at hmm
   rw[hmm]
   congr 1
   have:(256:Nat)=2 ^ (8-at_)*2 ^ at_:=h256
   rw[this,Nat.mod_mul_right_mod]
  rw[e1]
  congr 1
  by_cases hc:8-at_≤m
  ·rw[show st=8-at_ by omega]
  ·have e:st=m:=om
   rw[e,Nat.mod_eq_of_lt hu,Nat.mod_eq_of_lt (Nat.lt_of_lt_of_le hu (Nat.pow_le_pow_right om om))]
 have hps:=pack_step N (bitsN u st) (by rw[bitsN_len]; exact hst0) (by rw[bitsN_len]; omega)
 rw[natOf_take,← hat]at hps
 have hor:byteAt N (N.length / 8) ||| (u % 2 ^ st*2 ^ at_)=byteAt N (N.length / 8)+u % 2 ^ st*2 ^ at_:=by
  rw[Nat.or_comm,or_low at_ (u % 2 ^ st) hlow]; omega
 have hsum:byteAt N (N.length / 8)+u % 2 ^ st*2 ^ at_<256:=by
  have:byteAt N (N.length / 8) ||| (u % 2 ^ st*2 ^ at_)<2 ^ 8:=Nat.or_lt_two_pow hb256 (by rw[← hput]; exact Nat.mod_lt _ om)
  rw[hor]at this; exact this
 obtain⟨a,H1,i1,i2,i3,A1,k1,o1⟩:=A.write (i:=N.length / 8) om (x:=.int .u8 ((byteAt N (N.length / 8)+u % 2 ^ st*2 ^ at_:Nat):Int)) rfl
 have ld:=i2 _ (u8s_get hlast)
 have hn8:IntKind.u8.wrap (u:Int)=((u % 256:Nat):Int):=wrap_um .u8 (.inl rfl) u
 have hsh:=bin_shlU .u8 .i64 (.inl rfl) (u % 256) (b:=at_) (by simp only[IntKind.bits]; omega)
 simp only[IntKind.bits]at hsh
 rw[show (2:Nat) ^ 8=256 from rfl,hput]at hsh
 have hr:=bin_orU .u8 (.inl rfl) (a:=byteAt N (N.length / 8)) (b:=u % 2 ^ st*2 ^ at_) hb256 (by rw[← hput]; exact Nat.mod_lt _ (by simp[IntKind.bits]))
 rw[hor]at hr
 have w8:IntKind.i64.wrap (8-(at_:Int))=((8-at_:Nat):Int):=by rw[wrap64 om om]; omega
 have hmin:(if (m:Int)<((8-at_:Nat):Int) then (m:Int) else ((8-at_:Nat):Int))=(st:Int):=by split <;> omega
 have hshr:=shrN .u32 .i64 u (b:=st) (by simp only[IntKind.bits]; omega)
 have wm:IntKind.i64.wrap ((m:Int)-(st:Int))=((m-st:Nat):Int):=by rw[wrap64 om om]; omega
 have R1:Row H1 o [.bool true,vb,.int .i64 (pl:Int)]:=R.same (o1 o (B.mono fun b hb=>by rintro rfl; omega))
 have lp:oLoad false 1 H1 (cellR o 3 2)=some (.int .i64 (pl:Int)):=row_load R1 rfl rfl
 obtain⟨H2,m2,r2,k2',o2⟩:=row_st R1 (n:=3) rfl (i:=2) om (x:=.int .i64 ((pl+st:Nat):Int)) rfl rfl
 simp only[c86,restP,putP,hold_eq,sA,sB,seval,g0,g1,g2,g7,nil_cell,fldA,lb,hlen,w1,i1,ld,hn8,hsh,hr,i3,w8,hmin,hshr,wm,lp,wrapN pl st om,m2]
 refine hQ _ _ (by simp only[sA,sB,seval,g0]) (by simp only[sA,sB,seval]) (by simp only[sA,sB,seval]) ⟨vb,r2,om,Nat.le_refl _,to,fun c hc=>tz c om,?_,B.mono fun b hb=>⟨om,hb.2⟩,?_⟩ ⟨om,fun c hc=>⟨rfl,fun hs=>?_⟩⟩
 ·have e:u8s (pack (N++bitsN u st))=(u8s (openP N)).set (N.length / 8) (.int .u8 ((byteAt N (N.length / 8)+u % 2 ^ st*2 ^ at_:Nat):Int)):=by rw[hps,u8s_set]
  have el:(pack (N++bitsN u st)).length=(openP N).length:=by rw[hps,List.length_set]
  rw[e,el]
  exact A1.same om (B.mono fun b hb=>o2 b (by rintro rfl; omega))
 ·rw[lA,bitsN_len]; omega
 ·have h2:τ c≠2:=fun e=>hs (.inl e)
  have h4:τ c≠4:=fun e=>hs (.inr e)
  rw[o2 c (by rintro rfl; omega),o1 c (B.mono fun b hb=>by rintro rfl; omega)]
theorem put_spec{n:Nat}{τ:Nat→Nat}{H:AHeap}{o:Nat}{M:List Bool}{pl:Nat}(h:OW n τ H o M pl)(v k:Nat)(hk:k≤32)(hv:v<2 ^ k)(hpl:pl≤1000000000)(hM:M.length≤1000000000) :
  ACalls Tryz.prog natT 86 [cellR o 3 0,.int .u32 (v:Int),.int .i64 (k:Int)] H fun w H'=>w=.int .i64 0∧∃τ',OW H'.next τ' H' o (M++bitsN v k) (pl+k)∧FrS k2 τ H τ' H':=by
 refine acalls_ofN rfl za86 rfl ?_
 refine wp_cutP putP ?_
 have l0:oLoad false 1 H (cellR o 3 0)=some (.bool true):=by
  obtain⟨vb,h1,_⟩:=h
  exact row_load h1 rfl rfl
 have hv32:v<2 ^ 32:=Nat.lt_of_lt_of_le hv (Nat.pow_le_pow_right om hk)
 have c1:¬(k:Int)<0:=om
 have c2:¬(32:Int)<(k:Int):=om
 have w1:IntKind.u64.wrap (v:Int)=(v:Int):=wrapU64' om om
 have s1:=shrN .u64 .i64 v (b:=k) (by simp only[IntKind.bits]; omega)
 have d0:v / 2 ^ k=0:=Nat.div_eq_of_lt hv
 rw[d0]at s1
 simp only[c86,putP,sC,sA,sB,seval,eq_ptr_nil,nil_cell,fldA,l0,c1,c2,w1,s1,Int.natCast_zero]
 refine aw_loop (fun q (T:Env) H'=>∃(j u:Nat) (τ':Nat→Nat) (n':Nat),j≤k∧q=k-j∧T 0=cellR o 3 0∧T 1=.int .u32 (u:Int)∧T 2=.int .i64 ((k-j:Nat):Int)∧u=v / 2 ^ j∧u<2 ^ (k-j)∧OW n' τ' H' o (M++bitsN v j) (pl+j)∧FrS k2 τ H τ' H') k
  ⟨0,v,τ,n,Nat.zero_le _,rfl,by simp only[sA,sB,seval]; try rfl,by simp only[sA,sB,seval]; try rfl,by simp only[sA,sB,seval]; try rfl,by simp,by simpa using hv,by simpa[bitsN] using h,FrS.refl _ _ _⟩ ?_
 rintro q T H' ⟨j,u,τ',n',hj,rfl,g0,g1,g2,hu,hul,hO,hF⟩
 by_cases hlt:j<k
 ·have hlt':(0:Int)<((k-j:Nat):Int):=om
  obtain⟨vb,R,on,nn,to,tz,A,B,hp⟩:=hO
  obtain⟨N,hN⟩:∃N,N=M++bitsN v j:=⟨_,rfl⟩
  rw[← hN]at A hp
  have hNl:N.length=M.length+j:=by rw[hN,lA,bitsN_len]
  obtain⟨st,hst⟩:∃s,s=min (8-N.length % 8) (k-j):=⟨_,rfl⟩
  have lp:oLoad false 1 H' (cellR o 3 2)=some (.int .i64 ((pl+j:Nat):Int)):=row_load R rfl rfl
  have lb:oLoad false 1 H' (cellR o 3 1)=some vb:=row_load R rfl rfl
  have next:∀(T2:Env) (H2:AHeap) (τ1:Nat→Nat),FrS k2 τ H τ1 H2→OW H2.next τ1 H2 o (N++bitsN u st) (pl+j+st)→OW H2.next τ1 H2 o (M++bitsN v (j+st)) (pl+(j+st)):=fun T2 H2 τ1 _ h=>by
   rw[bits_split,← hu,← List.append_assoc,← hN,← Nat.add_assoc]; exact h
  have hdiv:u / 2 ^ st=v / 2 ^ (j+st):=by rw[hu,Nat.div_div_eq_div_mul,← Nat.pow_add]
  have hul2:u / 2 ^ st<2 ^ (k-(j+st)):=by
   rw[Nat.div_lt_iff_lt_mul (Nat.two_pow_pos st),← Nat.pow_add,show k-(j+st)+st=k-j by omega]
   exact hul
  simp only[sA,sB,seval,g0,g1,g2,hlt',nil_cell,fldA]
  refine (inside_spec R).mono ?_
  rintro w _ ⟨rfl,rfl⟩
  rw[hp]
  by_cases ha:N.length % 8=0
  ·have ha':((N.length % 8:Nat):Int)=0:=om
   obtain⟨vb1,H1,m1,A1,n1,b1,o1⟩:=A.pushB (m:=1) (xs:=[.int .u8 0]) rfl rfl om (bytes:=1) (by rw[pack_len]; omega) om
   have m1':aAppend 1 1 (H'.push (.cells [.int .u8 0] 0 false)) vb (oneS H')=some (vb1,H1):=m1
   have bld:=build1 (.int .u8 0) H' (x:=.int .u8 0) rfl
   have R1:=R.same (o1 o om (B.mono fun b hb=>by rintro rfl; omega))
   obtain⟨H2,m2,r2,k2',o2⟩:=row_st R1 (n:=3) rfl (i:=1) om (x:=vb1) A1.one rfl
   have hop:openP N=pack N++[0]:=by unfold openP; rw[if_pos ha]
   have B1:Blk vb1 fun b=>b<H2.next∧upT τ' H' H1 4 b=4:=by
    refine ((b1 (fun b=>b<n'∧τ' b=4) B).and A1.blk').mono fun b hb=>⟨om,?_⟩
    rcases hb.1 with h | h
    ·rw[upT_old om]; exact h.2
    ·exact upT_new h hb.2
   have to1:upT τ' H' H1 4 o=2:=by rw[upT_old om]; exact to
   have A2:AppN 1 0 H2 vb1 (u8s (openP N)) (openP N).length:=by
    have e1:u8s (openP N)=u8s (pack N)++[.int .u8 0]:=by rw[hop,u8s_append]; rfl
    have e2:(openP N).length=(pack N).length+1:=by rw[hop]; simp
    rw[e1,e2]
    exact A1.same om (B1.mono fun b hb=>o2 b (by rintro rfl; omega))
   have F2:FrS k2 τ' H' (upT τ' H' H1 4) H2:=⟨om,fun c hc=>⟨upT_old hc,fun hs=>by
    have h2:τ' c≠2:=fun e=>hs (.inl e)
    have h4:τ' c≠4:=fun e=>hs (.inr e)
    rw[o2 c (by rintro rfl; omega),o1 c hc (B.mono fun b hb=>by rintro rfl; omega)]⟩⟩
   simp only[sA,sB,seval,g0,g1,g2,ha',nil_cell,fldA,lb,bld,m1',m2]
   refine put_tail (τ:=upT τ' H' H1 4) (N:=N) (pl:=pl+j) (u:=u) (m:=k-j) (at_:=N.length % 8) (st:=st) (vb:=vb1) (by simp only[sA,sB,seval,g0]) (by simp only[sA,sB,seval,g1]) (by simp only[sA,sB,seval,g2]) (by simp only[sA,sB,seval]; rw[ha]; rfl) rfl hst om om hul om om r2 om to1 (fun c hc=>upT_z n1 om) A2 B1 om ?_
   intro T2 H3 q0 q1 q2 q3 q4
   simp only[sA,sB,seval]
   exact⟨_,om,j+st,u / 2 ^ st,upT τ' H' H1 4,H3.next,om,rfl,q0,q1,by rw[q2]; congr 2; omega,hdiv,hul2,next T2 H3 _ ((hF.trans F2).trans q4) q3,(hF.trans F2).trans q4⟩
  ·have ha':¬((N.length % 8:Nat):Int)=0:=om
   simp only[sA,sB,seval,g0,g1,g2,ha']
   have hop:openP N=pack N:=by unfold openP; rw[if_neg ha]
   refine put_tail (τ:=τ') (N:=N) (pl:=pl+j) (u:=u) (m:=k-j) (at_:=N.length % 8) (st:=st) (vb:=vb) (by simp only[sA,sB,seval,g0]) (by simp only[sA,sB,seval,g1]) (by simp only[sA,sB,seval,g2]) (by simp only[sA,sB,seval]) rfl hst om om hul om om R om to (fun c hc=>tz c om) (by rw[hop]; exact A) (B.mono fun b hb=>⟨om,hb.2⟩) om ?_
   intro T2 H2 q0 q1 q2 q3 q4
   simp only[sA,sB,seval]
   exact⟨_,om,j+st,u / 2 ^ st,τ',H2.next,om,rfl,q0,q1,by rw[q2]; congr 2; omega,hdiv,hul2,next T2 H2 τ' (hF.trans q4) q3,hF.trans q4⟩
 ·have hlt':¬(0:Int)<((k-j:Nat):Int):=om
  have hjk:j=k:=om
  subst hjk
  simp only[sA,sB,seval,g0,g1,g2,hlt']
  obtain⟨_,_,_,nn,_⟩:=id hO
  exact⟨tt,τ',hO.more nn rL,hF⟩
def bls(l:List Bool):List AVal:=l.map .bool
theorem bls_len(l:List Bool):(bls l).length=l.length:=by simp[bls]
theorem bls_append(a b:List Bool):bls (a++b)=bls a++bls b:=by simp[bls]
theorem bls_one(l:List Bool):(bls l).all AVal.one=true:=by simp[bls,AVal.one]
theorem bls_get{l:List Bool}{i:Nat}{b:Bool}(h:l[i]?=some b):(bls l)[i]?=some (.bool b):=by simp[bls,h]
def RW(n:Nat)(H:AHeap)(v:AVal)(L:List Bool)(t:Nat):Prop:=∃sv,v=.agg [sv,.int .i64 (t:Int)]∧Cel n H sv (bls L)
theorem RW.ext{n:Nat}{H H':AHeap}{v:AVal}{L:List Bool}{t:Nat}(h:RW n H v L t)(e:Ext n H H'):RW n H' v L t:=by
 obtain⟨sv,h1,h2⟩:=h; exact⟨sv,h1,h2.ext e⟩
theorem RW.more{n m:Nat}{H:AHeap}{v:AVal}{L:List Bool}{t:Nat}(h:RW n H v L t)(hm:n≤m):RW m H v L t:=by
 obtain⟨sv,h1,h2⟩:=h; exact⟨sv,h1,h2.more hm⟩
theorem RW.fwd{H H':AHeap}{v:AVal}{L:List Bool}{t:Nat}(h:RW H.next H v L t)(e:Ext H.next H H'):RW H'.next H' v L t:=(h.ext e).more e.next
def VB(v:AVal)(P:Nat→Prop):Prop:=∀sv c,v=.agg [sv,c]→Blk sv P
theorem VB.mono{v:AVal}{P Q:Nat→Prop}(h:VB v P)(k:∀b,P b→Q b):VB v Q:=fun sv c e=>(h sv c e).mono k
theorem vb_agg{sv c:AVal}{P:Nat→Prop}(h:Blk sv P):VB (.agg [sv,c]) P:=fun sv' c' e=>by
 simp only[AVal.agg.injEq,List.cons.injEq,and_true]at e
 rw[← e.1]; exact h
theorem RW.vb{n:Nat}{H:AHeap}{v:AVal}{L:List Bool}{t:Nat}(h:RW n H v L t):VB v (·<n):=by
 obtain⟨sv,rfl,h2⟩:=h
 refine vb_agg ?_
 rcases h2 with⟨h,_⟩ | ⟨a,r,rfl,h3,_⟩
 ·exact isE_blk h _
 ·exact blk_some h3
theorem cel_same{n m:Nat}{H H':AHeap}{s:AVal}{l:List AVal}(h:Cel n H s l)(hm:n≤m)(e:Blk s fun b=>H'.get b=H.get b):Cel m H' s l:=by
 rcases h with h | ⟨a,r,rfl,h2,h3⟩
 ·exact .inl h
 ·exact .inr ⟨a,r,rfl,om,by rw[rd_congr (e _ _ _ rfl)]; exact h3⟩
theorem cel_blk{n:Nat}{H:AHeap}{s:AVal}{l:List AVal}(h:Cel n H s l):Blk s (·<n):=by
 rcases h with⟨h,_⟩ | ⟨a,r,rfl,h3,_⟩
 ·exact isE_blk h _
 ·exact blk_some h3
theorem cel_one{n:Nat}{H:AHeap}{s:AVal}{l:List AVal}(h:Cel n H s l):s.one=true:=by
 rcases h with⟨h,_⟩ | ⟨a,r,rfl,_⟩
 ·exact isE_one h
 ·rfl
theorem fin_ct2{T:Env}{H:AHeap}(i j:Nat)(K:AVal→AHeap→Prop){v:AVal}(h:oLoad true 2 H (T i)=some v)(hk:K (.tuple [v,T j]) H):fin [.cell true 2 i,.t j] K .ret T H:=by
 simp only[fin,wRes,h,OptP_some]; exact hk
theorem fin_1{T:Env}{H:AHeap}(n i:Nat)(K:AVal→AHeap→Prop){v:AVal}(h:oLoad true n H (T i)=some v)(hk:K v H):fin [.cell true n i] K .ret T H:=by
 simp only[fin,wRes,h,OptP_some]; exact hk
theorem bitsN_snoc(n i:Nat):bitsN n (i+1)=bitsN n i++[n / 2 ^ i % 2==1]:=by rw[bits_split]; rfl
def bitsT(x k:Nat)(turned:Bool):List Bool:=if turned then (bitsN x k).reverse else bitsN x k
theorem bitsT_len(x k:Nat)(t:Bool):(bitsT x k t).length=k:=by unfold bitsT; split <;> simp[bitsN_len]
theorem bitsN_get{x k i:Nat}(h:i<k):(bitsN x k)[i]?=some (x / 2 ^ i % 2==1):=by
 induction k generalizing x i with
 | zero=>omega
 | succ k ih=>
  cases i with
  | zero=>simp[bitsN]
  | succ i=>
   simp only[bitsN,List.getElem?_cons_succ]
   rw[ih om,Nat.div_div_eq_div_mul,← Nat.pow_succ']
theorem bitsT_get{x k i:Nat}(t:Bool)(h:i<k):(bitsT x k t)[i]?=some (x / 2 ^ (if t then k-1-i else i) % 2==1):=by
 cases t with
 | false=>exact bitsN_get h
 | true=>
  show (bitsN x k).reverse[i]?=_
  rw[List.getElem?_reverse (by rw[bitsN_len]; exact h),bitsN_len]
  exact bitsN_get om
theorem take_snoc{α:Type}{l:List α}{i:Nat}{x:α}(h:l[i]?=some x):l.take (i+1)=l.take i++[x]:=by rw[List.take_add_one,h]; rfl
theorem bitsN_zero(k:Nat):bitsN 0 k=List.replicate k false:=by
 induction k with
 | zero=>rfl
 | succ k ih=>simp only[bitsN,List.replicate_succ,Nat.zero_div,ih]; rfl
theorem align_spec{n:Nat}{τ:Nat→Nat}{H:AHeap}{o:Nat}{M:List Bool}{pl:Nat}(h:OW n τ H o M pl)(hpl:pl≤1000000000)(hM:M.length≤1000000000) :
  ACalls Tryz.prog natT 65 [cellR o 3 0] H fun w H'=>w=.int .i64 0∧∃τ',OW H'.next τ' H' o (M++List.replicate (fillN M.length) false) (pl+fillN M.length)∧FrS k2 τ H τ' H':=by
 have hh:=h
 obtain⟨vb,h1,h2,h3,h4,h5,h6,h7,h8⟩:=hh
 refine acalls_ofN rfl za65 rfl ?_
 have l0:oLoad false 1 H (cellR o 3 0)=some (.bool true):=row_load h1 rfl rfl
 have w1:IntKind.i64.wrap (8-((pl % 8:Nat):Int))=((8-pl % 8:Nat):Int):=by rw[wrap64 om om]; omega
 have r1:aBin .rem (.int .i64 ((8-pl % 8:Nat):Int)) (.int .i64 8)=some (.int .i64 ((fillN M.length:Nat):Int)):=by
  have:=bin_remN (8-pl % 8) 8 om
  unfold fillN; rw[h8]at this ⊢; exact this
 have hf:fillN M.length<8:=by unfold fillN; omega
 simp only[c65,sA,sB,seval,eq_ptr_nil,nil_cell,fldA,l0]
 refine (inside_spec h1).mono ?_
 rintro w _ ⟨rfl,rfl⟩
 simp only[sA,sB,seval,w1,r1]
 have p:=put_spec h 0 (fillN M.length) om (Nat.two_pow_pos _) hpl hM
 rw[bitsN_zero]at p
 refine p.mono ?_
 rintro w H' ⟨rfl,τ',q1,q2⟩
 simp only[sA,sB,seval]
 exact⟨tt,τ',q1,q2⟩
theorem bnew_spec(H:AHeap):ACalls Tryz.prog natT 61 [] H fun w H'=>w=cellR H.next 3 0∧Row H' H.next [.bool true,nilS,.int .i64 0]∧H'.next=H.next+1∧∀c,c≠H.next→H'.get c=H.get c:=by
 refine acalls_ofN rfl za61 rfl ?_
 obtain⟨H1,m1,r1,k1,o1⟩:=row_newL H [.bool true,nilS,.int .i64 0] (n:=3) rfl
 have b1:aBuild [.bool false,.slice none 0 (.known 0),.int .i64 0] [(0,1,.bool true)]=some (.agg [.bool true,nilS,.int .i64 0]):=rfl
 have b2:aBuild [.bool false,.slice none 0 (.known 0),.int .i64 0] [(0,3,.agg [.bool true,nilS,.int .i64 0])]=some (.agg [.bool true,nilS,.int .i64 0]):=rfl
 simp only[c61,sA,sB,seval,b1,b2,cells_agg,m1]
 exact⟨tt,r1,k1,o1⟩
theorem AppN.samN{m n k:Nat}{H H':AHeap}{s:AVal}{L:List AVal}(h:AppN m n H s L k)(hn:H.next≤H'.next)(e:∀c,n≤c→c<H.next→H'.get c=H.get c):AppN m n H' s L k:=by
 rcases h with h | ⟨b,low,h1,h2,h3,h4,h5,h6⟩
 ·exact .inl h
 ·exact .inr ⟨b,low,h1,h2,h3,om,(e b h3 h4).trans h5,h6⟩
theorem AppN.samN'{m n n' k:Nat}{H H':AHeap}{s:AVal}{L:List AVal}(h:AppN m n H s L k)(hn':n'≤n)(hn:H.next≤H'.next)(e:∀c,n≤c→c<H.next→H'.get c=H.get c):AppN m n' H' s L k:=by
 rcases h with h | ⟨b,low,h1,h2,h3,h4,h5,h6⟩
 ·exact .inl h
 ·exact .inr ⟨b,low,h1,h2,om,om,(e b h3 h4).trans h5,h6⟩
theorem natOf_cons(b:Bool)(l:List Bool):natOf (b::l)=(if b then 1 else 0)+2*natOf l:=rfl
theorem adlerF_snoc(x:Nat×Nat)(l:Bs)(b:UInt8):adlerF x (l++[b])=(((adlerF x l).1+b.toNat) % 65521,((adlerF x l).2+((adlerF x l).1+b.toNat) % 65521) % 65521):=by simp[adlerF,List.foldl_append]
theorem adlerF_lt(l:Bs):∀x:Nat×Nat,x.1<65521→x.2<65521→(adlerF x l).1<65521∧(adlerF x l).2<65521:=by
 induction l with
 | nil=>intro x h1 h2; exact⟨h1,h2⟩
 | cons b l ih=>intro x h1 h2; exact ih _ (Nat.mod_lt _ om) (Nat.mod_lt _ om)
def adlerS(sum:Nat):Nat×Nat:=(sum % 65536 % 65521,sum / 65536 % 65521)
theorem adler_eq(sum:Nat)(l:Bs):adler sum l=(adlerF (adlerS sum) l).2*65536+(adlerF (adlerS sum) l).1:=rfl
theorem adlerS_lt(sum:Nat)(l:Bs):(adlerF (adlerS sum) l).1<65521∧(adlerF (adlerS sum) l).2<65521:=adlerF_lt l _ (Nat.mod_lt _ om) (Nat.mod_lt _ om)
theorem adler_lt(sum:Nat)(l:Bs):adler sum l<2 ^ 32:=by
 have:=adlerS_lt sum l
 rw[adler_eq]; omega
theorem adler_append(sum:Nat)(a b:Bs):adler (adler sum a) b=adler sum (a++b):=by
 have h:=adlerS_lt sum a
 have e:adlerS (adler sum a)=adlerF (adlerS sum) a:=by
  rw[adler_eq]
  generalize adlerF (adlerS sum) a=p at h
  unfold adlerS
  exact Prod.ext (by simp only; omega) (by simp only; omega)
 rw[adler_eq,e,adler_eq]
 simp only[adlerF,List.foldl_append]
theorem b_u32(b:UInt8):IntKind.u32.wrap (b.toNat:Int)=(b.toNat:Int):=by
 have:=b.toNat_lt
 exact wrapU32 om om
def fourL(n:Nat):List Nat:=[n / 16777216 % 256,n / 65536 % 256,n / 256 % 256,n % 256]
theorem build4(H:AHeap)(a b c d:Int):aBuildSl 4 [.int .u8 0] H [(0,1,.int .u8 a),(1,1,.int .u8 b),(2,1,.int .u8 c),(3,1,.int .u8 d)]=some (slR H.next 4 (.known 4),H.push (.cells [.int .u8 a,.int .u8 b,.int .u8 c,.int .u8 d] 0 false)):=_root_.id rfl
theorem same_spec{n m:Nat}{H:AHeap}{u v:AVal}{s:Bs}(h:Cel n H u (byts s))(k:Cel m H v (byts s)) :
  ACalls Tryz.prog natT 28 [u,v] H fun w H'=>w=.bool true∧H=H':=by
 refine acalls_ofN rfl za28 rfl ?_
 have b1:=bs_cel h
 have b2:=bs_cel k
 simp only[c28,sA,sB,seval,b1,b2]
 exact⟨tt,tt⟩
def rv(m s x:Nat):Nat:=(x / 2 ^ s &&& m) ||| ((x &&& m)*2 ^ s % 2 ^ 32)
def rvb(x:Nat):Nat:=x / 2 ^ 16 ||| (x*2 ^ 16 % 2 ^ 32)
def rev32(x:Nat):Nat:=rvb (rv 16711935 8 (rv 252645135 4 (rv 858993459 2 (rv 1431655765 1 x))))
theorem rv_lt{m s x:Nat}(hm:m<2 ^ 32):rv m s x<2 ^ 32:=Nat.or_lt_two_pow (Nat.and_lt_two_pow _ hm) (Nat.mod_lt _ (Nat.two_pow_pos _))
theorem rv_steps{x m s:Nat}{M S:Int}(hx:x<2 ^ 32)(eM:M=(m:Int))(eS:S=(s:Int))(hm:m<2 ^ 32)(hs:s≤32) :
  aBin .shr (.int .u32 (x:Int)) (.int .u64 S)=some (.int .u32 ((x / 2 ^ s:Nat):Int)) ∧
  aBin .and (.int .u32 ((x / 2 ^ s:Nat):Int)) (.int .u32 M)=some (.int .u32 ((x / 2 ^ s &&& m:Nat):Int)) ∧
  aBin .and (.int .u32 (x:Int)) (.int .u32 M)=some (.int .u32 ((x &&& m:Nat):Int)) ∧
  aBin .shl (.int .u32 ((x &&& m:Nat):Int)) (.int .u64 S)=some (.int .u32 (((x &&& m)*2 ^ s % 2 ^ 32:Nat):Int)) ∧
  aBin .or (.int .u32 ((x / 2 ^ s &&& m:Nat):Int)) (.int .u32 (((x &&& m)*2 ^ s % 2 ^ 32:Nat):Int))=some (.int .u32 ((rv m s x:Nat):Int)):=by
 subst eM eS
 exact⟨shrN .u32 .u64 x (b:=s) hs,bin_andU .u32 (.inr (.inr (.inl rfl))) (Nat.lt_of_le_of_lt (Nat.div_le_self _ _) hx) hm,bin_andU .u32 (.inr (.inr (.inl rfl))) hx hm,bin_shlU .u32 .u64 (.inr (.inr (.inl rfl))) _ hs,bin_orU .u32 (.inr (.inr (.inl rfl))) (Nat.and_lt_two_pow _ hm) (Nat.mod_lt _ (Nat.two_pow_pos _))⟩
theorem revb_spec(H:AHeap)(x:Nat)(hx:x<2 ^ 32):ACalls Tryz.prog natT 133 [.int .u32 (x:Int)] H fun w H'=>w=.int .u32 ((rvb (rv 16711935 8 x):Nat):Int)∧H=H':=by
 refine acalls_ofN rfl za133 rfl ?_
 obtain⟨a1,a2,a3,a4,a5⟩:=rv_steps (M:=16711935) (S:=8) (m:=16711935) (s:=8) hx rfl rfl om om
 have hy:rv 16711935 8 x<2 ^ 32:=rv_lt om
 obtain⟨y,ey⟩:∃y,y=rv 16711935 8 x:=⟨_,rfl⟩
 rw[← ey]at hy a5
 have b1:aBin .shr (.int .u32 (y:Int)) (.int .u64 16)=some (.int .u32 ((y / 2 ^ 16:Nat):Int)):=shrN .u32 .u64 y (b:=16) (by simp only[IntKind.bits]; omega)
 have b2:aBin .shl (.int .u32 (y:Int)) (.int .u64 16)=some (.int .u32 ((y*2 ^ 16 % 2 ^ 32:Nat):Int)):=bin_shlU .u32 .u64 (.inr (.inr (.inl rfl))) y (b:=16) (by simp only[IntKind.bits]; omega)
 have b3:aBin .or (.int .u32 ((y / 2 ^ 16:Nat):Int)) (.int .u32 ((y*2 ^ 16 % 2 ^ 32:Nat):Int))=some (.int .u32 ((rvb y:Nat):Int)):=bin_orU .u32 (.inr (.inr (.inl rfl))) (Nat.lt_of_le_of_lt (Nat.div_le_self _ _) hy) (Nat.mod_lt _ (Nat.two_pow_pos _))
 rw[← ey]
 simp only[c133,sA,sB,seval,a1,a2,a3,a4,a5,b1,b2,b3]
 exact⟨tt,tt⟩
theorem rev_spec(H:AHeap)(x:Nat)(hx:x<2 ^ 32):ACalls Tryz.prog natT 118 [.int .u32 (x:Int)] H fun w H'=>w=.int .u32 ((rev32 x:Nat):Int)∧H=H':=by
 refine acalls_ofN rfl za118 rfl ?_
 obtain⟨a1,a2,a3,a4,a5⟩:=rv_steps (M:=1431655765) (S:=1) (m:=1431655765) (s:=1) hx rfl rfl om om
 obtain⟨y,ey⟩:∃y,y=rv 1431655765 1 x:=⟨_,rfl⟩
 have hy:y<2 ^ 32:=by rw[ey]; exact rv_lt om
 rw[← ey]at a5
 obtain⟨b1,b2,b3,b4,b5⟩:=rv_steps (M:=858993459) (S:=2) (m:=858993459) (s:=2) hy rfl rfl om om
 obtain⟨z,ez⟩:∃z,z=rv 858993459 2 y:=⟨_,rfl⟩
 have hz:z<2 ^ 32:=by rw[ez]; exact rv_lt om
 rw[← ez]at b5
 obtain⟨d1,d2,d3,d4,d5⟩:=rv_steps (M:=252645135) (S:=4) (m:=252645135) (s:=4) hz rfl rfl om om
 obtain⟨u,eu⟩:∃u,u=rv 252645135 4 z:=⟨_,rfl⟩
 have hu:u<2 ^ 32:=by rw[eu]; exact rv_lt om
 rw[← eu]at d5
 simp only[c118,sA,sB,seval,a1,a2,a3,a4,a5,b1,b2,b3,b4,b5,d1,d2,d3,d4,d5]
 refine (revb_spec H u hu).mono ?_
 rintro w _ ⟨rfl,rfl⟩
 simp only[sA,sB,seval]
 refine⟨?_,tt⟩
 rw[eu,ez,ey]; rfl
def turnF(c w:Nat):Nat×Nat:=(rev32 c / 2 ^ (32-w),w)
def fldV(f:Nat×Nat):AVal:=.agg [.int .u32 (f.1:Int),.int .i64 (f.2:Int)]
def fldC(f:Nat×Nat):List AVal:=[.int .u32 (f.1:Int),.int .i64 (f.2:Int)]
theorem buildF(a b:Int):aBuild [.int .u32 0,.int .i64 0] [(0,1,.int .u32 a),(1,1,.int .i64 b)]=some (.agg [.int .u32 a,.int .i64 b]):=_root_.id rfl
theorem turned_spec(H:AHeap)(c w:Nat)(hc:c<2 ^ 32)(hw:w≤32):ACalls Tryz.prog natT 108 [.int .i64 (c:Int),.int .i64 (w:Int)] H fun v H'=>v=fldV (turnF c w)∧Ext H.next H H':=by
 refine acalls_ofN rfl za108 rfl ?_
 obtain⟨H1,m1,r1,k1,o1⟩:=row_newL H [.int .u32 0,.int .i64 0] (n:=2) rfl
 have w1:IntKind.u32.wrap (c:Int)=(c:Int):=wrapU32 om om
 have w2:IntKind.i64.wrap (32-(w:Int))=((32-w:Nat):Int):=by rw[wrap64 om om]; omega
 have sh:=shrN .u32 .i64 (rev32 c) (b:=32-w) (by simp only[IntKind.bits]; omega)
 obtain⟨H2,m2,r2,k2',o2⟩:=row_storeN r1 (n:=2) rfl (xs:=fldC (turnF c w)) rfl rfl
 have m2':oStore 2 H1 (cellR H.next 2 0) (.agg [.int .u32 ((rev32 c / 2 ^ (32-w):Nat):Int),.int .i64 (w:Int)])=some H2:=m2
 simp only[c108,sA,sB,seval,m1,w1]
 refine (rev_spec H1 c hc).mono ?_
 rintro v _ ⟨rfl,rfl⟩
 simp only[sA,sB,seval,w2,sh,buildF,m2']
 exact fin_1 _ _ _ (by simp only[sA,sB,seval]; exact row_loadN r2 (n:=2) rfl) ⟨rfl,⟨om,fun b hb=>by rw[o2 b om,o1 b om]⟩⟩
def symF(s:Nat):Nat×Nat:=turnF (codeF s).1 (codeF s).2
theorem symbol_spec(H:AHeap)(s:Nat)(hs:s≤287):ACalls Tryz.prog natT 84 [.int .i64 (s:Int)] H fun v H'=>v=fldV (symF s)∧Ext H.next H H':=by
 refine acalls_ofN rfl za84 rfl ?_
 obtain⟨H1,m1,r1,k1,o1⟩:=row_newL H [.int .u32 0,.int .i64 0] (n:=2) rfl
 have tail:∀(c w:Nat),codeF s=(c,w)→c<2 ^ 32→w≤32→∀Q:AVal→AHeap→Prop,(∀(H2:AHeap) (H3:AHeap),Ext H1.next H1 H2→oStore 2 H2 (cellR H.next 2 0) (fldV (symF s))=some H3→oLoad true 2 H3 (cellR H.next 2 0)=some (fldV (symF s))→Ext H.next H H3→Q (fldV (symF s)) H2)→ACalls Tryz.prog natT 108 [.int .i64 (c:Int),.int .i64 (w:Int)] H1 Q:=by
  intro c w hc h1 h2 Q hQ
  refine (turned_spec H1 c w h1 h2).mono ?_
  rintro v H2 ⟨rfl,E⟩
  have en:=E.next
  obtain⟨H3,m3,r3,k3,o3⟩:=row_storeN (r1.same (E.old _ om)) (n:=2) rfl (xs:=fldC (turnF c w)) rfl rfl
  have e:symF s=turnF c w:=by unfold symF; rw[hc]
  rw[← e]at m3 r3 ⊢
  exact hQ H2 H3 E m3 (row_loadN r3 (n:=2) rfl) ⟨om,fun b hb=>by rw[o3 b om,E.old b om,o1 b om]⟩
 by_cases h1:s<144
 ·have h1':(s:Int)<144:=om
  have w1:IntKind.i64.wrap (48+(s:Int))=((48+s:Nat):Int):=by rw[wrap64 om om]; omega
  have e:codeF s=(48+s,8):=by unfold codeF; rw[if_pos om]
  simp only[c84,sA,sB,seval,m1,h1',w1]
  refine tail _ 8 e om om _ ?_
  intro H2 H3 E m3 l3 E3
  simp only[sA,sB,seval,m3]
  exact fin_1 _ _ _ (by simp only[sA,sB,seval]; exact l3) ⟨rfl,E3⟩
 ·have h1':¬(s:Int)<144:=om
  by_cases h2:s<256
  ·have h2':(s:Int)<256:=om
   have w1:IntKind.i64.wrap (400+(s:Int))=((400+s:Nat):Int):=by rw[wrap64 om om]; omega
   have w2:IntKind.i64.wrap (((400+s:Nat):Int)-144)=((400+s-144:Nat):Int):=by rw[wrap64 om om]; omega
   have e:codeF s=(400+s-144,9):=by unfold codeF; rw[if_neg om,if_pos om]
   simp only[c84,sA,sB,seval,m1,h1',h2',w1,w2]
   refine tail _ 9 e om om _ ?_
   intro H2 H3 E m3 l3 E3
   simp only[sA,sB,seval,m3]
   exact fin_1 _ _ _ (by simp only[sA,sB,seval]; exact l3) ⟨rfl,E3⟩
  ·have h2':¬(s:Int)<256:=om
   by_cases h3:s<280
   ·have h3':(s:Int)<280:=om
    have w1:IntKind.i64.wrap ((s:Int)-256)=((s-256:Nat):Int):=by rw[wrap64 om om]; omega
    have e:codeF s=(s-256,7):=by unfold codeF; rw[if_neg om,if_neg om,if_pos om]
    simp only[c84,sA,sB,seval,m1,h1',h2',h3',w1]
    refine tail _ 7 e om om _ ?_
    intro H2 H3 E m3 l3 E3
    simp only[sA,sB,seval,m3]
    exact fin_1 _ _ _ (by simp only[sA,sB,seval]; exact l3) ⟨rfl,E3⟩
   ·have h3':¬(s:Int)<280:=om
    have w1:IntKind.i64.wrap (192+(s:Int))=((192+s:Nat):Int):=by rw[wrap64 om om]; omega
    have w2:IntKind.i64.wrap (((192+s:Nat):Int)-280)=((192+s-280:Nat):Int):=by rw[wrap64 om om]; omega
    have e:codeF s=(192+s-280,8):=by unfold codeF; rw[if_neg om,if_neg om,if_neg om]
    simp only[c84,sA,sB,seval,m1,h1',h2',h3',w1,w2]
    refine tail _ 8 e om om _ ?_
    intro H2 H3 E m3 l3 E3
    simp only[sA,sB,seval,m3]
    exact fin_1 _ _ _ (by simp only[sA,sB,seval]; exact l3) ⟨rfl,E3⟩
theorem fin_tc{T:Env}{H:AHeap}(i j:Nat)(K:AVal→AHeap→Prop){v:AVal}(h:oLoad true 2 H (T j)=some v)(hk:K (.tuple [T i,v]) H):fin [.t i,.cell true 2 j] K .ret T H:=by
 simp only[fin,wRes,h,OptP_some]; exact hk
def wd4(s:Nat):Nat:=s / 4-1
def wd2(s:Nat):Nat:=s / 2-1
theorem pf_max(a b:Int):aPf (.mm true) [.int .i64 a,.int .i64 b]=some (.int .i64 (if a<b then b else a)):=by
 simp only[aPf,aMMs,aMM,aMM1,ltF_eq,cond_true]
 by_cases h:a<b <;> simp[h]
theorem quo64(a b:Nat)(h:0<b)(ha:a<2 ^ 62):aBin .quo (.int .i64 (a:Int)) (.int .i64 (b:Int))=some (.int .i64 ((a / b:Nat):Int)):=by
 have hq:a / b≤a:=Nat.div_le_self _ _
 rw[bin_quo _ _ _ om]
 show some (AVal.int .i64 (IntKind.i64.wrap ((a / b:Nat):Int)))=_
 generalize a / b=c at hq ⊢
 rw[wrap64 om om]
theorem wide1_spec(sp:Nat)(H:AHeap)(hs:sp≤40):ACalls Tryz.prog natT 106 [.int .i64 (sp:Int)] H fun w H'=>w=.int .i64 ((wd4 sp:Nat):Int)∧H=H':=by
 refine acalls_ofN rfl za106 rfl ?_
 have q:aBin .quo (.int .i64 (sp:Int)) (.int .i64 4)=some (.int .i64 ((sp / 4:Nat):Int)):=quo64 sp 4 om om
 have w:IntKind.i64.wrap (((sp / 4:Nat):Int)-1)=((sp / 4:Nat):Int)-1:=wrap64 om om
 have e:(if (0:Int)<((sp / 4:Nat):Int)-1 then ((sp / 4:Nat):Int)-1 else 0)=((wd4 sp:Nat):Int):=by unfold wd4; split <;> omega
 simp only[c106,sA,sB,seval,q,w,pf_max,e]
 exact⟨tt,tt⟩
theorem wide2_spec(sp:Nat)(H:AHeap)(hs:sp≤40):ACalls Tryz.prog natT 107 [.int .i64 (sp:Int)] H fun w H'=>w=.int .i64 ((wd2 sp:Nat):Int)∧H=H':=by
 refine acalls_ofN rfl za107 rfl ?_
 have q:aBin .quo (.int .i64 (sp:Int)) (.int .i64 2)=some (.int .i64 ((sp / 2:Nat):Int)):=quo64 sp 2 om om
 have w:IntKind.i64.wrap (((sp / 2:Nat):Int)-1)=((sp / 2:Nat):Int)-1:=wrap64 om om
 have e:(if (0:Int)<((sp / 2:Nat):Int)-1 then ((sp / 2:Nat):Int)-1 else 0)=((wd2 sp:Nat):Int):=by unfold wd2; split <;> omega
 simp only[c107,sA,sB,seval,q,w,pf_max,e]
 exact⟨tt,tt⟩
def amX(wd:Nat→Nat)(n:Nat):Nat→Nat→Nat→Option (Nat×Nat)
 | 0,_,_=>none
 | f+1,fr,sp=>if 2 ^ wd sp≤n-fr then amX wd n f (fr+2 ^ wd sp) (sp+1) else some (sp,fr)
theorem among_spec{g:Nat}{wd:Nat→Nat}(hgb:g<1024)(hg:∀(sp:Nat) (H:AHeap),sp≤40→ACalls Tryz.prog natT g [.int .i64 (sp:Int)] H fun w H'=>w=.int .i64 ((wd sp:Nat):Int)∧H=H')(hw:∀sp,sp≤40→wd sp≤30)
  (n fr:Nat) (hn:n≤1000000) (hf:fr≤n) {S F:Nat} (hR:amX wd n 40 fr 0=some (S,F)) (H:AHeap) :
  ACalls Tryz.prog natT 105 [.int .i64 (n:Int),.int .i64 (fr:Int),.func (.func g) [] []] H fun w H'=>w=.tuple [.int .i64 (S:Int),fldV (n-F,wd S)]∧Ext H.next H H':=by
 refine acalls_ofN rfl za105 rfl ?_
 obtain⟨H1,m1,r1,k1,o1⟩:=row_newL H [.int .u32 0,.int .i64 0] (n:=2) rfl
 simp only[c105,sA,sB,seval,m1]
 refine aw_loop (fun q (T:Env) H'=>∃(fr' sp:Nat),fr'≤n∧sp+q=40∧amX wd n q fr' sp=some (S,F)∧T 0=.int .i64 (n:Int)∧T 1=.int .i64 (fr':Int)∧T 2=.func (.func g) [] []∧T 7=cellR H.next 2 0∧T 8=.int .i64 (sp:Int)∧H1=H') 40
  ⟨fr,0,hf,rfl,hR,by simp only[sA,sB,seval]; try rfl,by simp only[sA,sB,seval]; try rfl,by simp only[sA,sB,seval]; try rfl,by simp only[sA,sB,seval]; try rfl,by simp only[sA,sB,seval]; try rfl,rfl⟩ ?_
 rintro q T _ ⟨fr',sp,hf',hsq,hR',g0,g1,g2,g7,g8,rfl⟩
 cases q with
 | zero=>simp[amX]at hR'
 | succ q=>
 have hwd:=hw sp om
 have hpw:2 ^ wd sp≤2 ^ 30:=Nat.pow_le_pow_right om hwd
 have ws:IntKind.i64.wrap ((n:Int)-(fr':Int))=((n-fr':Nat):Int):=by rw[wrap64 om om]; omega
 have sh:aBin .shl (.int .i64 1) (.int .i64 ((wd sp:Nat):Int))=some (.int .i64 ((2 ^ wd sp:Nat):Int)):=by
  have:=bin_shlN (k':=.i64) (a:=1) (b:=wd sp) om om
  rw[Nat.one_mul]at this
  exact this
 simp only[sA,sB,seval,g0,g1,g2,g8,ws,hgb]
 refine (hg sp H1 om).mono ?_
 rintro w _ ⟨rfl,rfl⟩
 by_cases hlt:2 ^ wd sp≤n-fr'
 ·have hlt':((2 ^ wd sp:Nat):Int)≤((n-fr':Nat):Int):=om
  simp only[sA,sB,seval,g0,g1,g2,g8,sh,hlt',hgb]
  refine (hg sp H1 om).mono ?_
  rintro w _ ⟨rfl,rfl⟩
  simp only[amX]at hR'
  rw[if_pos hlt]at hR'
  simp only[sA,sB,seval,g0,g1,g2,g8,sh,wrapN fr' (2 ^ wd sp) om,wrap1 sp om]
  exact⟨q,om,fr'+2 ^ wd sp,sp+1,om,om,hR',tt,tt,tt,tt,tt,tt⟩
 ·have hlt':¬((2 ^ wd sp:Nat):Int)≤((n-fr':Nat):Int):=om
  simp only[amX]at hR'
  rw[if_neg hlt]at hR'
  simp only[sJ,pJ]at hR'
  obtain⟨rfl,rfl⟩:=hR'
  have w3:IntKind.u32.wrap ((n-fr':Nat):Int)=((n-fr':Nat):Int):=wrapU32 om om
  simp only[sA,sB,seval,g0,g1,g2,g8,sh,hlt',ws,w3,hgb]
  refine (hg sp H1 om).mono ?_
  rintro w _ ⟨rfl,rfl⟩
  obtain⟨H2,m2,r2,k2',o2⟩:=row_storeN r1 (n:=2) rfl (xs:=fldC (n-fr',wd sp)) rfl rfl
  have m2':oStore 2 H1 (cellR H.next 2 0) (.agg [.int .u32 ((n-fr':Nat):Int),.int .i64 ((wd sp:Nat):Int)])=some H2:=m2
  simp only[sA,sB,seval,g7,buildF,m2']
  exact fin_tc _ _ _ (by simp only[sA,sB,seval,g7]; exact row_loadN r2 (n:=2) rfl) ⟨by simp only[sA,sB,seval]; rfl,⟨om,fun b hb=>by rw[o2 b om,o1 b om]⟩⟩
def fldBits(fs:List (Nat×Nat)):List Bool:=fs.flatMap fun f=>bitsN f.1 f.2
def fldOk(f:Nat×Nat):Bool:=Nat.blt f.1 (2 ^ f.2)&&Nat.ble f.2 16
def flds(fs:List (Nat×Nat)):List AVal:=fs.flatMap fldC
theorem flds_append(a b:List (Nat×Nat)):flds (a++b)=flds a++flds b:=by simp[flds]
theorem fldBits_append(a b:List (Nat×Nat)):fldBits (a++b)=fldBits a++fldBits b:=by simp[fldBits]
theorem flds_len(fs:List (Nat×Nat)):(flds fs).length=fs.length*2:=by
 induction fs with
 | nil=>rfl
 | cons f r ih=>
  have:flds (f::r)=fldC f++flds r:=by simp[flds]
  rw[this,lA,ih,List.length_cons]; simp[fldC]; omega
theorem all_range{p:Nat→Bool}{n:Nat}(h:(List.range n).all p=true){i:Nat}(hi:i<n):p i=true:=List.all_eq_true.1 h i (List.mem_range.2 hi)
theorem symF_ok{s:Nat}(hs:s<286):fldOk (symF s)=true∧bitsN (symF s).1 (symF s).2=fixB s:=by
 have h:(List.range 286).all (fun s=>fldOk (symF s)&&(bitsN (symF s).1 (symF s).2==fixB s))=true:=by decide +kernel
 have:=all_range h hs
 simp only[Bool.and_eq_true,beq_iff_eq]at this
 exact this
theorem turn5_ok{s:Nat}(hs:s<32):fldOk (turnF s 5)=true∧bitsN (turnF s 5).1 (turnF s 5).2=(bitsN s 5).reverse:=by
 have h:(List.range 32).all (fun s=>fldOk (turnF s 5)&&(bitsN (turnF s 5).1 (turnF s 5).2==(bitsN s 5).reverse))=true:=by decide +kernel
 have:=all_range h hs
 simp only[Bool.and_eq_true,beq_iff_eq]at this
 exact this
def lenR(n:Nat):Nat×Nat:=(find lenL n,lenL.getD (find lenL n) 0)
def disR(n:Nat):Nat×Nat:=(find disL n,disL.getD (find disL n) 0)
theorem len_ok{n:Nat}(h1:3≤n)(h2:n≤257):amX wd4 n 40 3 0=some (lenR n)∧wd4 (lenR n).1=lenE.getD (lenR n).1 0∧(lenR n).1≤28∧fldOk (n-(lenR n).2,wd4 (lenR n).1)=true:=by
 have h:(List.range 258).all (fun n=>Nat.blt n 3||(decide (amX wd4 n 40 3 0=some (lenR n))&&(decide (wd4 (lenR n).1=lenE.getD (lenR n).1 0)&&(decide ((lenR n).1≤28)&&fldOk (n-(lenR n).2,wd4 (lenR n).1)))))=true:=by decide +kernel
 have:=all_range h (show n<258 by omega)
 have h3:Nat.blt n 3=false:=by rw[Bool.eq_false_iff]; intro h; rw[Nat.blt_eq]at h; omega
 simp only[h3,Bool.false_or,Bool.and_eq_true,decide_eq_true_eq]at this
 exact this
theorem amX_find{wd:Nat→Nat}{l:List Nat}{n:Nat}(hs:∀sp,sp+1<l.length→l.getD (sp+1) 0=l.getD sp 0+2 ^ wd sp)(hl:∀sp,sp+1=l.length→n<l.getD sp 0+2 ^ wd sp) :
  ∀(f sp g:Nat),l.length≤sp+f→l.length≤sp+g→sp<l.length→l.getD sp 0≤n→amX wd n f (l.getD sp 0) sp=some (findF l n g sp,l.getD (findF l n g sp) 0)∧findF l n g sp<l.length∧n-l.getD (findF l n g sp) 0<2 ^ wd (findF l n g sp)
 | 0,sp,g,h1,_,h3,_=>om
 | f+1,sp,0,_,h2,h3,_=>om
 | f+1,sp,g+1,h1,h2,h3,h4=>by
  by_cases hk:sp+1<l.length
  ·have e:=hs sp hk
   by_cases hn:l.getD (sp+1) 0≤n
   ·have:=amX_find hs hl f (sp+1) g om om hk hn
    simp only[amX,findF]
    rw[if_pos om,if_pos ⟨hk,hn⟩,← e]
    exact this
   ·simp only[amX,findF]
    rw[if_neg om,if_neg (fun h=>hn h.2)]
    exact⟨rfl,h3,om⟩
  ·have e:=hl sp om
   simp only[amX,findF]
   rw[if_neg om,if_neg (fun h=>hk h.1)]
   exact⟨rfl,h3,om⟩
theorem dis_tab{sp:Nat}(h:sp<30):(sp+1<30→disL.getD (sp+1) 0=disL.getD sp 0+2 ^ wd2 sp)∧(sp=29→disL.getD sp 0+2 ^ wd2 sp=32769)∧wd2 sp=disE.getD sp 0∧wd2 sp≤13:=by
 have a:(List.range 30).all (fun sp=>(!Nat.blt (sp+1) 30||Nat.beq (disL.getD (sp+1) 0) (disL.getD sp 0+2 ^ wd2 sp))&&((!Nat.beq sp 29||Nat.beq (disL.getD sp 0+2 ^ wd2 sp) 32769)&&(Nat.beq (wd2 sp) (disE.getD sp 0)&&Nat.ble (wd2 sp) 13)))=true:=by decide +kernel
 have:=all_range a h
 simp only[Bool.and_eq_true,Bool.or_eq_true,Bool.not_eq_true',Nat.beq_eq,Nat.ble_eq]at this
 refine⟨fun q=>?_,fun q=>?_,this.2.2.1,this.2.2.2⟩
 ·rcases this.1 with r | r
  ·rw[Bool.eq_false_iff]at r; exact absurd (Nat.ble_eq_true_of_le q) r
  ·exact r
 ·rcases this.2.1 with r | r
  ·subst q; rw[Nat.beq_refl]at r; simp at r
  ·exact r
theorem dis_ok{n:Nat}(h1:1≤n)(h2:n≤32768):amX wd2 n 40 1 0=some (disR n)∧wd2 (disR n).1=disE.getD (disR n).1 0∧(disR n).1≤29∧fldOk (n-(disR n).2,wd2 (disR n).1)=true:=by
 have hlen:disL.length=30:=rfl
 obtain⟨a1,a2,a3⟩:=amX_find (wd:=wd2) (l:=disL) (n:=n) (fun sp h=>(dis_tab om).1 om) (fun sp h=>by have:=(dis_tab (sp:=sp) om).2.1 om; omega) 40 0 30 om om om (show 1≤n from h1)
 obtain⟨_,_,b3,b4⟩:=dis_tab (sp:=findF disL n 30 0) om
 refine⟨a1,b3,?_,?_⟩
 ·show findF disL n 30 0≤29
  omega
 ·show (Nat.blt (n-disL.getD (findF disL n 30 0) 0) (2 ^ wd2 (findF disL n 30 0))&&Nat.ble (wd2 (findF disL n 30 0)) 16)=true
  rw[Bool.and_eq_true]
  exact⟨Nat.ble_eq_true_of_le a3,Nat.ble_eq_true_of_le om⟩
def lenFl(n:Nat):List (Nat×Nat):=if n=258 then [symF 285] else [symF (257+(lenR n).1),(n-(lenR n).2,wd4 (lenR n).1)]
def disFl(n:Nat):List (Nat×Nat):=[turnF (disR n).1 5,(n-(disR n).2,wd2 (disR n).1)]
theorem lenFl_ok{n:Nat}(h1:3≤n)(h2:n≤258):fldBits (lenFl n)=lenB n∧∀f∈lenFl n,fldOk f=true:=by
 unfold lenFl lenB
 by_cases h:n=258
 ·subst h
  rw[if_pos rfl]
  obtain⟨a,b⟩:=symF_ok (s:=285) om
  refine⟨?_,fun f hf=>?_⟩
  ·have e:find lenL 258=28:=by decide +kernel
   rw[e]
   have e2:fldBits [symF 285]=fixB 285:=by simp[fldBits,b]
   rw[e2]
   have e3:bitsN (258-lenL.getD 28 0) (lenE.getD 28 0)=[]:=rfl
   rw[e3,List.append_nil]
  ·rw[List.mem_singleton]at hf; rw[hf]; exact a
 ·rw[if_neg h]
  obtain⟨a1,a2,a3,a4⟩:=len_ok h1 om
  obtain⟨b1,b2⟩:=symF_ok (s:=257+(lenR n).1) om
  refine⟨?_,fun f hf=>?_⟩
  ·have e:fldBits [symF (257+(lenR n).1),(n-(lenR n).2,wd4 (lenR n).1)]=bitsN (symF (257+(lenR n).1)).1 (symF (257+(lenR n).1)).2++bitsN (n-(lenR n).2) (wd4 (lenR n).1):=by simp[fldBits]
   rw[e,b2,a2]; rfl
  ·simp only[List.mem_cons,List.not_mem_nil,or_false]at hf
   rcases hf with rfl | rfl
   ·exact b1
   ·exact a4
theorem disFl_ok{n:Nat}(h1:1≤n)(h2:n≤32768):fldBits (disFl n)=disB n∧∀f∈disFl n,fldOk f=true:=by
 unfold disFl disB
 obtain⟨a1,a2,a3,a4⟩:=dis_ok h1 h2
 obtain⟨b1,b2⟩:=turn5_ok (s:=(disR n).1) om
 refine⟨?_,fun f hf=>?_⟩
 ·have e:fldBits [turnF (disR n).1 5,(n-(disR n).2,wd2 (disR n).1)]=bitsN (turnF (disR n).1 5).1 (turnF (disR n).1 5).2++bitsN (n-(disR n).2) (wd2 (disR n).1):=by simp[fldBits]
  rw[e,b2,a2]; rfl
 ·simp only[List.mem_cons,List.not_mem_nil,or_false]at hf
  rcases hf with rfl | rfl
  ·exact b1
  ·exact a4
def Stp(v:AVal)(H:AHeap)(w:AVal)(H':AHeap):Prop:=H.next≤H'.next∧(∀P,Blk v P→Blk w fun b=>P b∨H.next≤b)∧∀c,c<H.next→Blk v (c≠·)→H'.get c=H.get c
theorem Stp.of_ext{v:AVal}{H H':AHeap}(e:Ext H.next H H'):Stp v H v H':=⟨e.next,fun _ hP=>hP.mono fun _ hb=>.inl hb,fun c hc _=>e.old c hc⟩
theorem Stp.trans{u v w:AVal}{H H' H'':AHeap}(h:Stp u H v H')(k:Stp v H' w H''):Stp u H w H'':=
 ⟨Nat.le_trans h.1 k.1,fun P hP=>(k.2.1 _ (h.2.1 P hP)).mono fun b hb=>by
  rcases hb with hb | hb
  ·exact hb
  ·exact .inr (Nat.le_trans h.1 hb),fun c hc hd=>(k.2.2 c (Nat.lt_of_lt_of_le hc h.1) ((h.2.1 _ hd).mono fun b hb=>by
  rcases hb with hb | hb
  ·exact hb
  ·omega)).trans (h.2.2 c hc hd)⟩
theorem buildF1(H:AHeap)(f:Nat×Nat):aBuildSl 1 [.int .u32 0,.int .i64 0] H [(0,2,fldV f)]=some (.slice (some ⟨H.next,2,0⟩) 1 (.known 1),H.push (.cells (fldC f) 0 false)):=_root_.id rfl
theorem buildF2(H:AHeap)(f g:Nat×Nat):aBuildSl 2 [.int .u32 0,.int .i64 0] H [(0,2,fldV f),(2,2,fldV g)]=some (.slice (some ⟨H.next,4,0⟩) 2 (.known 2),H.push (.cells (flds [f,g]) 0 false)):=_root_.id rfl
theorem fldV_aeq(f:Nat×Nat):aeq (fldV f) (fldV f)=true:=by simp[aeq,aeqs,fldV,eqF_eq]
def FL(H:AHeap)(v:AVal)(fs:List (Nat×Nat)):Prop:=LinM 2 H v (flds fs) fs.length
theorem FL.add{H:AHeap}{v:AVal}{fs:List (Nat×Nat)}(h:FL H v fs)(gs:List (Nat×Nat))(hl:fs.length+gs.length≤1000000) :
  ∃w H',aAppend 2 16 (H.push (.cells (flds gs) 0 false)) v (.slice (some ⟨H.next,gs.length*2,0⟩) gs.length (.known gs.length))=some (w,H')∧FL H' w (fs++gs)∧Stp v H w H':=by
 have ho:(flds gs).all AVal.one=true:=by
  rw[List.all_eq_true]
  intro x hx
  simp only[flds,List.mem_flatMap]at hx
  obtain⟨f,_,hf⟩:=hx
  simp only[fldC,List.mem_cons,List.not_mem_nil,or_false]at hf
  rcases hf with rfl | rfl <;> rfl
 obtain⟨w,H',a1,a2,a3,a4,a5⟩:=LinM.add h (xs:=flds gs) (j:=gs.length) (flds_len gs) ho om (bytes:=16) om om
 rw[flds_len]at a1
 refine⟨w,H',a1,?_,a3,a4,a5⟩
 show LinM 2 H' w (flds (fs++gs)) (fs++gs).length
 rw[flds_append,lA]; exact a2
theorem FL.ext{H H':AHeap}{v:AVal}{fs:List (Nat×Nat)}(h:FL H v fs)(e:Ext H.next H H'):FL H' v fs:=LinM.same h e.next (LinM.blk h |>.mono fun b hb=>e.old b hb)
theorem matched_tail{H:AHeap}{v:AVal}{fs:List (Nat×Nat)}{T:Env}{Q:Post}(back:Nat)(g0:T 0=v)(g2:T 2=.int .i64 (back:Int))(h:FL H v fs)(hl:fs.length≤100000)(h1:1≤back)(h2:back≤32768)
  (hQ:∀T2 H2,FL H2 (T2 6) (fs++disFl back)→Stp v H (T2 6) H2→Q .ret T2 H2) :
  wp (ACalls Tryz.prog natT) (hold (restP [1,1] c83.body)) Q T H:=by
 obtain⟨a1,a2,a3,a4⟩:=dis_ok h1 h2
 obtain⟨S,F,hSF⟩:∃S F,disR back=(S,F):=⟨_,_,rfl⟩
 rw[hSF]at a1 a2 a3 a4
 simp only[c83,restP,hold_eq,sA,sB,seval,g0,g2]
 refine (among_spec (g:=107) om wide2_spec (fun s hs=>by unfold wd2; omega) back 1 om h1 a1 H).mono ?_
 rintro w H1 ⟨rfl,E1⟩
 have n1:=E1.next
 obtain⟨H2,m2,r2,k2',o2⟩:=row_newL H1 [.int .u32 0,.int .i64 0] (n:=2) rfl
 obtain⟨H3,m3,r3,k3,o3⟩:=row_storeN r2 (n:=2) rfl (xs:=fldC (back-F,wd2 S)) rfl rfl
 have m3':oStore 2 H2 (cellR H1.next 2 0) (fldV (back-F,wd2 S))=some H3:=m3
 have E3:Ext H1.next H1 H3:=⟨om,fun c hc=>by rw[o3 c om,o2 c om]⟩
 have l3:oLoad true 2 H3 (cellR H1.next 2 0)=some (fldV (back-F,wd2 S)):=row_loadN r3 (n:=2) rfl
 simp only[sA,sB,seval,ext_0,ext_1,m2,m3']
 refine aw_drawC rfl ?_
 simp only[sA,sB,seval,sR,g0]
 refine (turned_spec H3 S 5 om om).mono ?_
 rintro w H4 ⟨rfl,E4⟩
 have l4:oLoad true 2 H4 (cellR H1.next 2 0)=some (fldV (back-F,wd2 S)):=row_loadN (r3.same (E4.old _ om)) (n:=2) rfl
 have E14:Ext H.next H H4:=E1.trans ((E3.less n1).trans (E4.less om))
 obtain⟨w,H5,m5,A5,S5⟩:=(h.ext E14).add [turnF S 5,(back-F,wd2 S)] (by simp; omega)
 have m5':aAppend 2 16 (H4.push (.cells (flds [turnF S 5,(back-F,wd2 S)]) 0 false)) v (.slice (some ⟨H4.next,4,0⟩) 2 (.known 2))=some (w,H5):=m5
 simp only[sA,sB,seval,sR,g0,l4,buildF2,m5']
 simp only[ck_nil',ck_cons,ckP_load,ckP_nil,ck_end,and_true,true_and,List.map_cons,List.map_nil,sA,sB,seval,l3]
 refine⟨⟨_,rfl,fun _=>⟨_,l3,fldV_aeq _⟩⟩,?_⟩
 have e:disFl back=[turnF S 5,(back-F,wd2 S)]:=by unfold disFl; rw[hSF]
 refine hQ _ _ ?_ ?_
 ·simp only[sA,sB,seval]; rw[e]; exact A5
 ·simp only[sA,sB,seval]; exact (Stp.of_ext E14).trans S5
theorem matched_spec{H:AHeap}{v:AVal}{fs:List (Nat×Nat)}(n back:Nat)(h:FL H v fs)(hl:fs.length≤20000)(hn:3≤n)(hn2:n≤258)(h1:1≤back)(h2:back≤32768) :
  ACalls Tryz.prog natT 83 [v,.int .i64 (n:Int),.int .i64 (back:Int)] H fun w H'=>FL H' w (fs++(lenFl n++disFl back))∧Stp v H w H':=by
 refine acalls_ofN rfl za83 rfl ?_
 refine wp_cutP [1,1] ?_
 by_cases h258:n=258
 ·have h258':(n:Int)=258:=om
  simp only[c83,sC,sA,sB,seval,h258']
  refine (symbol_spec H 285 om).mono ?_
  rintro w H1 ⟨rfl,E1⟩
  obtain⟨w,H2,m2,A2,S2⟩:=(h.ext E1).add [symF 285] (by simp; omega)
  have m2':aAppend 2 16 (H1.push (.cells (fldC (symF 285)) 0 false)) v (.slice (some ⟨H1.next,2,0⟩) 1 (.known 1))=some (w,H2):=m2
  simp only[sA,sB,seval,buildF1,m2']
  refine matched_tail back (by simp only[sA,sB,seval]) (by simp only[sA,sB,seval]) A2 (by simp; omega) h1 h2 ?_
  intro T2 H3 A3 S3
  simp only[sA,sB,seval]
  have e:lenFl n=[symF 285]:=by unfold lenFl; rw[if_pos h258]
  rw[e,← List.append_assoc]
  exact⟨A3,((Stp.of_ext E1).trans S2).trans S3⟩
 ·have h258':¬(n:Int)=258:=om
  obtain⟨a1,a2,a3,a4⟩:=len_ok hn om
  have e:lenFl n=[symF (257+(lenR n).1),(n-(lenR n).2,wd4 (lenR n).1)]:=by unfold lenFl; rw[if_neg h258]
  obtain⟨S,F,hSF⟩:∃S F,lenR n=(S,F):=⟨_,_,rfl⟩
  rw[hSF]at a1 a2 a3 a4 e
  simp only[c83,sC,sA,sB,seval,h258']
  refine (among_spec (g:=106) om wide1_spec (fun s hs=>by unfold wd4; omega) n 3 om hn a1 H).mono ?_
  rintro w H1 ⟨rfl,E1⟩
  have n1:=E1.next
  obtain⟨H2,m2,r2,k2',o2⟩:=row_newL H1 [.int .u32 0,.int .i64 0] (n:=2) rfl
  obtain⟨H3,m3,r3,k3,o3⟩:=row_storeN r2 (n:=2) rfl (xs:=fldC (n-F,wd4 S)) rfl rfl
  have m3':oStore 2 H2 (cellR H1.next 2 0) (fldV (n-F,wd4 S))=some H3:=m3
  have E3:Ext H1.next H1 H3:=⟨om,fun c hc=>by rw[o3 c om,o2 c om]⟩
  have l3:oLoad true 2 H3 (cellR H1.next 2 0)=some (fldV (n-F,wd4 S)):=row_loadN r3 (n:=2) rfl
  have wS:IntKind.i64.wrap (257+(S:Int))=((257+S:Nat):Int):=by rw[wrap64 om om]; omega
  simp only[sA,sB,seval,ext_0,ext_1,m2,m3']
  refine aw_drawC rfl ?_
  simp only[sA,sB,seval,sR,wS]
  refine (symbol_spec H3 (257+S) om).mono ?_
  rintro w H4 ⟨rfl,E4⟩
  have l4:oLoad true 2 H4 (cellR H1.next 2 0)=some (fldV (n-F,wd4 S)):=row_loadN (r3.same (E4.old _ om)) (n:=2) rfl
  have E14:Ext H.next H H4:=E1.trans ((E3.less n1).trans (E4.less om))
  obtain⟨w,H5,m5,A5,S5⟩:=(h.ext E14).add [symF (257+S),(n-F,wd4 S)] (by simp; omega)
  have m5':aAppend 2 16 (H4.push (.cells (flds [symF (257+S),(n-F,wd4 S)]) 0 false)) v (.slice (some ⟨H4.next,4,0⟩) 2 (.known 2))=some (w,H5):=m5
  simp only[sA,sB,seval,sR,l4,buildF2,m5']
  simp only[ck_nil',ck_cons,ckP_load,ckP_nil,ck_end,and_true,true_and,List.map_cons,List.map_nil,sA,sB,seval,l3]
  refine⟨⟨_,rfl,fun _=>⟨_,l3,fldV_aeq _⟩⟩,?_⟩
  refine matched_tail back (by simp only[sA,sB,seval]) (by simp only[sA,sB,seval]) A5 (by simp; omega) h1 h2 ?_
  intro T2 H6 A6 S6
  simp only[sA,sB,seval]
  rw[e,← List.append_assoc]
  exact⟨A6,((Stp.of_ext E14).trans S5).trans S6⟩
end Go.Proofs.Tb
