/- Part of a proof (QU1 QB1 QB2 TX0 QWE QWF QB3 QB4 QB5 QB6 QB7 QB8 QB9 QBA); no condition. -/
import Derived.Test.YteabnpheoiakdaaGreatProg
import Derived.KernelRfl
import Derived.Test.YteabnpheoiakdaaGreatP8
import Derived.Test.YteabnpheoiakdaaGreatP9
import Derived.Test.YteabnpheoiakdaaGreatP13
set_option linter.unusedSimpArgs false
set_option linter.unusedVariables false
set_option linter.unnecessarySimpa false
namespace Go.Proofs.Wo
open Go.Abs Go.Abs.S
noncomputable section
def c8:bY:=⟨64,zq [zo 5 (.box (.t 1)),zo 6 (.box (.t 2)),zo 8 (.new [zI 0,zI 0,zI 0]),zo 9 (.mv (zi 0)),zo 10 (.mv (zi 0))] (.seq (zq [zm 13 0,zx 14 18 [.t 13],zo 11 (.new [zI 0,zI 0]),zp (.store 2 (.t 11) (.t 14))] (zq [zf 15 0 11,zl 16 15,zk 17 .neq 16 0] (.cond (.t 17) (.seq (.draw [zo 18 (.build [zI 0,zI 0,zI 0] []),zf 19 0 11,zl 20 19,zp (.store 3 (.t 8) (.t 18)),zo 9 (.mv (zi 0)),zm 10 20] [[],[],[6],[],[],[]]) .ret) .skip))) (.seq (.draw [zt 21 3 6,zm 22 3,zf 23 0 5,zl 24 23,zx 25 19 [.t 24],zo 26 (.build [.bool false,zI 0,zI 0,zI 0] [(0,1,.c (.bool false)),(1,3,.t 25)]),zo 27 (.build [.str [],.bool false,zI 0,zI 0,zI 0] [(0,1,.c (.str [117])),(1,4,.t 26)]),zf 28 1 5,zl 29 28,zx 30 19 [.t 29],zo 31 (.build [.bool false,zI 0,zI 0,zI 0] [(0,1,.c (.bool false)),(1,3,.t 30)]),zo 32 (.build [.str [],.bool false,zI 0,zI 0,zI 0] [(0,1,.c (.str [118])),(1,4,.t 31)]),zf 33 2 5,zt 34 3 33,zo 35 (.build [.bool false,zI 0,zI 0,zI 0] [(0,1,.c (.bool true)),(1,3,.t 34)]),zo 36 (.build [.str [],.bool false,zI 0,zI 0,zI 0] [(0,1,.c (.str [112])),(1,4,.t 35)]),zf 37 5 5,zt 38 3 37,zo 39 (.build [.bool false,zI 0,zI 0,zI 0] [(0,1,.c (.bool true)),(1,3,.t 38)]),zo 40 (.build [.str [],.bool false,zI 0,zI 0,zI 0] [(0,1,.c (.str [110])),(1,4,.t 39)]),zo 41 (.buildSl 4 [.str [],.bool false,zI 0,zI 0,zI 0] [(0,5,.t 27),(5,5,.t 32),(10,5,.t 36),(15,5,.t 40)]),zo 42 (.build [zN,zI 0,zI 0,zN,zI 0,zI 0,.bool false,.bool false,zI 0,zI 0,zI 0] [(1,3,.t 21),(5,1,.t 22),(0,1,.t 41)]),zo 43 (.box (.t 42)),zm 12 43] [[9,20,22],[],[],[],[],[],[],[],[4],[],[],[],[],[4,9],[],[],[],[4,9],[],[],[],[],[],[]]) (zq [zm 44 12,zm 45 0,zx 46 20 [.t 44,.t 45]] (zr [zm 47 12,zc 48 47,zf 49 6 48,zl 50 49] 50 (.seq (.draw [zo 51 (.build [zI 0,zI 0,zI 0] []),zm 52 12,zc 53 52,zf 54 4 53,zl 55 54,zp (.store 3 (.t 8) (.t 51)),zm 9 55,zo 10 (.mv (zi 121))] [[],[],[],[],[8],[],[],[]]) .ret) .skip (.seq (.draw [zm 56 12,zc 57 56,zf 58 8 57,zt 59 3 58,zm 60 12,zc 61 60,zf 62 4 61,zl 63 62,zp (.store 3 (.t 8) (.t 59)),zm 9 63,zo 10 (.mv (zi 0))] [[],[],[],[],[],[],[],[11],[],[],[]]) .ret))))),[.cell true 3 8,.t 9,.t 10]⟩
theorem za8:cN Tryz.prog 8=some c8:=by kernel_rfl
def c19:bY:=⟨5,zq [zo 2 (.new [zI 0,zI 0,zI 0])] (zq [zm 3 0,zo 4 (.build [zI 0,zI 0,zI 0] [(0,1,.t 3)]),zp (.store 3 (.t 2) (.t 4))] .ret),[.cell true 3 2]⟩
theorem RH:cN Tryz.prog 19=some c19:=by kernel_rfl
def c20:bY:=⟨33,zq [zm 6 0,zc 7 6,zf 8 0 7,zl 9 8,zh 10 9,zm 4 10] (.seq (zq [zm 11 1,zh 12 11,zo 13 (.mv (zi 0))] (.block 0 (.loop (zq [zb 14 .lss 13 12] (.seq (.cond (.t 14) .skip (.exit 0)) (.seq (.block 1 (zq [zm 15 13,zm 5 15] (zq [zm 16 0,zm 17 1,zm 18 5,zo 19 (.idxA 9 (.t 17) (.t 18)),zx 20 44 [.t 16,.t 19]] (zq [zm 21 0,zx 22 45 [.t 21]] (.cond (.t 22) .ret .skip))))) (.reg [zk 23 .add 13 1,zm 13 23]))))))) (.reg [zm 24 0,zm 25 0,zc 26 25,zf 27 0 26,zl 28 27,zm 29 4,zo 30 (.sl 5 (.t 28) none (some (.t 29)) none),zc 31 24,zf 32 0 31,zs 32 30])),[]⟩
theorem RG:cN Tryz.prog 20=some c20:=by kernel_rfl
def c44:bY:=⟨91,.block 0 (.loop (.block 1 (zr [zm 5 0,zx 6 75 [.t 5],zo 7 (.un .not (.t 6))] 7 .ret .skip (zq [zm 8 0,zm 9 1,zc 10 9,zf 11 2 10,zx 12 76 [.t 8,.t 11],zo 4 (.new [.bool false,zI 0,zI 0,zI 0]),zp (.store 4 (.t 4) (.t 12))] (zr [zm 13 0,zc 14 13,zf 15 6 14,zl 16 15] 16 .ret .skip (.seq (zq [zm 17 1,zc 18 17,zf 19 0 18,zl 20 19] (.block 2 (zq [zo 22 (.bin .eql (.t 20) (zu 1)),zm 21 22] (.cond (.t 21) (.draw [zm 23 0,zm 24 0,zc 25 24,zf 26 0 25,zl 27 26,zm 28 1,zc 29 28,zf 30 1 29,zl 31 30,zt 32 4 4,zo 33 (.build [.str [],.bool false,zI 0,zI 0,zI 0] [(0,1,.t 31),(1,4,.t 32)]),zo 34 (.buildSl 1 [.str [],.bool false,zI 0,zI 0,zI 0] [(0,5,.t 33)]),zo 35 (.append 5 48 (.t 27) (.t 34)),zc 36 23,zf 37 0 36,zs 37 35] [[],[],[],[],[12],[],[],[],[],[],[],[],[],[],[],[]]) (zq [zo 39 (.bin .eql (.t 20) (zu 2)),zm 38 39] (.cond (.t 38) (.draw [zm 40 0,zm 41 1,zc 42 41,zf 43 1 42,zl 44 43,zx 45 77 [.t 40,.t 44],zt 46 4 4,zc 47 45,zp (.store 4 (.t 47) (.t 46))] [[],[],[],[],[],[],[5],[],[]]) (zq [zo 49 (.bin .eql (.t 20) (zu 5)),zm 48 49] (.cond (.t 48) (.reg [zm 50 0,zm 51 0,zf 52 1 4,zt 53 3 52,zc 54 50,zf 55 8 54,zp (.store 3 (.t 55) (.t 53)),zc 56 51,zf 57 7 56,zp (.store 1 (.t 57) (.c (.bool true)))]) (zq [zo 59 (.bin .eql (.t 20) (zu 3)),zm 58 59] (.cond (.t 58) (zq [zf 60 1 4,zf 61 0 60,zl 62 61,zk 63 .neq 62 0] (.cond (.t 63) (.reg [zm 64 0,zm 65 1,zc 66 65,zf 67 6 66,zl 68 67,zx 69 20 [.t 64,.t 68]]) (.reg [zm 70 0,zm 71 1,zc 72 71,zf 73 7 72,zl 74 73,zx 75 20 [.t 70,.t 74]]))) (zq [zo 77 (.bin .eql (.t 20) (zu 4)),zm 76 77] (.cond (.t 76) (zr [zf 78 1 4,zf 79 0 78,zl 80 79,zk 81 .eql 80 0] 81 .ret .skip (zq [zm 82 0,zm 83 1,zc 84 83,zf 85 6 84,zl 86 85,zx 87 20 [.t 82,.t 86]] (zq [zm 88 0,zx 89 45 [.t 88],zo 90 (.un .not (.t 89))] (.cond (.t 90) (.exit 1) .skip)))) .skip)))))))))))) .ret)))))),[]⟩
theorem Ro:cN Tryz.prog 44=some c44:=by kernel_rfl
def Si:bY:=⟨22,zq [zo 2 (.mv (.c (.bool false)))] (zr [zm 3 0,zc 4 3,zf 5 4 4,zl 6 5,zm 7 0,zc 8 7,zf 9 5 8,zl 10 9,zb 11 .geq 6 10] 11 (zq [zm 12 0,zc 13 12,zf 14 6 13,zp (.store 1 (.t 14) (.c (.bool true)))] (zq [zo 2 (.mv (.c (.bool false)))] .ret)) .skip (zq [zm 15 0,zc 16 15,zf 17 4 16,zl 18 17,zk 19 .add 18 1,zc 20 15,zf 21 4 20,zs 21 19] (zq [zo 2 (.mv (.c (.bool true)))] .ret))),[.t 2]⟩
theorem Q0:cN Tryz.prog 75=some Si:=by kernel_rfl
def c76:bY:=⟨96,zq [zo 4 (.new [.bool false,zI 0,zI 0,zI 0])] (zq [zo 5 (.new [.bool false,zI 0,zI 0,zI 0,.bool false,zI 0,zI 0,zI 0,.bool false,zI 0,zI 0,zI 0])] (.seq (zq [zm 7 1,zc 8 7,zf 9 3 8,zl 10 9,zh 11 10,zo 12 (.mv (zi 0))] (.block 0 (.loop (zq [zb 13 .lss 12 11] (.seq (.cond (.t 13) .skip (.exit 0)) (.seq (.block 1 (zq [zm 14 12,zm 6 14] (zq [zm 15 6,zm 16 0,zm 17 1,zc 18 17,zf 19 3 18,zl 20 19,zm 21 6,zo 22 (.idxA 4 (.t 20) (.t 21)),zx 23 76 [.t 16,.t 22],zo 24 (.idxArr 3 4 (.t 5) (.t 15)),zp (.store 4 (.t 24) (.t 23))] (zq [zm 25 0,zc 26 25,zf 27 6 26,zl 28 27] (.cond (.t 28) (zq [zo 29 (.build [.bool false,zI 0,zI 0,zI 0] []),zp (.store 4 (.t 4) (.t 29))] .ret) .skip))))) (.reg [zk 30 .add 12 1,zm 12 30]))))))) (zr [zm 31 0,zx 32 75 [.t 31],zo 33 (.un .not (.t 32))] 33 (zq [zo 34 (.build [.bool false,zI 0,zI 0,zI 0] []),zp (.store 4 (.t 4) (.t 34))] .ret) .skip (.seq (zq [zm 35 1,zc 36 35,zf 37 0 36,zl 38 37] (.block 2 (zq [zo 40 (.bin .eql (.t 38) (zu 1)),zm 39 40] (.cond (.t 39) (zq [zm 41 1,zc 42 41,zf 43 2 42,zl 44 43,zx 45 19 [.t 44],zo 46 (.build [.bool false,zI 0,zI 0,zI 0] [(0,1,.c (.bool false)),(1,3,.t 45)]),zp (.store 4 (.t 4) (.t 46))] .ret) (zq [zo 48 (.bin .eql (.t 38) (zu 2)),zm 47 48] (.cond (.t 47) (zq [zm 49 0,zm 50 1,zc 51 50,zf 52 1 51,zl 53 52,zx 54 77 [.t 49,.t 53],zc 55 54,zt 56 4 55,zp (.store 4 (.t 4) (.t 56))] .ret) (zq [zo 58 (.bin .eql (.t 38) (zu 3)),zm 57 58] (.cond (.t 57) (zr [zm 59 1,zc 60 59,zf 61 3 60,zl 62 61,zh 63 62,zk 64 .eql 63 1] 64 (zq [zm 65 1,zc 66 65,zf 67 1 66,zl 68 67,zo 69 (.idxArr 3 4 (.t 5) (zi 0)),zt 70 4 69,zx 71 121 [.t 68,.t 70],zp (.store 4 (.t 4) (.t 71))] .ret) .skip (zq [zm 72 1,zc 73 72,zf 74 1 73,zl 75 74,zo 76 (.idxArr 3 4 (.t 5) (zi 0)),zt 77 4 76,zo 78 (.idxArr 3 4 (.t 5) (zi 1)),zt 79 4 78,zx 80 122 [.t 75,.t 77,.t 79],zp (.store 4 (.t 4) (.t 80))] .ret)) .skip)))))))) (zq [zm 81 0,zm 82 1,zc 83 82,zf 84 1 83,zl 85 84,zo 86 (.idxArr 3 4 (.t 5) (zi 0)),zf 87 1 86,zt 88 3 87,zo 89 (.idxArr 3 4 (.t 5) (zi 1)),zf 90 1 89,zt 91 3 90,zo 92 (.idxArr 3 4 (.t 5) (zi 2)),zf 93 1 92,zt 94 3 93,zx 95 123 [.t 81,.t 85,.t 88,.t 91,.t 94],zp (.store 4 (.t 4) (.t 95))] .ret))))),[.cell true 4 4]⟩
theorem QZ:cN Tryz.prog 76=some c76:=by kernel_rfl
def c77:bY:=⟨35,zq [zo 4 (.mv (.c (.ptr none)))] (zq [zm 6 0,zc 7 6,zf 8 0 7,zl 9 8,zh 10 9,zk 11 .sub 10 1,zm 5 11] (.seq (.block 0 (.loop (zr [zm 12 5,zk 13 .gtr 12 0,zm 14 13,zg 15 (.mv (.t 0)) 14 true,zg 16 (.nilChk (.t 15)) 14 true,zg 17 (.fieldA 0 (.t 16)) 14 true,zg 18 (.load false 1 (.t 17)) 14 true,zg 19 (.mv (.t 5)) 14 true,zg 20 (.idxA 5 (.t 18) (.t 19)) 14 true,zg 21 (.fieldA 0 (.t 20)) 14 true,zg 22 (.load false 1 (.t 21)) 14 true,zg 23 (.mv (.t 1)) 14 true,zg 24 (.bin .neq (.t 22) (.t 23)) 14 true,zo 25 (.pick (.t 14) (.t 24) (.c (.bool false)))] 25 .skip (.exit 0) (.block 1 (.reg [zm 26 5,zk 27 .sub 26 1,zm 5 27]))))) (zq [zm 28 0,zc 29 28,zf 30 0 29,zl 31 30,zm 32 5,zo 33 (.idxA 5 (.t 31) (.t 32)),zf 34 1 33,zm 4 34] .ret))),[.t 4]⟩
theorem QY:cN Tryz.prog 77=some c77:=by kernel_rfl
def Og:bY:=⟨6,zq [zo 2 (.new [zI 0,zI 0,zI 0])] (zr [zm 3 0] 3 (zq [zx 4 19 [zi 4294967296],zp (.store 3 (.t 2) (.t 4))] .ret) .skip (zq [zo 5 (.build [zI 0,zI 0,zI 0] []),zp (.store 3 (.t 2) (.t 5))] .ret)),[.cell true 3 2]⟩
theorem Pp:cN Tryz.prog 103=some Og:=by kernel_rfl
def c90:bY:=⟨18,zq [zo 2 (.box (.t 0)),zo 4 (.new [zI 0,zI 0,zI 0])] (.seq (.draw [zm 5 1,zf 6 0 2,zl 7 6,zo 8 (.callv (.t 5) [.t 7]),zm 9 1,zf 10 1 2,zl 11 10,zo 12 (.callv (.t 9) [.t 11]),zm 13 1,zf 14 2 2,zl 15 14,zo 16 (.callv (.t 13) [.t 15]),zo 17 (.build [zI 0,zI 0,zI 0] [(0,1,.t 8),(1,1,.t 12),(2,1,.t 16)]),zp (.store 3 (.t 4) (.t 17))] [[],[],[],[],[],[],[3],[],[],[],[3,7],[],[],[]]) .ret),[.cell true 3 4]⟩
theorem QS:cN Tryz.prog 90=some c90:=by kernel_rfl
def ON:bY:=⟨26,zq [zo 4 (.mv (zi 0))] (.seq (.block 0 (zq [zm 6 1,zk 7 .lss 6 0,zm 8 7,zg 9 (.mv (.t 0)) 8 true,zg 10 (.mv (.t 1)) 8 true,zg 11 (.bin .add (zi 9223372036854775807) (.t 10)) 8 true,zg 12 (.bin .gtr (.t 9) (.t 11)) 8 true,zo 13 (.pick (.t 8) (.t 12) (.c (.bool false))),zm 5 13] (.cond (.t 5) (zq [zo 4 (.mv (zi 9223372036854775807))] .ret) (zq [zm 15 1,zk 16 .gtr 15 0,zm 17 16,zg 18 (.mv (.t 0)) 17 true,zg 19 (.mv (.t 1)) 17 true,zg 20 (.bin .add (.c (.int .i64 (.negSucc 9223372036854775807))) (.t 19)) 17 true,zg 21 (.bin .lss (.t 18) (.t 20)) 17 true,zo 22 (.pick (.t 17) (.t 21) (.c (.bool false))),zm 14 22] (.cond (.t 14) (zq [zo 4 (.mv (.c (.int .i64 (.negSucc 9223372036854775807))))] .ret) .skip))))) (zq [zm 23 0,zm 24 1,zb 25 .sub 23 24,zm 4 25] .ret)),[.t 4]⟩
theorem QT:cN Tryz.prog 89=some ON:=by kernel_rfl
def Qj:bY:=⟨112,zq [zo 4 (.box (.t 1)),zo 5 (.box (.t 2)),zo 6 (.new [.bool false,zI 0,zI 0,zI 0])] (zq [zf 10 1 4,zf 11 0 10,zl 12 11,zf 13 1 5,zf 14 0 13,zl 15 14,zm 7 12,zm 8 15] (.seq (zq [zm 16 0] (.block 0 (zq [zo 18 (.bin .eql (.t 16) (.c (.str [43]))),zm 17 18] (.cond (.t 17) (.seq (.draw [zf 19 0 4,zl 20 19,zf 21 1 4,zt 22 3 21,zf 23 1 5,zt 24 3 23,zx 25 49 [.t 22,.t 24],zo 26 (.build [.bool false,zI 0,zI 0,zI 0] [(0,1,.t 20),(1,3,.t 25)]),zp (.store 4 (.t 6) (.t 26))] [[],[8],[],[],[],[],[],[],[]]) .ret) (zq [zo 28 (.bin .eql (.t 16) (.c (.str [45]))),zm 27 28] (.cond (.t 27) (.seq (.draw [zf 29 0 4,zl 30 29,zf 31 1 4,zt 32 3 31,zf 33 1 5,zt 34 3 33,zx 35 50 [.t 32,.t 34],zo 36 (.build [.bool false,zI 0,zI 0,zI 0] [(0,1,.t 30),(1,3,.t 35)]),zp (.store 4 (.t 6) (.t 36))] [[],[8],[],[],[],[],[],[],[]]) .ret) (zq [zo 38 (.bin .eql (.t 16) (.c (.str [42]))),zm 37 38] (.cond (.t 37) (zr [zf 39 0 4,zl 40 39] 40 (zq [zm 41 8,zf 42 1 4,zt 43 3 42,zx 44 51 [.t 41,.t 43],zo 45 (.build [.bool false,zI 0,zI 0,zI 0] [(0,1,.c (.bool true)),(1,3,.t 44)]),zp (.store 4 (.t 6) (.t 45))] .ret) .skip (.seq (.draw [zf 46 0 5,zl 47 46,zm 48 7,zf 49 1 5,zt 50 3 49,zx 51 51 [.t 48,.t 50],zo 52 (.build [.bool false,zI 0,zI 0,zI 0] [(0,1,.t 47),(1,3,.t 51)]),zp (.store 4 (.t 6) (.t 52))] [[],[7],[],[],[],[],[],[]]) .ret)) (zq [zo 54 (.bin .eql (.t 16) (.c (.str [47]))),zm 53 54] (.cond (.t 53) (.seq (.draw [zf 55 0 4,zl 56 55,zf 57 1 4,zt 58 3 57,zm 59 8,zx 60 52 [.t 58,.t 59],zo 61 (.build [.bool false,zI 0,zI 0,zI 0] [(0,1,.t 56),(1,3,.t 60)]),zp (.store 4 (.t 6) (.t 61))] [[],[7],[],[],[],[],[],[]]) .ret) .skip)))))))))) (zq [zo 9 (.mv (.c (.bool false)))] (.seq (zq [zm 62 0] (.block 1 (zq [zo 64 (.bin .eql (.t 62) (.c (.str [61,61]))),zm 63 64] (.cond (.t 63) (.reg [zm 65 7,zm 66 8,zb 67 .eql 65 66,zm 9 67]) (zq [zo 69 (.bin .eql (.t 62) (.c (.str [33,61]))),zm 68 69] (.cond (.t 68) (.reg [zm 70 7,zm 71 8,zb 72 .neq 70 71,zm 9 72]) (zq [zo 74 (.bin .eql (.t 62) (.c (.str [60,61]))),zm 73 74] (.cond (.t 73) (.reg [zm 75 7,zm 76 8,zb 77 .leq 75 76,zm 9 77]) (zq [zo 79 (.bin .eql (.t 62) (.c (.str [62,61]))),zm 78 79] (.cond (.t 78) (.reg [zm 80 7,zm 81 8,zb 82 .geq 80 81,zm 9 82]) (zq [zo 84 (.bin .eql (.t 62) (.c (.str [60]))),zm 83 84] (.cond (.t 83) (.reg [zm 85 7,zm 86 8,zb 87 .lss 85 86,zm 9 87]) (zq [zo 89 (.bin .eql (.t 62) (.c (.str [62]))),zm 88 89] (.cond (.t 88) (.reg [zm 90 7,zm 91 8,zb 92 .gtr 90 91,zm 9 92]) (zq [zo 94 (.bin .eql (.t 62) (.c (.str [38,38]))),zm 93 94] (.cond (.t 93) (.reg [zm 95 7,zk 96 .neq 95 0,zm 97 96,zg 98 (.mv (.t 8)) 97 true,zg 99 (.bin .neq (.t 98) (zi 0)) 97 true,zo 100 (.pick (.t 97) (.t 99) (.c (.bool false))),zm 9 100]) (zq [zo 102 (.bin .eql (.t 62) (.c (.str [124,124]))),zm 101 102] (.cond (.t 101) (.reg [zm 103 7,zk 104 .neq 103 0,zm 105 104,zg 106 (.mv (.t 8)) 105 false,zg 107 (.bin .neq (.t 106) (zi 0)) 105 false,zo 108 (.pick (.t 105) (.c (.bool true)) (.t 107)),zm 9 108]) .skip)))))))))))))))))) (zq [zm 109 9,zx 110 103 [.t 109],zo 111 (.build [.bool false,zI 0,zI 0,zI 0] [(0,1,.c (.bool false)),(1,3,.t 110)]),zp (.store 4 (.t 6) (.t 111))] .ret))))),[.cell true 4 6]⟩
theorem Pe:cN Tryz.prog 122=some Qj:=by kernel_rfl
def c49:bY:=⟨8,zq [zo 2 (.box (.t 0)),zo 3 (.box (.t 1)),zo 4 (.new [zI 0,zI 0,zI 0])] (zq [zt 5 3 2,zt 6 3 3,zx 7 87 [.t 5,.t 6,.f 88],zp (.store 3 (.t 4) (.t 7))] .ret),[.cell true 3 4]⟩
theorem Rm:cN Tryz.prog 49=some c49:=by kernel_rfl
def c87:bY:=⟨26,zq [zo 3 (.box (.t 0)),zo 4 (.box (.t 1)),zo 6 (.new [zI 0,zI 0,zI 0])] (.seq (.draw [zm 7 2,zf 8 0 3,zl 9 8,zf 10 0 4,zl 11 10,zo 12 (.callv (.t 7) [.t 9,.t 11]),zm 13 2,zf 14 1 3,zl 15 14,zf 16 1 4,zl 17 16,zo 18 (.callv (.t 13) [.t 15,.t 17]),zm 19 2,zf 20 2 3,zl 21 20,zf 22 2 4,zl 23 22,zo 24 (.callv (.t 19) [.t 21,.t 23]),zo 25 (.build [zI 0,zI 0,zI 0] [(0,1,.t 12),(1,1,.t 18),(2,1,.t 24)]),zp (.store 3 (.t 6) (.t 25))] [[],[],[],[],[],[],[],[],[5],[],[5],[],[],[],[5,11],[],[5,11],[],[],[]]) .ret),[.cell true 3 6]⟩
theorem QV:cN Tryz.prog 87=some c87:=by kernel_rfl
def OO:bY:=⟨26,zq [zo 4 (.mv (zi 0))] (.seq (.block 0 (zq [zm 6 1,zk 7 .gtr 6 0,zm 8 7,zg 9 (.mv (.t 0)) 8 true,zg 10 (.mv (.t 1)) 8 true,zg 11 (.bin .sub (zi 9223372036854775807) (.t 10)) 8 true,zg 12 (.bin .gtr (.t 9) (.t 11)) 8 true,zo 13 (.pick (.t 8) (.t 12) (.c (.bool false))),zm 5 13] (.cond (.t 5) (zq [zo 4 (.mv (zi 9223372036854775807))] .ret) (zq [zm 15 1,zk 16 .lss 15 0,zm 17 16,zg 18 (.mv (.t 0)) 17 true,zg 19 (.mv (.t 1)) 17 true,zg 20 (.bin .sub (.c (.int .i64 (.negSucc 9223372036854775807))) (.t 19)) 17 true,zg 21 (.bin .lss (.t 18) (.t 20)) 17 true,zo 22 (.pick (.t 17) (.t 21) (.c (.bool false))),zm 14 22] (.cond (.t 14) (zq [zo 4 (.mv (.c (.int .i64 (.negSucc 9223372036854775807))))] .ret) .skip))))) (zq [zm 23 0,zm 24 1,zb 25 .add 23 24,zm 4 25] .ret)),[.t 4]⟩
theorem QU:cN Tryz.prog 88=some OO:=by kernel_rfl
def c50:bY:=⟨8,zq [zo 2 (.box (.t 0)),zo 3 (.box (.t 1)),zo 4 (.new [zI 0,zI 0,zI 0])] (zq [zt 5 3 2,zt 6 3 3,zx 7 87 [.t 5,.t 6,.f 89],zp (.store 3 (.t 4) (.t 7))] .ret),[.cell true 3 4]⟩
theorem Rl:cN Tryz.prog 50=some c50:=by kernel_rfl
def c51:bY:=⟨8,zq [zo 2 (.box (.t 0)),zo 3 (.box (.t 1)),zo 4 (.new [zI 0,zI 0,zI 0])] (zq [zt 5 3 3,zo 6 (.mkFunc (.func 91) [] [.t 2]),zx 7 90 [.t 5,.t 6],zp (.store 3 (.t 4) (.t 7))] .ret),[.cell true 3 4]⟩
theorem Rk:cN Tryz.prog 51=some c51:=by kernel_rfl
def c91:bY:=⟨7,zq [zo 3 (.mv (zi 0))] (zq [zm 4 0,zl 5 1,zx 6 92 [.t 4,.t 5],zm 3 6] .ret),[.t 3]⟩
theorem QR:cN Tryz.prog 91=some c91:=by kernel_rfl
def c92:bY:=⟨31,zq [zo 4 (.mv (zi 0))] (zq [zm 8 0,zm 9 1,zx 10 130 [.t 8,.t 9],zm 5 10] (zq [zm 12 0,zx 13 132 [.t 12],zm 14 1,zx 15 132 [.t 14],zx 16 131 [.t 13,.t 15],zm 11 16,ze 17 0 11,ze 18 1 11,zm 6 17,zm 7 18] (zq [zm 19 5,zm 20 6,zo 21 (.bin .shr (.t 20) (.c (.int .u64 (.ofNat 32)))),zm 22 6,zo 23 (.bin .shl (.t 22) (.c (.int .u64 (.ofNat 32)))),zm 24 7,zo 25 (.bin .shr (.t 24) (.c (.int .u64 (.ofNat 32)))),zb 26 .or 23 25,zm 27 7,zo 28 (.bin .shl (.t 27) (.c (.int .u64 (.ofNat 32)))),zo 29 (.bin .neq (.t 28) (.c (.int .u64 (.ofNat 0)))),zo 30 (.callv (.t 19) [.t 21,.t 26,.t 29]),zm 4 30] .ret))),[.t 4]⟩
theorem QQ:cN Tryz.prog 92=some c92:=by kernel_rfl
def Qf:bY:=⟨10,zq [zo 4 (.mv (.c .nilFunc))] (zr [zm 5 0,zk 6 .lss 5 0,zm 7 1,zk 8 .lss 7 0,zo 9 (.pf (.eqv false .bool) [.t 6,.t 8])] 9 (zq [zo 4 (.mv (.f 146))] .ret) .skip (zq [zo 4 (.mv (.f 147))] .ret)),[.t 4]⟩
theorem O9:cN Tryz.prog 130=some Qf:=by kernel_rfl
def P9:bY:=⟨15,zq [zo 6 (.mv (zi 0))] (zr [zm 7 0,zo 8 (.bin .neq (.t 7) (.c (.int .u64 (.ofNat 0)))),zm 9 8,zg 10 (.mv (.t 1)) 9 false,zg 11 (.bin .gtr (.t 10) (.c (.int .u64 (.ofNat 9223372036854775807)))) 9 false,zo 12 (.pick (.t 9) (.c (.bool true)) (.t 11))] 12 (zq [zo 6 (.mv (zi 9223372036854775807))] .ret) .skip (zq [zm 13 1,zv 14 .i64 13,zm 6 14] .ret)),[.t 6]⟩
theorem OZ:cN Tryz.prog 146=some P9:=by kernel_rfl
def Qd:bY:=⟨10,zq [zo 2 (.mv (.c (.int .u64 (.ofNat 0))))] (zr [zm 3 0,zk 4 .lss 3 0] 4 (zq [zm 5 0,zv 6 .u64 5,zo 7 (.un .neg (.t 6)),zm 2 7] .ret) .skip (zq [zm 8 0,zv 9 .u64 8,zm 2 9] .ret)),[.t 2]⟩
theorem O7:cN Tryz.prog 132=some Qd:=by kernel_rfl
def Qe:bY:=⟨51,zq [zo 4 (.mv (.c (.int .u64 (.ofNat 0)))),zo 5 (.mv (.c (.int .u64 (.ofNat 0))))] (zq [zm 14 0,zo 15 (.bin .and (.t 14) (.c (.int .u64 (.ofNat 4294967295)))),zm 6 15] (zq [zm 16 0,zo 17 (.bin .shr (.t 16) (.c (.int .u64 (.ofNat 32)))),zm 7 17] (zq [zm 18 1,zo 19 (.bin .and (.t 18) (.c (.int .u64 (.ofNat 4294967295)))),zm 8 19] (zq [zm 20 1,zo 21 (.bin .shr (.t 20) (.c (.int .u64 (.ofNat 32)))),zm 9 21] (zq [zm 22 6,zm 23 8,zb 24 .mul 22 23,zm 10 24] (zq [zm 25 7,zm 26 8,zb 27 .mul 25 26,zm 28 10,zo 29 (.bin .shr (.t 28) (.c (.int .u64 (.ofNat 32)))),zb 30 .add 27 29,zm 11 30] (zq [zm 31 11,zo 32 (.bin .and (.t 31) (.c (.int .u64 (.ofNat 4294967295)))),zm 12 32] (zq [zm 33 11,zo 34 (.bin .shr (.t 33) (.c (.int .u64 (.ofNat 32)))),zm 13 34] (zq [zm 35 12,zm 36 6,zm 37 9,zb 38 .mul 36 37,zb 39 .add 35 38,zm 12 39] (zq [zm 40 7,zm 41 9,zb 42 .mul 40 41,zm 43 13,zb 44 .add 42 43,zm 45 12,zo 46 (.bin .shr (.t 45) (.c (.int .u64 (.ofNat 32)))),zb 47 .add 44 46,zm 4 47] (zq [zm 48 0,zm 49 1,zb 50 .mul 48 49,zm 5 50] .ret))))))))))),[.t 4,.t 5]⟩
theorem O8:cN Tryz.prog 131=some Qe:=by kernel_rfl
def c52:bY:=⟨8,zq [zo 2 (.box (.t 0)),zo 3 (.box (.t 1)),zo 4 (.new [zI 0,zI 0,zI 0])] (zq [zt 5 3 2,zo 6 (.mkFunc (.func 93) [] [.t 3]),zx 7 90 [.t 5,.t 6],zp (.store 3 (.t 4) (.t 7))] .ret),[.cell true 3 4]⟩
theorem Rj:cN Tryz.prog 52=some c52:=by kernel_rfl
def c93:bY:=⟨7,zq [zo 3 (.mv (zi 0))] (zq [zm 4 0,zl 5 1,zx 6 94 [.t 4,.t 5],zm 3 6] .ret),[.t 3]⟩
theorem QP:cN Tryz.prog 93=some c93:=by kernel_rfl
def c94:bY:=⟨46,zq [zo 4 (.mv (zi 0))] (zr [zm 11 1,zk 12 .eql 11 0] 12 (.seq (.block 0 (zq [zm 14 0,zk 15 .gtr 14 0,zm 13 15] (.cond (.t 13) (zq [zo 4 (.mv (zi 9223372036854775807))] .ret) (zq [zm 17 0,zk 18 .lss 17 0,zm 16 18] (.cond (.t 16) (zq [zo 4 (.mv (.c (.int .i64 (.negSucc 9223372036854775807))))] .ret) .skip))))) (zq [zo 4 (.mv (zi 0))] .ret)) .skip (zq [zm 19 0,zm 20 1,zx 21 130 [.t 19,.t 20],zm 5 21] (zq [zm 22 0,zx 23 132 [.t 22],zm 24 1,zx 25 132 [.t 24],zm 6 23,zm 7 25] (zq [zm 26 6,zo 27 (.bin .shr (.t 26) (.c (.int .u64 (.ofNat 32)))),zm 8 27] (zq [zm 29 8,zm 30 7,zb 31 .rem 29 30,zm 32 6,zo 33 (.bin .shl (.t 32) (.c (.int .u64 (.ofNat 32)))),zm 34 7,zx 35 133 [.t 31,.t 33,.t 34],zm 28 35,ze 36 0 28,ze 37 1 28,zm 9 36,zm 10 37] (zq [zm 38 5,zm 39 8,zm 40 7,zb 41 .quo 39 40,zm 42 9,zm 43 10,zo 44 (.bin .neq (.t 43) (.c (.int .u64 (.ofNat 0)))),zo 45 (.callv (.t 38) [.t 41,.t 42,.t 44]),zm 4 45] .ret)))))),[.t 4]⟩
theorem QO:cN Tryz.prog 94=some c94:=by kernel_rfl
def LA:bY:=⟨135,zq [zo 6 (.mv (.c (.int .u64 (.ofNat 0)))),zo 7 (.mv (.c (.int .u64 (.ofNat 0))))] (zr [zm 19 2,zo 20 (.bin .eql (.t 19) (.c (.int .u64 (.ofNat 0))))] 20 (.reg [zo 21 (.hf (.gLd 1 false 1) []),zp .bad]) .skip (zr [zm 22 2,zm 23 0,zb 24 .leq 22 23] 24 (.reg [zo 25 (.hf (.gLd 2 false 1) []),zp .bad]) .skip (zr [zm 26 0,zo 27 (.bin .eql (.t 26) (.c (.int .u64 (.ofNat 0))))] 27 (zq [zm 28 1,zm 29 2,zb 30 .quo 28 29,zm 31 1,zm 32 2,zb 33 .rem 31 32,zm 6 30,zm 7 33] .ret) .skip (zq [zm 34 2,zx 35 148 [.t 34],zv 36 .u64 35,zm 8 36] (zq [zm 37 2,zm 38 8,zb 39 .shl 37 38,zm 2 39] (zq [zm 40 2,zo 41 (.bin .shr (.t 40) (.c (.int .u64 (.ofNat 32)))),zm 9 41] (zq [zm 42 2,zo 43 (.bin .and (.t 42) (.c (.int .u64 (.ofNat 4294967295)))),zm 10 43] (zq [zm 44 0,zm 45 8,zb 46 .shl 44 45,zm 47 1,zm 48 8,zo 49 (.bin .sub (.c (.int .u64 (.ofNat 64))) (.t 48)),zb 50 .shr 47 49,zb 51 .or 46 50,zm 11 51] (zq [zm 52 1,zm 53 8,zb 54 .shl 52 53,zm 12 54] (zq [zm 55 12,zo 56 (.bin .shr (.t 55) (.c (.int .u64 (.ofNat 32)))),zm 13 56] (zq [zm 57 12,zo 58 (.bin .and (.t 57) (.c (.int .u64 (.ofNat 4294967295)))),zm 14 58] (zq [zm 59 11,zm 60 9,zb 61 .quo 59 60,zm 15 61] (zq [zm 62 11,zm 63 15,zm 64 9,zb 65 .mul 63 64,zb 66 .sub 62 65,zm 16 66] (.seq (.block 0 (.loop (zr [zm 67 15,zo 68 (.bin .geq (.t 67) (.c (.int .u64 (.ofNat 4294967296)))),zm 69 68,zg 70 (.mv (.t 15)) 69 false,zg 71 (.mv (.t 10)) 69 false,zg 72 (.bin .mul (.t 70) (.t 71)) 69 false,zg 73 (.mv (.t 16)) 69 false,zg 74 (.bin .mul (.c (.int .u64 (.ofNat 4294967296))) (.t 73)) 69 false,zg 75 (.mv (.t 13)) 69 false,zg 76 (.bin .add (.t 74) (.t 75)) 69 false,zg 77 (.bin .gtr (.t 72) (.t 76)) 69 false,zo 78 (.pick (.t 69) (.c (.bool true)) (.t 77))] 78 .skip (.exit 0) (.block 1 (zq [zm 79 15,zo 80 (.bin .sub (.t 79) (.c (.int .u64 (.ofNat 1)))),zm 15 80] (zq [zm 81 16,zm 82 9,zb 83 .add 81 82,zm 16 83] (zq [zm 84 16,zo 85 (.bin .geq (.t 84) (.c (.int .u64 (.ofNat 4294967296))))] (.cond (.t 85) (.exit 0) .skip)))))))) (zq [zm 86 11,zo 87 (.bin .mul (.t 86) (.c (.int .u64 (.ofNat 4294967296)))),zm 88 13,zb 89 .add 87 88,zm 90 15,zm 91 2,zb 92 .mul 90 91,zb 93 .sub 89 92,zm 17 93] (zq [zm 94 17,zm 95 9,zb 96 .quo 94 95,zm 18 96] (zq [zm 97 17,zm 98 18,zm 99 9,zb 100 .mul 98 99,zb 101 .sub 97 100,zm 16 101] (.seq (.block 2 (.loop (zr [zm 102 18,zo 103 (.bin .geq (.t 102) (.c (.int .u64 (.ofNat 4294967296)))),zm 104 103,zg 105 (.mv (.t 18)) 104 false,zg 106 (.mv (.t 10)) 104 false,zg 107 (.bin .mul (.t 105) (.t 106)) 104 false,zg 108 (.mv (.t 16)) 104 false,zg 109 (.bin .mul (.c (.int .u64 (.ofNat 4294967296))) (.t 108)) 104 false,zg 110 (.mv (.t 14)) 104 false,zg 111 (.bin .add (.t 109) (.t 110)) 104 false,zg 112 (.bin .gtr (.t 107) (.t 111)) 104 false,zo 113 (.pick (.t 104) (.c (.bool true)) (.t 112))] 113 .skip (.exit 2) (.block 3 (zq [zm 114 18,zo 115 (.bin .sub (.t 114) (.c (.int .u64 (.ofNat 1)))),zm 18 115] (zq [zm 116 16,zm 117 9,zb 118 .add 116 117,zm 16 118] (zq [zm 119 16,zo 120 (.bin .geq (.t 119) (.c (.int .u64 (.ofNat 4294967296))))] (.cond (.t 120) (.exit 2) .skip)))))))) (zq [zm 121 15,zo 122 (.bin .mul (.t 121) (.c (.int .u64 (.ofNat 4294967296)))),zm 123 18,zb 124 .add 122 123,zm 125 17,zo 126 (.bin .mul (.t 125) (.c (.int .u64 (.ofNat 4294967296)))),zm 127 14,zb 128 .add 126 127,zm 129 18,zm 130 2,zb 131 .mul 129 130,zb 132 .sub 128 131,zm 133 8,zb 134 .shr 132 133,zm 6 124,zm 7 134] .ret))))))))))))))))))),[.t 6,.t 7]⟩
theorem LZ:cN Tryz.prog 133=some LA:=by kernel_rfl
def P8:bY:=⟨6,zq [zo 2 (.mv (zi 0))] (zq [zm 3 0,zx 4 155 [.t 3],zo 5 (.bin .sub (zi 64) (.t 4)),zm 2 5] .ret),[.t 2]⟩
theorem OY:cN Tryz.prog 148=some P8:=by kernel_rfl
def P7:bY:=⟨25,zq [zo 2 (.mv (zi 0))] (zr [zm 3 0,zo 4 (.bin .geq (.t 3) (.c (.int .u64 (.ofNat 4294967296))))] 4 (zq [zm 5 0,zo 6 (.bin .shr (.t 5) (.c (.int .u64 (.ofNat 32)))),zm 0 6] (.reg [zo 2 (.mv (zi 32))])) .skip (zr [zm 7 0,zo 8 (.bin .geq (.t 7) (.c (.int .u64 (.ofNat 65536))))] 8 (zq [zm 9 0,zo 10 (.bin .shr (.t 9) (.c (.int .u64 (.ofNat 16)))),zm 0 10] (.reg [zm 11 2,zk 12 .add 11 16,zm 2 12])) .skip (zr [zm 13 0,zo 14 (.bin .geq (.t 13) (.c (.int .u64 (.ofNat 256))))] 14 (zq [zm 15 0,zo 16 (.bin .shr (.t 15) (.c (.int .u64 (.ofNat 8)))),zm 0 16] (.reg [zm 17 2,zk 18 .add 17 8,zm 2 18])) .skip (zq [zm 19 2,zm 20 0,zv 21 .u8 20,zo 22 (.idxS (.c (.str [0,1,2,2,3,3,3,3,4,4,4,4,4,4,4,4,5,5,5,5,5,5,5,5,5,5,5,5,5,5,5,5,6,6,6,6,6,6,6,6,6,6,6,6,6,6,6,6,6,6,6,6,6,6,6,6,6,6,6,6,6,6,6,6,7,7,7,7,7,7,7,7,7,7,7,7,7,7,7,7,7,7,7,7,7,7,7,7,7,7,7,7,7,7,7,7,7,7,7,7,7,7,7,7,7,7,7,7,7,7,7,7,7,7,7,7,7,7,7,7,7,7,7,7,7,7,7,7,8,8,8,8,8,8,8,8,8,8,8,8,8,8,8,8,8,8,8,8,8,8,8,8,8,8,8,8,8,8,8,8,8,8,8,8,8,8,8,8,8,8,8,8,8,8,8,8,8,8,8,8,8,8,8,8,8,8,8,8,8,8,8,8,8,8,8,8,8,8,8,8,8,8,8,8,8,8,8,8,8,8,8,8,8,8,8,8,8,8,8,8,8,8,8,8,8,8,8,8,8,8,8,8,8,8,8,8,8,8,8,8,8,8,8,8,8,8,8,8,8,8,8,8,8,8,8,8])) (.t 21)),zv 23 .i64 22,zb 24 .add 19 23,zm 2 24] .ret)))),[.t 2]⟩
theorem OW:cN Tryz.prog 155=some P7:=by kernel_rfl
def Qi:bY:=⟨78,zq [zo 7 (.box (.t 2)),zo 8 (.box (.t 3)),zo 9 (.box (.t 4)),zo 10 (.new [.bool false,zI 0,zI 0,zI 0])] (.seq (zq [zm 11 1] (.block 0 (zq [zo 13 (.bin .eql (.t 11) (.c (.str [118,101,99]))),zm 12 13] (.cond (.t 12) (zq [zf 14 0 7,zl 15 14,zf 16 0 8,zl 17 16,zf 18 0 9,zl 19 18,zo 20 (.build [zI 0,zI 0,zI 0] [(0,1,.t 15),(1,1,.t 17),(2,1,.t 19)]),zo 21 (.build [.bool false,zI 0,zI 0,zI 0] [(0,1,.c (.bool true)),(1,3,.t 20)]),zp (.store 4 (.t 10) (.t 21))] .ret) (zq [zo 23 (.bin .eql (.t 11) (.c (.str [120]))),zm 22 23] (.cond (.t 22) (zq [zf 24 0 7,zl 25 24,zx 26 19 [.t 25],zo 27 (.build [.bool false,zI 0,zI 0,zI 0] [(0,1,.c (.bool false)),(1,3,.t 26)]),zp (.store 4 (.t 10) (.t 27))] .ret) (zq [zo 29 (.bin .eql (.t 11) (.c (.str [121]))),zm 28 29] (.cond (.t 28) (zq [zf 30 1 7,zl 31 30,zx 32 19 [.t 31],zo 33 (.build [.bool false,zI 0,zI 0,zI 0] [(0,1,.c (.bool false)),(1,3,.t 32)]),zp (.store 4 (.t 10) (.t 33))] .ret) (zq [zo 35 (.bin .eql (.t 11) (.c (.str [122]))),zm 34 35] (.cond (.t 34) (zq [zf 36 2 7,zl 37 36,zx 38 19 [.t 37],zo 39 (.build [.bool false,zI 0,zI 0,zI 0] [(0,1,.c (.bool false)),(1,3,.t 38)]),zp (.store 4 (.t 10) (.t 39))] .ret) (zq [zo 41 (.bin .eql (.t 11) (.c (.str [100,111,116]))),zm 40 41] (.cond (.t 40) (zq [zt 42 3 7,zt 43 3 8,zx 44 54 [.t 42,.t 43],zx 45 19 [.t 44],zo 46 (.build [.bool false,zI 0,zI 0,zI 0] [(0,1,.c (.bool false)),(1,3,.t 45)]),zp (.store 4 (.t 10) (.t 46))] .ret) (zq [zo 48 (.bin .eql (.t 11) (.c (.str [99,114,111,115,115]))),zm 47 48] (.cond (.t 47) (zq [zt 49 3 7,zt 50 3 8,zx 51 55 [.t 49,.t 50],zo 52 (.build [.bool false,zI 0,zI 0,zI 0] [(0,1,.c (.bool true)),(1,3,.t 51)]),zp (.store 4 (.t 10) (.t 52))] .ret) (zq [zo 54 (.bin .eql (.t 11) (.c (.str [117,110,105,116]))),zm 53 54] (.cond (.t 53) (zq [zt 55 3 7,zx 56 56 [.t 55],zo 57 (.build [.bool false,zI 0,zI 0,zI 0] [(0,1,.c (.bool true)),(1,3,.t 56)]),zp (.store 4 (.t 10) (.t 57))] .ret) (zq [zo 59 (.bin .eql (.t 11) (.c (.str [115,97,109,112,108,101]))),zm 58 59] (.cond (.t 58) (zq [zm 60 0,zc 61 60,zf 62 1 61,zt 63 3 62,zf 64 0 7,zl 65 64,zf 66 0 8,zl 67 66,zx 68 57 [.t 63,.t 65,.t 67],zo 69 (.build [.bool false,zI 0,zI 0,zI 0] [(0,1,.c (.bool true)),(1,3,.t 68)]),zp (.store 4 (.t 10) (.t 69))] .ret) .skip)))))))))))))))))) (.seq (.draw [zm 70 1,zx 71 139 [.t 70],zf 72 0 7,zl 73 72,zf 74 0 8,zl 75 74,zx 76 58 [.t 71,.t 73,.t 75],zo 77 (.build [.bool false,zI 0,zI 0,zI 0] [(0,1,.c (.bool false)),(1,3,.t 76)]),zp (.store 4 (.t 10) (.t 77))] [[],[],[],[1],[],[1],[],[],[]]) .ret)),[.cell true 4 10]⟩
theorem Pd:cN Tryz.prog 123=some Qi:=by kernel_rfl
def Sl:bY:=⟨13,zq [zo 2 (.mv (.c (.bool false)))] (zq [zm 3 0,zc 4 3,zf 5 6 4,zl 6 5,zm 7 6,zg 8 (.mv (.t 0)) 7 false,zg 9 (.nilChk (.t 8)) 7 false,zg 10 (.fieldA 7 (.t 9)) 7 false,zg 11 (.load false 1 (.t 10)) 7 false,zo 12 (.pick (.t 7) (.c (.bool true)) (.t 11)),zm 2 12] .ret),[.t 2]⟩
theorem Rn:cN Tryz.prog 45=some Sl:=by kernel_rfl
end
open Go.Abs Go.Abs.S
theorem dx{T:cD}{H:ae}(g:Bool)(n i:Nat)(K:aa->ae->Prop):eD [.cell g n i] K .ret T H=dh (au g n H (T i)) fun v=>K v H:=by
 rw[oP]
 simp only[kF]
 cases au g n H (T i) with
 | none=>simp[dh]
 | some v=>simp only[aD]; rfl
def iB(z:Int):Prop:=-9223372036854775808<=z/\z<=9223372036854775807
abbrev v3(x y z:Int):List aa:=[.int .i64 x,.int .i64 y,.int .i64 z]
abbrev iX(v:Vl):List aa:=[.bool v.vec,.int .i64 v.x,.int .i64 v.y,.int .i64 v.z]
structure rq(v:Vl):Prop where
 x:iB v.x
 y:iB v.y
 z:iB v.z
theorem ij{n:Int}{H:ae}:az Tryz.prog aH 19 [.int .i64 n] H fun u H'=>u=.agg (v3 n 0 0)/\cZ H.next H H':=by
 obtain⟨H1,m1,r1,n1,k1⟩:=aw H (v3 0 0 0) (n:=3) rfl
 obtain⟨H2,m2,r2,n2,k2⟩:=ak r1 (n:=3) rfl (xs:=v3 n 0 0) rfl rfl
 have bl:aL [.int .i64 0,.int .i64 0,.int .i64 0] [(0,1,.int .i64 n)]=some (.agg (v3 n 0 0)):=rfl
 have ld:=aA r2 (n:=3) rfl
 refine aj rfl RH rfl ?_
 unfold v3 at m1 m2 bl ld ⊢
 simp only[c19,sA,sB,seval,m1,bl,m2,dx,aD,ld]
 exact⟨tt,⟨om,fun c hc=>by rw[k2 c om,k1 c om]⟩⟩
theorem qA{b:Bool}{H:ae}:az Tryz.prog aH 103 [.bool b] H fun u H'=>u=.agg (v3 (if b then jK else 0) 0 0)/\cZ H.next H H':=by
 obtain⟨H1,m1,r1,n1,k1⟩:=aw H (v3 0 0 0) (n:=3) rfl
 have E1:cZ H.next H H1:=⟨om,fun c hc=>k1 c om⟩
 refine aj rfl Pp rfl ?_
 cases b with
 | true=>
  unfold v3 at m1 ⊢
  simp only[Og,sA,sB,seval,m1]
  refine ij.mono ?_
  rintro _ H2 ⟨rfl,E2⟩
  obtain⟨H3,m3,r3,n3,k3⟩:=ak (r1.same (E2.old _ om)) (n:=3) rfl (xs:=v3 4294967296 0 0) rfl rfl
  have ld:=aA r3 (n:=3) rfl
  unfold v3 at m3 ld
  simp only[sA,sB,seval,m3,dx,aD,ld]
  exact⟨tt,⟨by have:=E2.next; omega,fun c hc=>by rw[k3 c om,E2.old c om,k1 c om]⟩⟩
 | false=>
  obtain⟨H2,m2,r2,n2,k2⟩:=ak r1 (n:=3) rfl (xs:=v3 0 0 0) rfl rfl
  have bl:aL [.int .i64 0,.int .i64 0,.int .i64 0] []=some (.agg (v3 0 0 0)):=rfl
  have ld:=aA r2 (n:=3) rfl
  unfold v3 at m1 m2 bl ld ⊢
  simp only[Og,sA,sB,seval,m1,bl,m2,dx,aD,ld]
  exact⟨tt,⟨om,fun c hc=>by rw[k2 c om,k1 c om]⟩⟩
theorem Et{a b:Int}(ha:iB a)(hb:iB b){H:ae}:az Tryz.prog aH 88 [.int .i64 a,.int .i64 b] H fun u H'=>u=.int .i64 (iZ a b)/\H=H':=by
 obtain⟨a1,a2⟩:=ha
 obtain⟨b1,b2⟩:=hb
 refine aj rfl QU rfl ?_
 unfold iZ most kA
 by_cases h1:0<b
 ·have w1:IntKind.i64.wrap (9223372036854775807-b)=9223372036854775807-b:=kJ
  have h3:¬b<0:=om
  by_cases h2:9223372036854775807-b<a
  ·simp only[OO,sA,sB,seval,h1,w1,h2]
   simp
  ·have w2:IntKind.i64.wrap (a+b)=a+b:=kJ
   simp only[OO,sA,sB,seval,h1,w1,h2,h3,w2]
   simp
 ·by_cases h3:b<0
  ·have w1:IntKind.i64.wrap (-9223372036854775808-b)=-9223372036854775808-b:=kJ
   by_cases h2:a < -9223372036854775808-b
   ·simp only[OO,sA,sB,seval,h1,h3,w1,h2]
    simp
   ·have w2:IntKind.i64.wrap (a+b)=a+b:=kJ
    simp only[OO,sA,sB,seval,h1,w1,h2,h3,w2]
    simp
  ·have w2:IntKind.i64.wrap (a+b)=a+b:=kJ
   simp only[OO,sA,sB,seval,h1,h3,w2]
   simp
theorem En{a b:Int}(ha:iB a)(hb:iB b){H:ae}:az Tryz.prog aH 89 [.int .i64 a,.int .i64 b] H fun u H'=>u=.int .i64 (jD a b)/\H=H':=by
 obtain⟨a1,a2⟩:=ha
 obtain⟨b1,b2⟩:=hb
 refine aj rfl QT rfl ?_
 unfold jD most kA
 by_cases h1:b<0
 ·have w1:IntKind.i64.wrap (9223372036854775807+b)=9223372036854775807+b:=kJ
  have h3:¬0<b:=om
  by_cases h2:9223372036854775807+b<a
  ·simp only[ON,sA,sB,seval,h1,w1,h2]
   simp
  ·have w2:IntKind.i64.wrap (a-b)=a-b:=kJ
   simp only[ON,sA,sB,seval,h1,w1,h2,h3,w2]
   simp
 ·by_cases h3:0<b
  ·have w1:IntKind.i64.wrap (-9223372036854775808+b)=-9223372036854775808+b:=kJ
   by_cases h2:a < -9223372036854775808+b
   ·simp only[ON,sA,sB,seval,h1,h3,w1,h2]
    simp
   ·have w2:IntKind.i64.wrap (a-b)=a-b:=kJ
    simp only[ON,sA,sB,seval,h1,w1,h2,h3,w2]
    simp
  ·have w2:IntKind.i64.wrap (a-b)=a-b:=kJ
   simp only[ON,sA,sB,seval,h1,h3,w2]
   simp
theorem yf{a b:Int}(ha:iB a)(hb:iB b):iB (iZ a b):=by
 obtain⟨a1,a2⟩:=ha
 obtain⟨b1,b2⟩:=hb
 unfold iZ most kA iB
 split
 ·omega
 ·split <;> omega
theorem w9{a b:Int}(ha:iB a)(hb:iB b):iB (jD a b):=by
 obtain⟨a1,a2⟩:=ha
 obtain⟨b1,b2⟩:=hb
 unfold jD most kA iB
 split
 ·omega
 ·split <;> omega
open Go.Abs Go.Abs.S
theorem vV{H:ae}{b:Nat}{x y z:Int}(r:a6 H b (v3 x y z)):au false 1 H (af b 3 0)=some (.int .i64 x)/\au false 1 H (af b 3 1)=some (.int .i64 y)/\au false 1 H (af b 3 2)=some (.int .i64 z)/\au true 3 H (af b 3 0)=some (.agg (v3 x y z)):=
 ⟨am r rfl rfl,am r rfl rfl,am r rfl rfl,aA r rfl⟩
theorem Sr(x y z:Int):aL [.int .i64 0,.int .i64 0,.int .i64 0] [(0,1,.int .i64 x),(1,1,.int .i64 y),(2,1,.int .i64 z)]=some (.agg (v3 x y z)):=rfl
theorem sf{f:Nat}(hf:f<1024){F:Int->Int->Int}(hF:∀{a b:Int} {H:ae},iB a->iB b->az Tryz.prog aH f [.int .i64 a,.int .i64 b] H fun u H'=>u=.int .i64 (F a b)/\H=H')
  {a b c x y z:Int} (ha:iB a) (hb:iB b) (hc:iB c) (hx:iB x) (hy:iB y) (hz:iB z) {H:ae} :
  az Tryz.prog aH 87 [.agg (v3 a b c),.agg (v3 x y z),.func (.func f) [] []] H fun u H'=>u=.agg (v3 (F a x) (F b y) (F c z))/\cZ H.next H H':=by
 obtain⟨H1,m1,r1,n1,k1⟩:=aw H (v3 a b c) (n:=3) rfl
 obtain⟨H2,m2,r2,n2,k2⟩:=aw H1 (v3 x y z) (n:=3) rfl
 obtain⟨H3,m3,r3,n3,k3⟩:=aw H2 (v3 0 0 0) (n:=3) rfl
 obtain⟨p0,p1,p2,_⟩:=vV ((r1.same (k2 _ om)).same (k3 _ om))
 obtain⟨q0,q1,q2,_⟩:=vV (r2.same (k3 _ om))
 obtain⟨H4,m4,r4,n4,k4⟩:=ak r3 (n:=3) rfl (xs:=v3 (F a x) (F b y) (F c z)) rfl rfl
 obtain⟨_,_,_,w⟩:=vV r4
 refine aj rfl QV rfl ?_
 simp only[c87,sA,sB,seval,cB,m1,m2,m3]
 refine cI rfl ?_
 simp only[sR,sA,sB,seval,fld0,aZ,p0,q0,hf,List.nil_append,List.append_nil]
 refine (hF ha hx).mono ?_
 rintro _ _ ⟨rfl,rfl⟩
 simp only[sR,sA,sB,seval,fld0,aZ,p1,q1,hf,List.nil_append,List.append_nil]
 refine (hF hb hy).mono ?_
 rintro _ _ ⟨rfl,rfl⟩
 simp only[sR,sA,sB,seval,fld0,aZ,p2,q2,hf,List.nil_append,List.append_nil]
 refine (hF hc hz).mono ?_
 rintro _ _ ⟨rfl,rfl⟩
 simp only[sR,sA,sB,seval,Sr,m4]
 simp only[bG,bH,bg,bI,co,and_true,true_and,List.map_cons,List.map_nil,sA,sB,seval,dx,aD,w]
 refine⟨?_,⟨om,fun c hc=>by rw[k4 c om,k3 c om,k2 c om,k1 c om]⟩⟩
 and_intros <;> first | rfl | exact⟨_,rfl,fun _=>⟨_,by first | exact p1 | exact q1 | exact p2 | exact q2,dE _ _⟩⟩
theorem EC{a b c x y z:Int}(ha:iB a)(hb:iB b)(hc:iB c)(hx:iB x)(hy:iB y)(hz:iB z){H:ae} :
  az Tryz.prog aH 49 [.agg (v3 a b c),.agg (v3 x y z)] H fun u H'=>u=.agg (v3 (iZ a x) (iZ b y) (iZ c z))/\cZ H.next H H':=by
 obtain⟨H1,m1,r1,n1,k1⟩:=aw H (v3 a b c) (n:=3) rfl
 obtain⟨H2,m2,r2,n2,k2⟩:=aw H1 (v3 x y z) (n:=3) rfl
 obtain⟨H3,m3,r3,n3,k3⟩:=aw H2 (v3 0 0 0) (n:=3) rfl
 obtain⟨_,_,_,p⟩:=vV ((r1.same (k2 _ om)).same (k3 _ om))
 obtain⟨_,_,_,q⟩:=vV (r2.same (k3 _ om))
 refine aj rfl Rm rfl ?_
 simp only[c49,sA,sB,seval,cB,m1,m2,m3,p,q]
 refine (sf om (F:=iZ) (fun h k=>Et h k) ha hb hc hx hy hz).mono ?_
 rintro _ H4 ⟨rfl,E4⟩
 obtain⟨H5,m5,r5,n5,k5⟩:=ak (r3.same (E4.old _ om)) (n:=3) rfl (xs:=v3 (iZ a x) (iZ b y) (iZ c z)) rfl rfl
 obtain⟨_,_,_,w⟩:=vV r5
 simp only[sA,sB,seval,m5,dx,aD,w]
 exact⟨tt,⟨by have:=E4.next; omega,fun c hc=>by rw[k5 c om,E4.old c om,k3 c om,k2 c om,k1 c om]⟩⟩
theorem Ez{a b c x y z:Int}(ha:iB a)(hb:iB b)(hc:iB c)(hx:iB x)(hy:iB y)(hz:iB z){H:ae} :
  az Tryz.prog aH 50 [.agg (v3 a b c),.agg (v3 x y z)] H fun u H'=>u=.agg (v3 (jD a x) (jD b y) (jD c z))/\cZ H.next H H':=by
 obtain⟨H1,m1,r1,n1,k1⟩:=aw H (v3 a b c) (n:=3) rfl
 obtain⟨H2,m2,r2,n2,k2⟩:=aw H1 (v3 x y z) (n:=3) rfl
 obtain⟨H3,m3,r3,n3,k3⟩:=aw H2 (v3 0 0 0) (n:=3) rfl
 obtain⟨_,_,_,p⟩:=vV ((r1.same (k2 _ om)).same (k3 _ om))
 obtain⟨_,_,_,q⟩:=vV (r2.same (k3 _ om))
 refine aj rfl Rl rfl ?_
 simp only[c50,sA,sB,seval,cB,m1,m2,m3,p,q]
 refine (sf om (F:=jD) (fun h k=>En h k) ha hb hc hx hy hz).mono ?_
 rintro _ H4 ⟨rfl,E4⟩
 obtain⟨H5,m5,r5,n5,k5⟩:=ak (r3.same (E4.old _ om)) (n:=3) rfl (xs:=v3 (jD a x) (jD b y) (jD c z)) rfl rfl
 obtain⟨_,_,_,w⟩:=vV r5
 simp only[sA,sB,seval,m5,dx,aD,w]
 exact⟨tt,⟨by have:=E4.next; omega,fun c hc=>by rw[k5 c om,E4.old c om,k3 c om,k2 c om,k1 c om]⟩⟩
theorem sS{f:Nat}(hf:f<1024){cb:Nat}{n:Int}{x y z x' y' z':Int}{H:ae}(hcb:cb<H.next)
  (hF:∀{K:ae},K.get cb=H.get cb->az Tryz.prog aH f [.int .i64 x,af cb 1 0] K (fun u K'=>u=.int .i64 x'/\K=K')/\az Tryz.prog aH f [.int .i64 y,af cb 1 0] K (fun u K'=>u=.int .i64 y'/\K=K')/\az Tryz.prog aH f [.int .i64 z,af cb 1 0] K (fun u K'=>u=.int .i64 z'/\K=K')) :
  az Tryz.prog aH 90 [.agg (v3 x y z),.func (.func f) [] [af cb 1 0]] H fun u H'=>u=.agg (v3 x' y' z')/\cZ H.next H H':=by
 obtain⟨H1,m1,r1,n1,k1⟩:=aw H (v3 x y z) (n:=3) rfl
 obtain⟨H2,m2,r2,n2,k2⟩:=aw H1 (v3 0 0 0) (n:=3) rfl
 obtain⟨p0,p1,p2,_⟩:=vV (r1.same (k2 _ om))
 obtain⟨H3,m3,r3,n3,k3⟩:=ak r2 (n:=3) rfl (xs:=v3 x' y' z') rfl rfl
 obtain⟨_,_,_,w⟩:=vV r3
 obtain⟨f1,f2,f3⟩:=hF (K:=H2) (by rw[k2 _ om,k1 _ om])
 refine aj rfl QS rfl ?_
 simp only[c90,sA,sB,seval,cB,m1,m2]
 refine cI rfl ?_
 simp only[sR,sA,sB,seval,fld0,aZ,p0,hf,List.nil_append,List.append_nil,SX]
 refine f1.mono ?_
 rintro _ _ ⟨rfl,rfl⟩
 simp only[sR,sA,sB,seval,fld0,aZ,p1,hf,List.nil_append,List.append_nil,SX]
 refine f2.mono ?_
 rintro _ _ ⟨rfl,rfl⟩
 simp only[sR,sA,sB,seval,fld0,aZ,p2,hf,List.nil_append,List.append_nil,SX]
 refine f3.mono ?_
 rintro _ _ ⟨rfl,rfl⟩
 simp only[sR,sA,sB,seval,Sr,m3]
 simp only[bG,bH,bg,bI,co,and_true,true_and,List.map_cons,List.map_nil,sA,sB,seval,dx,aD,w]
 refine⟨?_,⟨om,fun c hc=>by rw[k3 c om,k2 c om,k1 c om]⟩⟩
 and_intros <;> first | rfl | exact⟨_,rfl,fun _=>⟨_,by first | exact p1 | exact p2,dE _ _⟩⟩
end Go.Proofs.Wo
namespace Go.Proofs.Tx
open Go.Abs Go.Abs.S
theorem qR{x:Nat}(h:x<18446744073709551616):bv .and (.int .u64 (x:Int)) (.int .u64 4294967295)=some (.int .u64 ((x % 4294967296:Nat):Int)):=by
 have:=BW (a:=x) (b:=4294967295) om om
 rw[show x &&& 4294967295=x % 4294967296 from Nat.and_two_pow_sub_one_eq_mod x 32]at this
 exact this
theorem ot(x:Nat):bv .shr (.int .u64 (x:Int)) (.int .u64 32)=some (.int .u64 ((x / 4294967296:Nat):Int)):=
 uL .u64 .u64 x (b:=32) dD
theorem Cy{x:Nat}(h:x<4294967296):bv .shl (.int .u64 (x:Int)) (.int .u64 32)=some (.int .u64 ((x*4294967296:Nat):Int)):=by
 rw[show (aa.int .u64 32)=.int .u64 ((32:Nat):Int) from rfl,pa]
 congr 2
 rw[show min 32 IntKind.u64.bits=32 from rfl,IntKind.wrap_u64]; omega
theorem pL(x:Nat):bv .shl (.int .u64 (x:Int)) (.int .u64 32)=some (.int .u64 ((x*4294967296 % 18446744073709551616:Nat):Int)):=by
 rw[show (aa.int .u64 32)=.int .u64 ((32:Nat):Int) from rfl,pa]
 refine congrArg (fun z=>some (aa.int .u64 z)) ?_
 rw[show min 32 IntKind.u64.bits=32 from rfl,IntKind.wrap_u64]; omega
theorem ishl32{x:Int}(h1:-2147483648<=x)(h2:x<=2147483647):bv .shl (.int .i64 x) (.int .u64 32)=some (.int .i64 (x*4294967296)):=by
 rw[show (aa.int .u64 32)=.int .u64 ((32:Nat):Int) from rfl,pa]
 congr 2
 rw[show min 32 IntKind.i64.bits=32 from rfl,IntKind.wrap_i64]; omega
theorem uw{a:Nat}(h:a<18446744073709551616):IntKind.u64.wrap (a:Int)=(a:Int):=rW (Int.natCast_nonneg _) om
theorem AM{a b:Nat}(h:a*b<18446744073709551616):IntKind.u64.wrap ((a:Int)*(b:Int))=((a*b:Nat):Int):=by
 rw[show (a:Int)*b=((a*b:Nat):Int) by simp]; exact uw h
theorem GC(a b:Nat):IntKind.u64.wrap ((a:Int)*(b:Int))=((a*b % 18446744073709551616:Nat):Int):=by
 rw[show (a:Int)*b=((a*b:Nat):Int) by simp,IntKind.wrap_u64]
 generalize a*b=c; omega
theorem AO{a b:Nat}(h:a+b<18446744073709551616):IntKind.u64.wrap ((a:Int)+(b:Int))=((a+b:Nat):Int):=by
 rw[show (a:Int)+b=((a+b:Nat):Int) by simp]; exact uw h
theorem Pq{a b:Nat}(h:b<=a)(ha:a<18446744073709551616):IntKind.u64.wrap ((a:Int)-(b:Int))=((a-b:Nat):Int):=by
 rw[show (a:Int)-b=((a-b:Nat):Int) by omega]; exact uw om
theorem CM{a b:Nat}(ha:a<18446744073709551616)(hb:b<18446744073709551616):bv .or (.int .u64 (a:Int)) (.int .u64 (b:Int))=some (.int .u64 ((a ||| b:Nat):Int)):=by
 have e:(BitVec.ofInt IntKind.u64.bits (a:Int) ||| BitVec.ofInt IntKind.u64.bits (b:Int)).toNat=a ||| b:=by
  rw[BitVec.toNat_or,iw,iw]
  have h1:a % 2 ^ IntKind.u64.bits=a:=Nat.mod_eq_of_lt (by simp only[IntKind.bits]; omega)
  have h2:b % 2 ^ IntKind.u64.bits=b:=Nat.mod_eq_of_lt (by simp only[IntKind.bits]; omega)
  rw[h1,h2]
 simp only[bv,cL,cond_false,if_true,dr,kI,e]
 have h3:a ||| b<2 ^ 64:=Nat.or_lt_two_pow om om
 rw[uw om]
theorem jL{a b:Nat}(ha:a<4294967296)(hb:b<4294967296):a*b<=18446744065119617025:=
 Nat.mul_le_mul (show a<=4294967295 by omega) (show b<=4294967295 by omega)
theorem Bu(x y:Nat):∃ac ad bc bd:Nat,ac=(x / 4294967296)*(y / 4294967296)/\ad=(x / 4294967296)*(y % 4294967296)/\bc=(x % 4294967296)*(y / 4294967296)/\bd=(x % 4294967296)*(y % 4294967296) /\
  x*y=ac*18446744073709551616+(ad+bc)*4294967296+bd:=by
 refine⟨_,_,_,_,rfl,rfl,rfl,rfl,?_⟩
 have hx:x=(x / 4294967296)*4294967296+x % 4294967296:=om
 have hy:y=(y / 4294967296)*4294967296+y % 4294967296:=om
 generalize x / 4294967296=a at *
 generalize x % 4294967296=b at *
 generalize y / 4294967296=c at *
 generalize y % 4294967296=d at *
 subst hx hy
 simp only[Nat.add_mul,Nat.mul_add]
 have e1:a*4294967296*(c*4294967296)=a*c*18446744073709551616:=by
  rw[Nat.mul_mul_mul_comm]
 have e2:a*4294967296*d=a*d*4294967296:=by rw[Nat.mul_right_comm]
 have e3:b*(c*4294967296)=b*c*4294967296:=by rw[Nat.mul_assoc]
 rw[e1,e2,e3]; omega
end Go.Proofs.Tx
namespace Go.Proofs.Wo
open Go.Abs Go.Abs.S
open Go.Abs Go.Abs.S
def Lg:Bs:=[0,1,2,2,3,3,3,3,4,4,4,4,4,4,4,4,5,5,5,5,5,5,5,5,5,5,5,5,5,5,5,5,6,6,6,6,6,6,6,6,6,6,6,6,6,6,6,6,6,6,6,6,6,6,6,6,6,6,6,6,6,6,6,6,7,7,7,7,7,7,7,7,7,7,7,7,7,7,7,7,7,7,7,7,7,7,7,7,7,7,7,7,7,7,7,7,7,7,7,7,7,7,7,7,7,7,7,7,7,7,7,7,7,7,7,7,7,7,7,7,7,7,7,7,7,7,7,7,8,8,8,8,8,8,8,8,8,8,8,8,8,8,8,8,8,8,8,8,8,8,8,8,8,8,8,8,8,8,8,8,8,8,8,8,8,8,8,8,8,8,8,8,8,8,8,8,8,8,8,8,8,8,8,8,8,8,8,8,8,8,8,8,8,8,8,8,8,8,8,8,8,8,8,8,8,8,8,8,8,8,8,8,8,8,8,8,8,8,8,8,8,8,8,8,8,8,8,8,8,8,8,8,8,8,8,8,8,8,8,8,8,8,8,8,8,8,8,8,8,8,8,8,8,8,8,8]
theorem Ih:Lg=[0,1,2,2,3,3,3,3,4,4,4,4,4,4,4,4,5,5,5,5,5,5,5,5,5,5,5,5,5,5,5,5,6,6,6,6,6,6,6,6,6,6,6,6,6,6,6,6,6,6,6,6,6,6,6,6,6,6,6,6,6,6,6,6,7,7,7,7,7,7,7,7,7,7,7,7,7,7,7,7,7,7,7,7,7,7,7,7,7,7,7,7,7,7,7,7,7,7,7,7,7,7,7,7,7,7,7,7,7,7,7,7,7,7,7,7,7,7,7,7,7,7,7,7,7,7,7,7,8,8,8,8,8,8,8,8,8,8,8,8,8,8,8,8,8,8,8,8,8,8,8,8,8,8,8,8,8,8,8,8,8,8,8,8,8,8,8,8,8,8,8,8,8,8,8,8,8,8,8,8,8,8,8,8,8,8,8,8,8,8,8,8,8,8,8,8,8,8,8,8,8,8,8,8,8,8,8,8,8,8,8,8,8,8,8,8,8,8,8,8,8,8,8,8,8,8,8,8,8,8,8,8,8,8,8,8,8,8,8,8,8,8,8,8,8,8,8,8,8,8,8,8,8,8,8,8]:=rfl
theorem jj{v:Nat}(h:v<256):∃l:UInt8,Lg[v]?=some l/\v<2 ^ l.toNat/\(0<v->2 ^ l.toNat<=2*v)/\l.toNat<=8:=by
 have:∀v,v<256->(match Lg[v]? with | some l=>decide (v<2 ^ l.toNat)&&(decide (v=0)||decide (2 ^ l.toNat<=2*v))&&decide (l.toNat<=8) | none=>false)=true:=of_decide_eq_true (by kernel_rfl)
 have:=this v h
 cases hl:Lg[v]? with
 | none=>rw[hl]at this; simp at this
 | some l=>
  rw[hl]at this
  simp only[SE,Bool.or_eq_true,SP]at this
  exact⟨l,rfl,this.1.1,fun h0=>by rcases this.1.2 with h | h; omega; exact h,this.2⟩
set_option maxRecDepth 100000 in
theorem Bo(h94:aH.is 155=false){u:Nat}(h0:0<u)(hu:u<18446744073709551616){H:ae} :
  az Tryz.prog aH 155 [.int .u64 (u:Int)] H fun v H'=>(∃L:Nat,v=.int .i64 (L:Int)/\u<2 ^ L/\2 ^ L<=2*u/\L<=64)/\H'=H:=by
 refine aj h94 OW rfl ?_
 simp only[P7,<- Ih]
 have key:∀(x:Nat) (s l:Nat),u / 2 ^ s=x->0<x->x<2 ^ l->2 ^ l<=2*x->s<=56->u<2 ^ (s+l)/\2 ^ (s+l)<=2*u:=by
  intro x s l hx hx0 h1 h2 hs
  have hp:0<2 ^ s:=Nat.pos_of_ne_zero (by simp)
  rw[Nat.pow_add]
  generalize 2 ^ s=p at *
  generalize 2 ^ l=q at *
  subst hx
  have h3:=Nat.div_mul_le_self u p
  have h4:=Nat.lt_div_mul_add hp (a:=u)
  constructor
  ·have:(u / p+1)*p<=q*p:=Nat.mul_le_mul_right _ h1
   rw[Nat.add_mul,Nat.one_mul]at this
   rw[Nat.mul_comm p q]
   omega
  ·calc p*q<=p*(2*(u / p)):=Nat.mul_le_mul_left _ h2
    _=2*(u / p*p):=by rw[Nat.mul_comm p,Nat.mul_assoc]
    _<=2*u:=om
 by_cases c0:4294967296<=u
 ·have n32:(4294967296:Int)<=(u:Int):=om
  have e32:=uL .u64 .u64 u (b:=32) dD
  simp only[Int.cast_ofNat_Int,Nat.reducePow]at e32
  have w0:IntKind.i64.wrap (0+32)=32:=by decide
  have hy:u / 4294967296<4294967296:=om
  have hyu:u / 2 ^ 32=u / 4294967296:=rfl
  have key':∀(x s:Nat) (l:Nat),u / 4294967296 / 2 ^ s=x->0<x->x<2 ^ l->2 ^ l<=2*x->s<=24->u<2 ^ (32+s+l)/\2 ^ (32+s+l)<=2*u:=fun x s l h a b c d=>key x (32+s) l (by rw[Nat.pow_add,<- Nat.div_div_eq_div_mul]; exact h) a b c om
  have hy0:0<u / 4294967296:=om
  generalize u / 4294967296=y at *
  have e16:=uL .u64 .u64 y (b:=16) dD
  simp only[Int.cast_ofNat_Int,Nat.reducePow]at e16
  by_cases c1:65536<=y
  ·have c1':(65536:Int)<=(y:Int):=om
   have e8:=uL .u64 .u64 (y / 65536) (b:=8) dD
   simp only[Int.cast_ofNat_Int,Nat.reducePow]at e8
   have w1:IntKind.i64.wrap (32+16)=48:=by decide
   by_cases c2:256<=y / 65536
   ·have c2':(256:Int)<=((y / 65536:Nat):Int):=om
    have w2:IntKind.i64.wrap (48+8)=56:=by decide
    obtain⟨l,l1,l2,l3,l4⟩:=jj (v:=y / 65536 / 256) om
    have w3:IntKind.u8.wrap ((y / 65536 / 256:Nat):Int)=((y / 65536 / 256:Nat):Int):=gt om om
    have w4:IntKind.i64.wrap (l.toNat:Int)=(l.toNat:Int):=dj om om
    have w5:IntKind.i64.wrap (56+(l.toNat:Int))=((56+l.toNat:Nat):Int):=by rw[dj om om]; omega
    simp only[sA,sB,Int.reduceNegSucc,reduceCtorEq,Nat.reduceEqDiff,↓reduceIte,Nat.reduceAdd,Int.reduceEq,Int.reduceLT,Int.reduceLE,Nat.reduceLT,n32,e32,w0,e16,c1',w1,c2',e8,w2,w3,db l1,w4,w5]
    obtain⟨k1,k2⟩:=key' (y / 65536 / 256) 24 l.toNat om om l2 (l3 om) om
    exact⟨⟨56+l.toNat,by trivial,k1,k2,om⟩,by trivial⟩
   ·have c2':¬(256:Int)<=((y / 65536:Nat):Int):=om
    obtain⟨l,l1,l2,l3,l4⟩:=jj (v:=y / 65536) om
    have w3:IntKind.u8.wrap ((y / 65536:Nat):Int)=((y / 65536:Nat):Int):=gt om om
    have w4:IntKind.i64.wrap (l.toNat:Int)=(l.toNat:Int):=dj om om
    have w5:IntKind.i64.wrap (48+(l.toNat:Int))=((48+l.toNat:Nat):Int):=by rw[dj om om]; omega
    simp only[sA,sB,Int.reduceNegSucc,reduceCtorEq,Nat.reduceEqDiff,↓reduceIte,Nat.reduceAdd,Int.reduceEq,Int.reduceLT,Int.reduceLE,Nat.reduceLT,n32,e32,w0,e16,c1',w1,c2',w3,db l1,w4,w5]
    obtain⟨k1,k2⟩:=key' (y / 65536) 16 l.toNat om om l2 (l3 om) om
    exact⟨⟨48+l.toNat,by trivial,k1,k2,om⟩,by trivial⟩
  ·have c1':¬(65536:Int)<=(y:Int):=om
   have e8:=uL .u64 .u64 y (b:=8) dD
   simp only[Int.cast_ofNat_Int,Nat.reducePow]at e8
   by_cases c2:256<=y
   ·have c2':(256:Int)<=(y:Int):=om
    have w2:IntKind.i64.wrap (32+8)=40:=by decide
    obtain⟨l,l1,l2,l3,l4⟩:=jj (v:=y / 256) om
    have w3:IntKind.u8.wrap ((y / 256:Nat):Int)=((y / 256:Nat):Int):=gt om om
    have w4:IntKind.i64.wrap (l.toNat:Int)=(l.toNat:Int):=dj om om
    have w5:IntKind.i64.wrap (40+(l.toNat:Int))=((40+l.toNat:Nat):Int):=by rw[dj om om]; omega
    simp only[sA,sB,Int.reduceNegSucc,reduceCtorEq,Nat.reduceEqDiff,↓reduceIte,Nat.reduceAdd,Int.reduceEq,Int.reduceLT,Int.reduceLE,Nat.reduceLT,n32,e32,w0,c1',c2',e8,w2,w3,db l1,w4,w5]
    obtain⟨k1,k2⟩:=key' (y / 256) 8 l.toNat om om l2 (l3 om) om
    exact⟨⟨40+l.toNat,by trivial,k1,k2,om⟩,by trivial⟩
   ·have c2':¬(256:Int)<=(y:Int):=om
    obtain⟨l,l1,l2,l3,l4⟩:=jj (v:=y) om
    have w3:IntKind.u8.wrap (y:Int)=(y:Int):=gt om om
    have w4:IntKind.i64.wrap (l.toNat:Int)=(l.toNat:Int):=dj om om
    have w5:IntKind.i64.wrap (32+(l.toNat:Int))=((32+l.toNat:Nat):Int):=by rw[dj om om]; omega
    simp only[sA,sB,Int.reduceNegSucc,reduceCtorEq,Nat.reduceEqDiff,↓reduceIte,Nat.reduceAdd,Int.reduceEq,Int.reduceLT,Int.reduceLE,Nat.reduceLT,n32,e32,w0,c1',c2',w3,db l1,w4,w5]
    obtain⟨k1,k2⟩:=key' y 0 l.toNat (by simp) om l2 (l3 om) om
    exact⟨⟨32+l.toNat,by trivial,k1,k2,om⟩,by trivial⟩
 ·have n32:¬(4294967296:Int)<=(u:Int):=om
  have e16:=uL .u64 .u64 u (b:=16) dD
  simp only[Int.cast_ofNat_Int,Nat.reducePow]at e16
  by_cases c1:65536<=u
  ·have c1':(65536:Int)<=(u:Int):=om
   have e8:=uL .u64 .u64 (u / 65536) (b:=8) dD
   simp only[Int.cast_ofNat_Int,Nat.reducePow]at e8
   have w1:IntKind.i64.wrap (0+16)=16:=by decide
   by_cases c2:256<=u / 65536
   ·have c2':(256:Int)<=((u / 65536:Nat):Int):=om
    have w2:IntKind.i64.wrap (16+8)=24:=by decide
    obtain⟨l,l1,l2,l3,l4⟩:=jj (v:=u / 65536 / 256) om
    have w3:IntKind.u8.wrap ((u / 65536 / 256:Nat):Int)=((u / 65536 / 256:Nat):Int):=gt om om
    have w4:IntKind.i64.wrap (l.toNat:Int)=(l.toNat:Int):=dj om om
    have w5:IntKind.i64.wrap (24+(l.toNat:Int))=((24+l.toNat:Nat):Int):=by rw[dj om om]; omega
    simp only[sA,sB,Int.reduceNegSucc,reduceCtorEq,Nat.reduceEqDiff,↓reduceIte,Nat.reduceAdd,Int.reduceEq,Int.reduceLT,Int.reduceLE,Nat.reduceLT,n32,e16,c1',w1,c2',e8,w2,w3,db l1,w4,w5]
    obtain⟨k1,k2⟩:=key (u / 65536 / 256) 24 l.toNat om om l2 (l3 om) om
    exact⟨⟨24+l.toNat,by trivial,k1,k2,om⟩,by trivial⟩
   ·have c2':¬(256:Int)<=((u / 65536:Nat):Int):=om
    obtain⟨l,l1,l2,l3,l4⟩:=jj (v:=u / 65536) om
    have w3:IntKind.u8.wrap ((u / 65536:Nat):Int)=((u / 65536:Nat):Int):=gt om om
    have w4:IntKind.i64.wrap (l.toNat:Int)=(l.toNat:Int):=dj om om
    have w5:IntKind.i64.wrap (16+(l.toNat:Int))=((16+l.toNat:Nat):Int):=by rw[dj om om]; omega
    simp only[sA,sB,Int.reduceNegSucc,reduceCtorEq,Nat.reduceEqDiff,↓reduceIte,Nat.reduceAdd,Int.reduceEq,Int.reduceLT,Int.reduceLE,Nat.reduceLT,n32,e16,c1',w1,c2',w3,db l1,w4,w5]
    obtain⟨k1,k2⟩:=key (u / 65536) 16 l.toNat om om l2 (l3 om) om
    exact⟨⟨16+l.toNat,by trivial,k1,k2,om⟩,by trivial⟩
  ·have c1':¬(65536:Int)<=(u:Int):=om
   have e8:=uL .u64 .u64 u (b:=8) dD
   simp only[Int.cast_ofNat_Int,Nat.reducePow]at e8
   by_cases c2:256<=u
   ·have c2':(256:Int)<=(u:Int):=om
    have w2:IntKind.i64.wrap (0+8)=8:=by decide
    obtain⟨l,l1,l2,l3,l4⟩:=jj (v:=u / 256) om
    have w3:IntKind.u8.wrap ((u / 256:Nat):Int)=((u / 256:Nat):Int):=gt om om
    have w4:IntKind.i64.wrap (l.toNat:Int)=(l.toNat:Int):=dj om om
    have w5:IntKind.i64.wrap (8+(l.toNat:Int))=((8+l.toNat:Nat):Int):=by rw[dj om om]; omega
    simp only[sA,sB,Int.reduceNegSucc,reduceCtorEq,Nat.reduceEqDiff,↓reduceIte,Nat.reduceAdd,Int.reduceEq,Int.reduceLT,Int.reduceLE,Nat.reduceLT,n32,c1',c2',e8,w2,w3,db l1,w4,w5]
    obtain⟨k1,k2⟩:=key (u / 256) 8 l.toNat om om l2 (l3 om) om
    exact⟨⟨8+l.toNat,by trivial,k1,k2,om⟩,by trivial⟩
   ·have c2':¬(256:Int)<=(u:Int):=om
    obtain⟨l,l1,l2,l3,l4⟩:=jj (v:=u) om
    have w3:IntKind.u8.wrap (u:Int)=(u:Int):=gt om om
    have w4:IntKind.i64.wrap (l.toNat:Int)=(l.toNat:Int):=dj om om
    have w5:IntKind.i64.wrap (0+(l.toNat:Int))=(l.toNat:Int):=by rw[dj om om]; omega
    simp only[sA,sB,Int.reduceNegSucc,reduceCtorEq,Nat.reduceEqDiff,↓reduceIte,Nat.reduceAdd,Int.reduceEq,Int.reduceLT,Int.reduceLE,Nat.reduceLT,n32,c1',c2',w3,db l1,w4,w5]
    exact⟨⟨l.toNat,by trivial,l2,l3 h0,om⟩,by trivial⟩
open Go.Abs Go.Abs.S
open Go.Proofs.Tx (qR ot Cy pL uw AM GC AO Pq CM jL Bu)
theorem Al{C:CS}(hC:pq C){c:cS}{Q:nV}{T:cD}{H:ae}(h:wp C c (kD Q fun _ _=>False) T H):wp C (.loop c) Q T H:=by
 refine cg (fun _ T' H'=>T'=T/\H'=H) 0 ⟨rfl,rfl⟩ ?_
 rintro m T' H' ⟨rfl,rfl⟩
 exact rY hC c (fun e T H hq=>j6 (fun _ _ _ h=>h) (fun _ _ h=>h.elim) e T H hq) h
theorem gq{a:Nat}(ha:a<9223372036854775808){H:ae}:az Tryz.prog aH 132 [.int .i64 (a:Int)] H fun v H'=>v=.int .u64 (a:Int)/\H=H':=by
 refine aj rfl O7 rfl ?_
 have g:¬(a:Int)<0:=om
 simp only[Qd,sA,sB,seval,g,uw (show a<18446744073709551616 by omega)]
 exact⟨by trivial,by trivial⟩
theorem IO(a b:Bool):gJ (.eqv false .bool) [.bool a,.bool b]=some (.bool (a==b)):=by cases a <;> cases b <;> rfl
theorem kN{a b:Nat}{H:ae}:az Tryz.prog aH 130 [.int .i64 (a:Int),.int .i64 (b:Int)] H fun v H'=>v=.func (.func 146) [] []/\H=H':=by
 refine aj rfl O9 rfl ?_
 have g:¬(a:Int)<0:=om
 have g':¬(b:Int)<0:=om
 have e:gJ (.eqv false .bool) [.bool (decide False),.bool (decide False)]=some (.bool true):=rfl
 simp only[Qf,sA,sB,seval,g,g',decide_false,IO,beq_self_eq_true]
 exact⟨by trivial,by trivial⟩
theorem ju{lo:Nat}(hl:lo<9223372036854775808)(r:Bool){H:ae}:az Tryz.prog aH 146 [.int .u64 0,.int .u64 (lo:Int),.bool r] H fun v H'=>v=.int .i64 (lo:Int)/\H=H':=by
 refine aj rfl OZ rfl ?_
 have g:¬(9223372036854775807:Int)<(lo:Int):=om
 simp only[P9,sA,sB,seval,g,dj (show -9223372036854775808<=(lo:Int) by omega) (show (lo:Int)<=9223372036854775807 by omega)]
 exact⟨by trivial,by trivial⟩
set_option maxHeartbeats 1000000 in
theorem yn{x y:Nat}(hx:x<18446744073709551616)(hy:y<18446744073709551616){H:ae} :
  az Tryz.prog aH 131 [.int .u64 (x:Int),.int .u64 (y:Int)] H fun v H'=>v=.tuple [.int .u64 ((x*y / 18446744073709551616:Nat):Int),.int .u64 ((x*y % 18446744073709551616:Nat):Int)]/\H=H':=by
 refine aj rfl O8 rfl ?_
 obtain⟨ac,ad,bc,bd,e1,e2,e3,e4,e⟩:=Bu x y
 have b1:=jL (a:=x / 4294967296) (b:=y / 4294967296) om om
 have b2:=jL (a:=x / 4294967296) (b:=y % 4294967296) om om
 have b3:=jL (a:=x % 4294967296) (b:=y / 4294967296) om om
 have b4:=jL (a:=x % 4294967296) (b:=y % 4294967296) om om
 have m1:IntKind.u64.wrap (((x / 4294967296:Nat):Int)*((y / 4294967296:Nat):Int))=(ac:Int):=by rw[AM om,e1]
 have m2:IntKind.u64.wrap (((x / 4294967296:Nat):Int)*((y % 4294967296:Nat):Int))=(ad:Int):=by rw[AM om,e2]
 have m3:IntKind.u64.wrap (((x % 4294967296:Nat):Int)*((y / 4294967296:Nat):Int))=(bc:Int):=by rw[AM om,e3]
 have m4:IntKind.u64.wrap (((x % 4294967296:Nat):Int)*((y % 4294967296:Nat):Int))=(bd:Int):=by rw[AM om,e4]
 rw[<- e1]at b1
 rw[<- e2]at b2
 rw[<- e3]at b3
 rw[<- e4]at b4
 have a1:IntKind.u64.wrap ((ad:Int)+((bd / 4294967296:Nat):Int))=((ad+bd / 4294967296:Nat):Int):=AO om
 obtain⟨t,ht⟩:∃t,t=ad+bd / 4294967296:=⟨_,rfl⟩
 rw[<- ht]at a1
 have a2:IntKind.u64.wrap (((t % 4294967296:Nat):Int)+(bc:Int))=((t % 4294967296+bc:Nat):Int):=AO om
 have a3:IntKind.u64.wrap ((ac:Int)+((t / 4294967296:Nat):Int))=((ac+t / 4294967296:Nat):Int):=AO om
 have a4:IntKind.u64.wrap (((ac+t / 4294967296:Nat):Int)+(((t % 4294967296+bc) / 4294967296:Nat):Int))=((ac+t / 4294967296+(t % 4294967296+bc) / 4294967296:Nat):Int):=AO om
 simp only[Qe,sA,sB,seval,qR hx,qR hy,ot,m1,m2,m3,m4,a1,qR (show t<18446744073709551616 by omega),a2,a3,a4,GC]
 refine⟨?_,by trivial⟩
 congr 4
 clear m1 m2 m3 m4 a1 a2 a3 a4 e1 e2 e3 e4
 omega
theorem Eo{a b:Nat}(ha:a<9223372036854775808)(hb:b<9223372036854775808)(hab:a*b<39614081257132168796771975168){H:ae} :
  az Tryz.prog aH 92 [.int .i64 (a:Int),.int .i64 (b:Int)] H fun v H'=>v=.int .i64 ((a*b / 4294967296:Nat):Int)/\H=H':=by
 refine aj rfl QQ rfl ?_
 simp only[c92,sA,sB,seval]
 refine (kN).mono ?_
 rintro v _ ⟨rfl,rfl⟩
 simp only[sA,sB,seval]
 refine (gq ha).mono ?_
 rintro v _ ⟨rfl,rfl⟩
 simp only[sA,sB,seval]
 refine (gq hb).mono ?_
 rintro v _ ⟨rfl,rfl⟩
 simp only[sA,sB,seval]
 refine (yn (x:=a) (y:=b) om om).mono ?_
 rintro v _ ⟨rfl,rfl⟩
 generalize a*b=c at *
 have s0:((c / 18446744073709551616 / 4294967296:Nat):Int)=0:=om
 have s1:=CM (a:=c / 18446744073709551616*4294967296) (b:=c % 18446744073709551616 / 4294967296) om om
 have s2:=xy 32 (c / 18446744073709551616) (b:=c % 18446744073709551616 / 4294967296) om
 rw[show (2:Nat) ^ 32=4294967296 from rfl]at s2
 rw[s2,show c / 18446744073709551616*4294967296+c % 18446744073709551616 / 4294967296=c / 4294967296 by omega]at s1
 simp only[sA,sB,seval,bA,bx,ot,Cy (show c / 18446744073709551616<4294967296 by omega),s1,pL,s0]
 refine (ju (lo:=c / 4294967296) om _).mono ?_
 rintro v _ ⟨rfl,rfl⟩
 simp only[sA,sB,seval]
 exact⟨by trivial,by trivial⟩
theorem Fu{u:Nat}(h0:0<u)(hu:u<18446744073709551616){H:ae}:az Tryz.prog aH 148 [.int .u64 (u:Int)] H fun v H'=>(∃s:Nat,s<64/\v=.int .i64 (s:Int)/\u*2 ^ s<18446744073709551616/\9223372036854775808<=u*2 ^ s)/\H=H':=by
 refine aj rfl OY rfl ?_
 simp only[P8,sA,sB,seval]
 refine (Bo rfl h0 hu).mono ?_
 rintro v _ ⟨⟨L,rfl,h1,h2,h3⟩,rfl⟩
 have w:IntKind.i64.wrap (64-(L:Int))=((64-L:Nat):Int):=kJ
 simp only[sA,sB,seval,w]
 have hL:0<L:=by
  rcases Nat.eq_zero_or_pos L with h | h
  ·subst h; simp at h1; omega
  ·exact h
 have e:2 ^ L*2 ^ (64-L)=18446744073709551616:=by rw[<- Nat.pow_add,show L+(64-L)=64 by omega]
 have p:0<2 ^ (64-L):=Nat.pow_pos dD
 refine⟨⟨64-L,om,rfl,?_,?_⟩,tt⟩
 ·rw[<- e]; exact Nat.mul_lt_mul_of_pos_right h1 p
 ·have:=Nat.mul_le_mul_right (2 ^ (64-L)) h2
  rw[e,Nat.mul_assoc]at this
  omega
open Go.Abs Go.Abs.S
open Go.Proofs.Tx (qR ot Cy pL uw AM GC AO Pq CM jL Bu)
theorem KX(A B:Nat):B*4294967296 % 18446744073709551616=(A*4294967296+B) % 4294967296*4294967296:=by
 rw[Nat.add_comm,Nat.add_mul_mod_self_right,show (18446744073709551616:Nat)=4294967296*4294967296 from rfl,Nat.mul_mod_mul_right]
theorem BJ{u:Nat}(h0:0<u)(hu:u<4398046511104){H:ae}:az Tryz.prog aH 133 [.int .u64 ((u / 4294967296:Nat):Int),.int .u64 ((u*4294967296 % 18446744073709551616:Nat):Int),.int .u64 (u:Int)] H fun v H'=>v=.tuple [.int .u64 4294967296,.int .u64 0]/\H=H':=by
 refine aj rfl LZ rfl ?_
 have c0:¬(u:Int)=0:=om
 have wz:IntKind.u64.wrap 0=0:=by decide
 have c1:¬(u:Int)<=((u / 4294967296:Nat):Int):=om
 by_cases c2:u<4294967296
 ·have e:u / 4294967296=0:=om
  have e2:u*4294967296 % 18446744073709551616=u*4294967296:=Nat.mod_eq_of_lt om
  have s1:bv .quo (.int .u64 ((u*4294967296:Nat):Int)) (.int .u64 (u:Int))=some (.int .u64 4294967296):=by
   have:=pM (a:=u*4294967296) u h0 om
   rw[Nat.mul_div_cancel_left _ h0]at this
   exact this
  have s2:bv .rem (.int .u64 ((u*4294967296:Nat):Int)) (.int .u64 (u:Int))=some (.int .u64 0):=by
   have:=xm (a:=u*4294967296) u h0
   rw[Nat.mul_mod_right]at this
   exact this
  rw[e]at c1 ⊢
  rw[e2]
  have e0:((0:Nat):Int)=0:=rfl
  rw[e0]at c1 ⊢
  simp only[LA,sA,sB,seval,c0,c1,s1,s2]
  exact⟨tt,tt⟩
 ·have c3:¬((u / 4294967296:Nat):Int)=0:=om
  simp only[LA,sA,sB,seval,c0,c1,c3]
  refine (Fu h0 om).mono ?_
  rintro v _ ⟨⟨s,hs,rfl,y1,y2⟩,rfl⟩
  have hs1:22<=s:=Nat.le_of_not_lt fun h=>by
   have h1:2 ^ s<=2 ^ 21:=Nat.pow_le_pow_right dD om
   have h2:u*2 ^ s<=4398046511104*2 ^ 21:=Nat.mul_le_mul om h1
   have:(4398046511104*2 ^ 21:Nat)=9223372036854775808:=rfl
   have h3:u*2 ^ s<=4398046511103*2 ^ 21:=Nat.mul_le_mul om h1
   have:(4398046511103*2 ^ 21:Nat)<9223372036854775808:=by decide
   omega
  have hs2:s<=31:=Nat.le_of_not_lt fun h=>by
   have h1:2 ^ 32<=2 ^ s:=Nat.pow_le_pow_right dD om
   have h2:4294967296*2 ^ 32<=u*2 ^ s:=Nat.mul_le_mul om h1
   have:(4294967296*2 ^ 32:Nat)=18446744073709551616:=rfl
   omega
  obtain⟨p,hp⟩:∃p,p=2 ^ s:=⟨_,rfl⟩
  obtain⟨q,hq⟩:∃q,q=2 ^ (32-s):=⟨_,rfl⟩
  have hpq:p*q=4294967296:=by rw[hp,hq,<- Nat.pow_add,show s+(32-s)=32 by omega]
  have p0:0<p:=by rw[hp]; exact Nat.pow_pos dD
  have q0:0<q:=by rw[hq]; exact Nat.pow_pos dD
  obtain⟨a,ha⟩:∃a,a=u / 4294967296:=⟨_,rfl⟩
  obtain⟨b,hb⟩:∃b,b=u % 4294967296:=⟨_,rfl⟩
  have hu2:u=a*4294967296+b:=om
  have hb4:b<4294967296:=om
  rw[<- hp]at y1 y2
  obtain⟨y,hy⟩:∃y,y=u*p:=⟨_,rfl⟩
  rw[<- hy]at y1 y2
  have hyab:y=a*p*4294967296+b*p:=by rw[hy,hu2,Nat.add_mul,Nat.mul_right_comm]
  have hbp:b*p / 4294967296=b / q:=by rw[<- hpq,Nat.mul_comm p q,Nat.mul_div_mul_right _ _ p0]
  have hbq:b / q<p:=by rw[Nat.div_lt_iff_lt_mul q0,hpq]; exact hb4
  have e32:y / 4294967296=a*p+b / q:=by
   rw[hyab,<- hbp]; omega
  have el:u*4294967296 % 18446744073709551616=b*4294967296:=om
  have sh1:bv .shl (.int .u64 (u:Int)) (.int .u64 (s:Int))=some (.int .u64 (y:Int)):=by
   rw[ud .u64 .u64 (by simp) u (b:=s) (by show s<=64; omega),<- hp,<- hy]
   congr 3; exact Nat.mod_eq_of_lt y1
  have sh2:bv .shl (.int .u64 (a:Int)) (.int .u64 (s:Int))=some (.int .u64 ((a*p:Nat):Int)):=by
   rw[ud .u64 .u64 (by simp) a (b:=s) (by show s<=64; omega),<- hp]
   congr 3; exact Nat.mod_eq_of_lt (show a*p<18446744073709551616 by omega)
  have kJ:IntKind.u64.wrap (64-(s:Int))=((64-s:Nat):Int):=by rw[IntKind.wrap_u64]; omega
  have sh3:bv .shr (.int .u64 ((b*4294967296:Nat):Int)) (.int .u64 ((64-s:Nat):Int))=some (.int .u64 ((b / q:Nat):Int)):=by
   rw[uL .u64 .u64 (b*4294967296) (b:=64-s) (by show 64-s<=64; omega)]
   congr 3
   rw[show 64-s=(32-s)+32 by omega,Nat.pow_add,<- hq,show (2:Nat) ^ 32=4294967296 from rfl,Nat.mul_div_mul_right _ _ dD]
  have or1:bv .or (.int .u64 ((a*p:Nat):Int)) (.int .u64 ((b / q:Nat):Int))=some (.int .u64 ((y / 4294967296:Nat):Int)):=by
   rw[CM om om]
   congr 3
   rw[e32,hp]; exact xy s a (by rw[<- hp]; exact hbq)
  have sh4:bv .shl (.int .u64 ((b*4294967296:Nat):Int)) (.int .u64 (s:Int))=some (.int .u64 ((y % 4294967296*4294967296:Nat):Int)):=by
   rw[ud .u64 .u64 (by simp) _ (b:=s) (by show s<=64; omega),<- hp]
   congr 3
   show b*4294967296*p % 18446744073709551616=_
   rw[Nat.mul_right_comm,hyab]; exact KX _ _
  have sh5:bv .shr (.int .u64 ((y % 4294967296*4294967296:Nat):Int)) (.int .u64 32)=some (.int .u64 ((y % 4294967296:Nat):Int)):=by
   rw[ot,Nat.mul_div_cancel _ dD]
  have an5:bv .and (.int .u64 ((y % 4294967296*4294967296:Nat):Int)) (.int .u64 4294967295)=some (.int .u64 0):=by
   rw[qR om,Nat.mul_mod_left]; rfl
  have hy0:0<y / 4294967296:=om
  have dq:bv .quo (.int .u64 ((y / 4294967296:Nat):Int)) (.int .u64 ((y / 4294967296:Nat):Int))=some (.int .u64 1):=by
   rw[pM _ hy0 om,Nat.div_self hy0]; rfl
  have wm1:IntKind.u64.wrap (1*((y / 4294967296:Nat):Int))=((y / 4294967296:Nat):Int):=by rw[Int.one_mul]; exact uw om
  have ws1:IntKind.u64.wrap (((y / 4294967296:Nat):Int)-((y / 4294967296:Nat):Int))=0:=by rw[Int.sub_self]; rfl
  have wc:IntKind.u64.wrap (s:Int)=(s:Int):=uw om
  rw[el,<- ha]
  simp only[sA,sB,seval,wc,sh1,ot,qR y1,sh2,kJ,sh3,or1,sh4,sh5,an5,dq,wm1,ws1]
  refine Al (dJ _ _) ?_
  have g1:¬(4294967296:Int)<=1:=by decide
  have wm2:IntKind.u64.wrap (1*((y % 4294967296:Nat):Int))=((y % 4294967296:Nat):Int):=by rw[Int.one_mul]; exact uw om
  have wm3:IntKind.u64.wrap (4294967296*0)=0:=by decide
  have wa3:IntKind.u64.wrap (0+((y % 4294967296:Nat):Int))=((y % 4294967296:Nat):Int):=by rw[Int.zero_add]; exact uw om
  have g2:¬((y % 4294967296:Nat):Int)<((y % 4294967296:Nat):Int):=om
  simp only[sA,sB,seval,g1,wm2,wm3,wz,wa3,g2]
  have wm4:IntKind.u64.wrap (((y / 4294967296:Nat):Int)*4294967296)=((y / 4294967296*4294967296:Nat):Int):=AM (a:=y / 4294967296) (b:=4294967296) om
  have wa4:IntKind.u64.wrap (((y / 4294967296*4294967296:Nat):Int)+((y % 4294967296:Nat):Int))=(y:Int):=by rw[AO om]; congr 1; omega
  have wm5:IntKind.u64.wrap (1*(y:Int))=(y:Int):=by rw[Int.one_mul]; exact uw om
  have ws5:IntKind.u64.wrap ((y:Int)-(y:Int))=0:=by rw[Int.sub_self]; rfl
  have dq2:bv .quo (.int .u64 0) (.int .u64 ((y / 4294967296:Nat):Int))=some (.int .u64 0):=by
   have:=pM (a:=0) (y / 4294967296) hy0 dD
   rw[Nat.zero_div]at this; exact this
  have wm6:IntKind.u64.wrap (0*((y / 4294967296:Nat):Int))=0:=by rw[Int.zero_mul]; rfl
  have ws6:IntKind.u64.wrap (0-0)=0:=by decide
  simp only[sA,sB,seval,wz,wm4,wa4,wm5,ws5,dq2,wm6,ws6]
  refine Al (dJ _ _) ?_
  have g3:¬(4294967296:Int)<=0:=by decide
  have wm7:IntKind.u64.wrap (0*((y % 4294967296:Nat):Int))=0:=by rw[Int.zero_mul]; rfl
  have wa8:IntKind.u64.wrap (0+0)=0:=by decide
  have g4:¬(0:Int)<0:=by decide
  have wm9:IntKind.u64.wrap (1*4294967296)=4294967296:=by decide
  have wa9:IntKind.u64.wrap (4294967296+0)=4294967296:=by decide
  have wma:IntKind.u64.wrap (0*4294967296)=0:=by decide
  have wmb:IntKind.u64.wrap (0*(y:Int))=0:=by rw[Int.zero_mul]; rfl
  have sh6:bv .shr (.int .u64 0) (.int .u64 (s:Int))=some (.int .u64 0):=by
   have:=uL .u64 .u64 0 (b:=s) (by show s<=64; omega)
   rw[Nat.zero_div]at this; exact this
  simp only[sA,sB,seval,wz,g3,wm7,wm3,wa8,g4,wm9,wa9,wma,wmb,ws6,sh6]
  exact⟨tt,tt⟩
open Go.Abs Go.Abs.S
open Go.Proofs.Tx (qR ot Cy pL uw)
theorem BI{u:Nat}(h0:0<u)(hu:u<4398046511104){H:ae}:az Tryz.prog aH 133 [.int .u64 0,.int .u64 0,.int .u64 (u:Int)] H fun v H'=>v=.tuple [.int .u64 0,.int .u64 0]/\H=H':=by
 refine aj rfl LZ rfl ?_
 have c0:¬(u:Int)=0:=om
 have c1:¬(u:Int)<=0:=om
 have s1:bv .quo (.int .u64 0) (.int .u64 (u:Int))=some (.int .u64 0):=by
  have:=pM (a:=0) u h0 dD
  rw[Nat.zero_div]at this; exact this
 have s2:bv .rem (.int .u64 0) (.int .u64 (u:Int))=some (.int .u64 0):=by
  have:=xm (a:=0) u h0
  rw[Nat.zero_mod]at this; exact this
 simp only[LA,sA,sB,seval,c0,c1,s1,s2]
 exact⟨tt,tt⟩
theorem Ep{a b r:Int}(h:nG a b=some r){H:ae}:az Tryz.prog aH 94 [.int .i64 a,.int .i64 b] H fun v H'=>v=.int .i64 r/\H=H':=by
 unfold nG at h
 split at h <;> first | (simp at h; done) | skip
 rename_i hb
 obtain⟨u,rfl⟩:∃u:Nat,b=(u:Int):=⟨b.toNat,om⟩
 have hu0:0<u:=om
 have hu1:u<4398046511104:=om
 have c0:¬(u:Int)=0:=om
 refine aj rfl QO rfl ?_
 simp only[c94,sA,sB,seval,c0]
 split at h
 ·rename_i ha
  subst ha
  simp only[sJ]at h
  subst h
  refine (kN (a:=0) (b:=u)).mono ?_
  rintro v _ ⟨rfl,rfl⟩
  simp only[sA,sB,seval]
  refine (gq (a:=0) dD).mono ?_
  rintro v _ ⟨rfl,rfl⟩
  simp only[sA,sB,seval]
  refine (gq (a:=u) om).mono ?_
  rintro v _ ⟨rfl,rfl⟩
  have s1:bv .shr (.int .u64 0) (.int .u64 32)=some (.int .u64 0):=ot 0
  have s2:bv .rem (.int .u64 0) (.int .u64 (u:Int))=some (.int .u64 0):=by
   have:=xm (a:=0) u hu0
   rw[Nat.zero_mod]at this; exact this
  have s3:bv .shl (.int .u64 0) (.int .u64 32)=some (.int .u64 0):=pL 0
  have s4:bv .quo (.int .u64 0) (.int .u64 (u:Int))=some (.int .u64 0):=by
   have:=pM (a:=0) u hu0 dD
   rw[Nat.zero_div]at this; exact this
  have e0:((0:Nat):Int)=0:=rfl
  simp only[sA,sB,seval,e0,s1,s2,s3]
  refine (BI hu0 hu1).mono ?_
  rintro v _ ⟨rfl,rfl⟩
  simp only[sA,sB,seval,bA,bx,s4]
  refine (ju (lo:=0) om _).mono ?_
  rintro v _ ⟨rfl,rfl⟩
  simp only[sA,sB,seval]
  exact⟨tt,tt⟩
 ·split at h <;> first | (simp at h; done) | skip
  rename_i ha
  subst ha
  simp only[sJ]at h
  subst h
  refine (kN (a:=u) (b:=u)).mono ?_
  rintro v _ ⟨rfl,rfl⟩
  simp only[sA,sB,seval]
  refine (gq (a:=u) om).mono ?_
  rintro v _ ⟨rfl,rfl⟩
  simp only[sA,sB,seval]
  refine (gq (a:=u) om).mono ?_
  rintro v _ ⟨rfl,rfl⟩
  have hlt:u / 4294967296<u:=Nat.div_lt_self hu0 dD
  have s2:bv .rem (.int .u64 ((u / 4294967296:Nat):Int)) (.int .u64 (u:Int))=some (.int .u64 ((u / 4294967296:Nat):Int)):=by
   rw[xm (a:=u / 4294967296) u hu0,Nat.mod_eq_of_lt hlt]
  have s4:bv .quo (.int .u64 ((u / 4294967296:Nat):Int)) (.int .u64 (u:Int))=some (.int .u64 0):=by
   rw[pM (a:=u / 4294967296) u hu0 om,Nat.div_eq_of_lt hlt]; rfl
  simp only[sA,sB,seval,ot,s2,pL]
  refine (BJ hu0 hu1).mono ?_
  rintro v _ ⟨rfl,rfl⟩
  simp only[sA,sB,seval,bA,bx,s4]
  refine (ju (lo:=4294967296) om _).mono ?_
  rintro v _ ⟨rfl,rfl⟩
  simp only[sA,sB,seval]
  exact⟨tt,tt⟩
theorem kQ{a b r:Int}(h:nG a b=some r){cb:Nat}{H:ae}(hr:a6 H cb [.int .i64 b]):az Tryz.prog aH 93 [.int .i64 a,af cb 1 0] H fun v H'=>v=.int .i64 r/\H=H':=by
 have ld:=am (i:=0) hr (n:=1) rfl rfl
 refine aj rfl QP rfl ?_
 simp only[c93,sA,sB,seval,ld]
 refine (Ep h).mono ?_
 rintro v _ ⟨rfl,rfl⟩
 simp only[sA,sB,seval]
 exact⟨tt,tt⟩
theorem jX{a b r:Int}(h:uQ a b=some r){cb:Nat}{H:ae}(hr:a6 H cb [.int .i64 b]):az Tryz.prog aH 91 [.int .i64 a,af cb 1 0] H fun v H'=>v=.int .i64 r/\H=H':=by
 have ld:=am (i:=0) hr (n:=1) rfl rfl
 unfold uQ at h
 split at h <;> first | (simp at h; done) | skip
 rename_i hb
 simp only[sJ]at h
 obtain⟨x,rfl⟩:∃u:Nat,a=(u:Int):=⟨a.toNat,om⟩
 obtain⟨y,rfl⟩:∃u:Nat,b=(u:Int):=⟨b.toNat,om⟩
 refine aj rfl QR rfl ?_
 simp only[c91,sA,sB,seval,ld]
 have hxy:x*y<=17179869184*17179869184:=Nat.mul_le_mul om om
 refine (Eo (a:=x) (b:=y) om om om).mono ?_
 rintro v _ ⟨rfl,rfl⟩
 simp only[sA,sB,seval]
 rw[<- h]
 exact⟨tt,tt⟩
theorem vZ(k:IntKind)(z:Int):(aa.int k z).cells=[.int k z]:=rfl
theorem AY{x y z n x' y' z':Int}(hx:nG x n=some x')(hy:nG y n=some y')(hz:nG z n=some z'){H:ae} :
  az Tryz.prog aH 52 [.agg (v3 x y z),.int .i64 n] H fun u H'=>u=.agg (v3 x' y' z')/\cZ H.next H H':=by
 obtain⟨H1,m1,r1,n1,k1⟩:=aw H (v3 x y z) (n:=3) rfl
 obtain⟨H2,m2,r2,n2,k2⟩:=aw H1 [.int .i64 n] (n:=1) rfl
 obtain⟨H3,m3,r3,n3,k3⟩:=aw H2 (v3 0 0 0) (n:=3) rfl
 obtain⟨_,_,_,p⟩:=vV ((r1.same (k2 _ om)).same (k3 _ om))
 have q:=r2.same (k3 _ om)
 refine aj rfl Rj rfl ?_
 simp only[c52,sA,sB,seval,cB,vZ,m1,m2,m3,p]
 refine (sS om (cb:=H1.next) (n:=n) (x':=x') (y':=y') (z':=z') om fun e=>?_).mono ?_
 ·have q':=q.same e
  exact⟨kQ hx q',kQ hy q',kQ hz q'⟩
 rintro _ H4 ⟨rfl,E4⟩
 obtain⟨H5,m5,r5,n5,k5⟩:=ak (r3.same (E4.old _ om)) (n:=3) rfl (xs:=v3 x' y' z') rfl rfl
 obtain⟨_,_,_,w⟩:=vV r5
 simp only[sA,sB,seval,m5,dx,aD,w]
 exact⟨tt,⟨by have:=E4.next; omega,fun c hc=>by rw[k5 c om,E4.old c om,k3 c om,k2 c om,k1 c om]⟩⟩
theorem yH{x y z n x' y' z':Int}(hx:uQ x n=some x')(hy:uQ y n=some y')(hz:uQ z n=some z'){H:ae} :
  az Tryz.prog aH 51 [.int .i64 n,.agg (v3 x y z)] H fun u H'=>u=.agg (v3 x' y' z')/\cZ H.next H H':=by
 obtain⟨H1,m1,r1,n1,k1⟩:=aw H [.int .i64 n] (n:=1) rfl
 obtain⟨H2,m2,r2,n2,k2⟩:=aw H1 (v3 x y z) (n:=3) rfl
 obtain⟨H3,m3,r3,n3,k3⟩:=aw H2 (v3 0 0 0) (n:=3) rfl
 obtain⟨_,_,_,p⟩:=vV (r2.same (k3 _ om))
 have q:=(r1.same (k2 _ om)).same (k3 _ om)
 refine aj rfl Rk rfl ?_
 simp only[c51,sA,sB,seval,cB,vZ,m1,m2,m3,p]
 refine (sS om (cb:=H.next) (n:=n) (x':=x') (y':=y') (z':=z') om fun e=>?_).mono ?_
 ·have q':=q.same e
  exact⟨jX hx q',jX hy q',jX hz q'⟩
 rintro _ H4 ⟨rfl,E4⟩
 obtain⟨H5,m5,r5,n5,k5⟩:=ak (r3.same (E4.old _ om)) (n:=3) rfl (xs:=v3 x' y' z') rfl rfl
 obtain⟨_,_,_,w⟩:=vV r5
 simp only[sA,sB,seval,m5,dx,aD,w]
 exact⟨tt,⟨by have:=E4.next; omega,fun c hc=>by rw[k5 c om,E4.old c om,k3 c om,k2 c om,k1 c om]⟩⟩
open Go.Abs Go.Abs.S
theorem Sd{H:ae}{b:Nat}{v:Vl}(r:a6 H b (iX v)):au false 1 H (af b 4 0)=some (.bool v.vec)/\au false 1 H (af b 4 1)=some (.int .i64 v.x)/\au true 3 H (af b 4 1)=some (.agg (v3 v.x v.y v.z))/\au true 4 H (af b 4 0)=some (.agg (iX v)):=
 ⟨am r rfl rfl,am r rfl rfl,cK (i:=1) (k:=3) r rfl (by show 4<=4; omega),aA r rfl⟩
theorem J2(b:Bool)(x y z:Int):aL [.bool false,.int .i64 0,.int .i64 0,.int .i64 0] [(0,1,.bool b),(1,3,.agg (v3 x y z))]=some (.agg (iX ⟨b,x,y,z⟩)):=rfl
theorem xh{s:Bs}{a b r:Vl}(h:y5 s a b=some r)(oa:rq a)(ob:rq b){H:ae}:az Tryz.prog aH 122 [.str s,.agg (iX a),.agg (iX b)] H fun u H'=>u=.agg (iX r)/\cZ H.next H H':=by
 obtain⟨H1,m1,r1,n1,k1⟩:=aw H (iX a) (n:=4) rfl
 obtain⟨H2,m2,r2,n2,k2⟩:=aw H1 (iX b) (n:=4) rfl
 obtain⟨H3,m3,r3,n3,k3⟩:=aw H2 (iX ⟨false,0,0,0⟩) (n:=4) rfl
 have q1:=(r1.same (k2 _ om)).same (k3 _ om)
 have q2:=r2.same (k3 _ om)
 obtain⟨pa0,pa1,pa3,_⟩:=Sd q1
 obtain⟨pb0,pb1,pb3,_⟩:=Sd q2
 have E3:cZ H.next H H3:=⟨om,fun c hc=>by rw[k3 c om,k2 c om,k1 c om]⟩
 have fi:∀{K:ae} (v:Vl),cZ H3.next H3 K->∃L,bu 4 K (af H2.next 4 0) (.agg (iX v))=some L/\au true 4 L (af H2.next 4 0)=some (.agg (iX v))/\cZ H.next H L:=fun v e=>by
  obtain⟨L,m,rr,n,k⟩:=ak (r3.same (e.old _ om)) (n:=4) rfl (xs:=iX v) rfl rfl
  exact⟨L,m,aA rr rfl,⟨by have:=e.next; omega,fun c hc=>by rw[k c om,e.old c om,E3.old c hc]⟩⟩
 refine aj rfl Pe rfl ?_
 simp only[Qj,sA,sB,seval,cB,m1,m2,m3,fld0,aZ,pa1,pb1]
 unfold y5 at h
 by_cases n1:s=[43]
 ·have t1:=eq_true n1
  rw[if_pos n1]at h
  simp only[sJ]at h
  subst h
  simp only[sA,sB,seval,t1]
  refine cI rfl ?_
  simp only[sR,sA,sB,seval,fld0,aZ,pa0,pa3,pb3]
  refine (EC oa.x oa.y oa.z ob.x ob.y ob.z).mono ?_
  rintro _ H4 ⟨rfl,E4⟩
  obtain⟨L,l1,l2,l3⟩:=fi ⟨a.vec,iZ a.x b.x,iZ a.y b.y,iZ a.z b.z⟩ E4
  simp only[sR,sA,sB,seval,J2,l1]
  simp only[bG,bH,bg,bI,co,and_true,true_and,List.map_cons,List.map_nil,sA,sB,seval,dx,aD,l2]
  have pa0':=am (i:=0) (q1.same (E4.old _ om)) (n:=4) rfl rfl
  refine⟨?_,l3⟩
  and_intros <;> first | rfl | exact⟨_,rfl,fun _=>⟨_,pa0',uk _⟩⟩
 rw[if_neg n1]at h
 by_cases n2:s=[45]
 ·have t2:=eq_true n2
  rw[if_pos n2]at h
  simp only[sJ]at h
  subst h
  simp only[sA,sB,seval,n1,t2]
  refine cI rfl ?_
  simp only[sR,sA,sB,seval,fld0,aZ,pa0,pa3,pb3]
  refine (Ez oa.x oa.y oa.z ob.x ob.y ob.z).mono ?_
  rintro _ H4 ⟨rfl,E4⟩
  obtain⟨L,l1,l2,l3⟩:=fi ⟨a.vec,jD a.x b.x,jD a.y b.y,jD a.z b.z⟩ E4
  simp only[sR,sA,sB,seval,J2,l1]
  simp only[bG,bH,bg,bI,co,and_true,true_and,List.map_cons,List.map_nil,sA,sB,seval,dx,aD,l2]
  have pa0':=am (i:=0) (q1.same (E4.old _ om)) (n:=4) rfl rfl
  refine⟨?_,l3⟩
  and_intros <;> first | rfl | exact⟨_,rfl,fun _=>⟨_,pa0',uk _⟩⟩
 rw[if_neg n2]at h
 by_cases n3:s=[42]
 ·have t3:=eq_true n3
  rw[if_pos n3]at h
  split at h <;> first | (simp at h; done) | skip
  rename_i hv
  split at h <;> first | (simp at h; done) | skip
  rename_i x y z e1 e2 e3
  simp only[sJ]at h
  subst h
  simp only[sA,sB,seval,n1,n2,t3,fld0,pa0,hv,aZ,pa3]
  refine (yH e1 e2 e3).mono ?_
  rintro _ H4 ⟨rfl,E4⟩
  obtain⟨L,l1,l2,l3⟩:=fi ⟨true,x,y,z⟩ E4
  simp only[sA,sB,seval,J2,l1,dx,aD,l2]
  exact⟨tt,l3⟩
 rw[if_neg n3]at h
 by_cases n4:s=[47]
 ·have t4:=eq_true n4
  rw[if_pos n4]at h
  split at h <;> first | (simp at h; done) | skip
  rename_i x y z e1 e2 e3
  simp only[sJ]at h
  subst h
  simp only[sA,sB,seval,n1,n2,n3,t4]
  refine cI rfl ?_
  simp only[sR,sA,sB,seval,fld0,aZ,pa0,pa3]
  refine (AY e1 e2 e3).mono ?_
  rintro _ H4 ⟨rfl,E4⟩
  obtain⟨L,l1,l2,l3⟩:=fi ⟨a.vec,x,y,z⟩ E4
  simp only[sR,sA,sB,seval,J2,l1]
  simp only[bG,bH,bg,bI,co,and_true,true_and,List.map_cons,List.map_nil,sA,sB,seval,dx,aD,l2]
  have pa0':=am (i:=0) (q1.same (E4.old _ om)) (n:=4) rfl rfl
  refine⟨?_,l3⟩
  and_intros <;> first | rfl | exact⟨_,rfl,fun _=>⟨_,pa0',uk _⟩⟩
 rw[if_neg n4]at h
 have q3:∀t:Bs,s=[60]∨s=[62]->t.length=2->¬s=t:=by
  rintro t (rfl | rfl) ht rfl <;> simp at ht
 by_cases n5:s=[60]
 ·have t5:=eq_true n5
  rw[if_pos n5]at h
  simp only[sJ]at h
  subst h
  have a1:=q3 [61,61] (.inl n5) rfl
  have a2:=q3 [33,61] (.inl n5) rfl
  have a3:=q3 [60,61] (.inl n5) rfl
  have a4:=q3 [62,61] (.inl n5) rfl
  simp only[sA,sB,seval,n1,n2,n3,n4,a1,a2,a3,a4,t5]
  refine qA.mono ?_
  rintro _ H4 ⟨rfl,E4⟩
  obtain⟨L,l1,l2,l3⟩:=fi ⟨false,if a.x<b.x then jK else 0,0,0⟩ E4
  rw[show yw (decide (a.x<b.x))=⟨false,if a.x<b.x then jK else 0,0,0⟩ by simp[yw]]
  simp only[sA,sB,seval,J2,l1,dx,aD,l2]
  exact⟨tt,l3⟩
 rw[if_neg n5]at h
 by_cases n6:s=[62]
 ·have t6:=eq_true n6
  rw[if_pos n6]at h
  simp only[sJ]at h
  subst h
  have a1:=q3 [61,61] (.inr n6) rfl
  have a2:=q3 [33,61] (.inr n6) rfl
  have a3:=q3 [60,61] (.inr n6) rfl
  have a4:=q3 [62,61] (.inr n6) rfl
  simp only[sA,sB,seval,n1,n2,n3,n4,a1,a2,a3,a4,n5,t6]
  refine qA.mono ?_
  rintro _ H4 ⟨rfl,E4⟩
  obtain⟨L,l1,l2,l3⟩:=fi ⟨false,if b.x<a.x then jK else 0,0,0⟩ E4
  rw[show yw (decide (b.x<a.x))=⟨false,if b.x<a.x then jK else 0,0,0⟩ by simp[yw]]
  simp only[sA,sB,seval,J2,l1,dx,aD,l2]
  exact⟨tt,l3⟩
 rw[if_neg n6]at h
 simp at h
theorem Eu{wb:Nat}{a b c:Vl}{H:ae}:az Tryz.prog aH 123 [af wb 11 0,.str [118,101,99],.agg (v3 a.x a.y a.z),.agg (v3 b.x b.y b.z),.agg (v3 c.x c.y c.z)] H fun u H'=>u=.agg (iX ⟨true,a.x,b.x,c.x⟩)/\cZ H.next H H':=by
 obtain⟨H1,m1,r1,n1,k1⟩:=aw H (v3 a.x a.y a.z) (n:=3) rfl
 obtain⟨H2,m2,r2,n2,k2⟩:=aw H1 (v3 b.x b.y b.z) (n:=3) rfl
 obtain⟨H3,m3,r3,n3,k3⟩:=aw H2 (v3 c.x c.y c.z) (n:=3) rfl
 obtain⟨H4,m4,r4,n4,k4⟩:=aw H3 (iX ⟨false,0,0,0⟩) (n:=4) rfl
 obtain⟨p1,_⟩:=vV (((r1.same (k2 _ om)).same (k3 _ om)).same (k4 _ om))
 obtain⟨p2,_⟩:=vV ((r2.same (k3 _ om)).same (k4 _ om))
 obtain⟨p3,_⟩:=vV (r3.same (k4 _ om))
 obtain⟨H5,m5,r5,n5,k5⟩:=ak r4 (n:=4) rfl (xs:=iX ⟨true,a.x,b.x,c.x⟩) rfl rfl
 have w:=aA r5 (n:=4) rfl
 refine aj rfl Pd rfl ?_
 simp only[Qi,sA,sB,seval,cB,m1,m2,m3,m4,fld0,p1,p2,p3,Sr,J2,m5,dx,aD,w]
 exact⟨tt,⟨om,fun c hc=>by rw[k5 c om,k4 c om,k3 c om,k2 c om,k1 c om]⟩⟩
open Go.Abs Go.Abs.S
theorem yJ{α:Type}{C xs:List α}{o n K:Nat}(hx:xs.length=n)(h:o+n<=K)(hK:K<=C.length):(C.take o++(xs++C.drop (o+n))).take K=(C.take K).take o++(xs++(C.take K).drop (o+n)):=by
 rw[List.take_take,Nat.min_eq_left om,List.drop_take]
 obtain⟨A,hA⟩:∃A,A=C.take o:=⟨_,rfl⟩
 obtain⟨B,hB⟩:∃B,B=C.drop (o+n):=⟨_,rfl⟩
 have lA:A.length=o:=by rw[hA,SZ]; omega
 rw[<- hA,<- hB,List.take_append,List.take_of_length_le om,List.take_append,List.take_of_length_le om,lA,hx,show K-o-n=K-(o+n) by omega]
theorem xH{m k:Nat}{H:ae}{s:aa}{L:List aa}(h:cp m H s L k){i:Nat}(hi:i<k){j n:Nat}(hj:j+n<=m) :
  ∃b lim,iU m s (.int .i64 (i:Int))=some (af b lim (i*m))/\da s (b=·)/\b<H.next/\au true n H (af b lim (i*m+j))=some (.agg ((L.drop (i*m+j)).take n)) /\
   ∀xs:List aa,xs.length=n->xs.all aa.one=true->∃H',bu n H (af b lim (i*m+j)) (.agg xs)=some H'/\cp m H' s (L.take (i*m+j)++(xs++L.drop (i*m+j+n))) k/\H'.next=H.next/\∀c,c≠b->H'.get c=H.get c:=by
 have him:i*m+m<=k*m:=by
  have:(i+1)*m<=k*m:=Nat.mul_le_mul_right _ hi
  rwa [Nat.add_mul,Nat.one_mul]at this
 have hb:Nat.blt i k=true:=by simpa[Nat.blt_eq] using hi
 rcases h with⟨_,_,h⟩ | ⟨b,C,low,r,rfl,h2,h3,h4,h5,h6,h7,h8⟩
 ·omega
 ·have R:a6 H b C:=⟨low,h3,h4⟩
  refine⟨b,C.length,?_,cH rfl,h8,?_,fun xs hx ho=>?_⟩
  ·rcases h2 with rfl | ⟨cap,rfl,_⟩
   ·exact NO .i64 hi
   ·show (bif Nat.blt i k then some (aa.ptr (some ⟨b,C.length,0+i*m⟩)) else none)=_
    rw[hb,Nat.zero_add]; rfl
  ·rw[cK R rfl om]
   congr 2
   rw[<- h5,List.drop_take,List.take_take,Nat.min_eq_left om]
  ·obtain⟨H',g1,⟨low',g2,g2'⟩,g3,g4⟩:=nk R rfl (i:=i*m+j) (k:=n) om hx ho
   have hl:(C.take (i*m+j)++(xs++C.drop (i*m+j+n))).length=C.length:=by
    simp only[lA,SZ,SY]; omega
   refine⟨H',g1,.inr ⟨b,_,low',r,by rw[hl],?_,g2,g2',?_,?_,by rw[hl]; exact h7,om⟩,g3,g4⟩
   ·rw[hl]; exact h2
   ·rw[yJ hx om h7,h5]
   ·simp only[lA,SZ,SY]; omega
def jv(p:Bs×Vl):List aa:=.str p.1::iX p.2
def dT(l:List (Bs×Vl)):List aa:=l.flatMap jv
theorem sj(p:Bs×Vl):(jv p).length=5:=rfl
theorem EB(l:List (Bs×Vl))(p:Bs×Vl):dT (l++[p])=dT l++jv p:=by simp[dT]
theorem AQ(l:List (Bs×Vl)):∀n:Nat,(dT l).take (n*5)=dT (l.take n):=by
 induction l with
 | nil=>intro n; simp[dT]
 | cons p l ih=>
  intro n
  cases n with
  | zero=>simp[dT]
  | succ n=>
   have:=ih n
   simp only[dT,List.flatMap_cons,List.take_succ_cons]at this ⊢
   rw[List.take_append,List.take_of_length_le (by rw[sj]; omega),sj,show (n+1)*5-5=n*5 by omega,this]
theorem si{l:List (Bs×Vl)}:∀{i:Nat} {p:Bs×Vl},l[i]?=some p->∃A B,dT l=A++(jv p++B)/\A.length=i*5/\∀q,dT (l.set i q)=A++(jv q++B):=by
 induction l with
 | nil=>intro i p h; simp at h
 | cons x l ih=>
  intro i p h
  cases i with
  | zero=>
   simp only[SL,sJ]at h
   subst h
   exact⟨[],dT l,by simp[dT],rfl,fun q=>by simp[dT]⟩
  | succ i=>
   rw[SN]at h
   obtain⟨A,B,h1,h2,h3⟩:=ih h
   refine⟨jv x++A,B,?_,by rw[lA,sj,h2]; omega,fun q=>?_⟩
   ·show jv x++dT l=_
    rw[h1,SQ]
   ·show jv x++dT (l.set i q)=_
    rw[h3 q,SQ]
def pB(vs:aa)(F:Int)(w:Wk):List aa:=[vs,.int .i64 0,.int .i64 0,bJ,.int .i64 (w.st:Int),.int .i64 F,.bool w.spent,.bool w.ended,.int .i64 w.out.1,.int .i64 w.out.2.1,.int .i64 w.out.2.2]
structure pk(n:Nat)(H:ae)(wb:Nat)(F:Int)(vs:aa)(w:Wk):Prop where
 row:a6 H wb (pB vs F w)
 lin:cp 5 H vs (dT w.vars) w.vars.length
 blk:da vs (fun c=>n<=c/\c≠wb)
 wn:n<=wb
 lt:wb<H.next
theorem pk.keep{n wb:Nat}{H H':ae}{F:Int}{vs:aa}{w:Wk}(h:pk n H wb F vs w)(e:cZ H.next H H'):pk n H' wb F vs w:=
 ⟨h.row.same (e.old _ h.lt),h.lin.same e.next (h.lin.blk.mono fun b hb=>e.old b hb),h.blk,h.wn,SR h.lt e.next⟩
theorem pk.turn{n wb:Nat}{H H':ae}{F:Int}{vs:aa}{w w':Wk}(h:pk n H wb F vs w)(r:a6 H' wb (pB vs F w'))(hv:w'.vars=w.vars)(hn:H'.next=H.next)(k:∀c,c≠wb->H'.get c=H.get c):pk n H' wb F vs w':=
 ⟨r,by rw[hv]; exact h.lin.same om (h.blk.mono fun b hb=>k b hb.2),h.blk,h.wn,by have:=h.lt; omega⟩
theorem JY{H:ae}{wb:Nat}{vs:aa}{F:Int}{w:Wk}(r:a6 H wb (pB vs F w)):au false 1 H (af wb 11 0)=some vs/\au false 1 H (af wb 11 4)=some (.int .i64 (w.st:Int))/\au false 1 H (af wb 11 5)=some (.int .i64 F)/\au false 1 H (af wb 11 6)=some (.bool w.spent)/\au false 1 H (af wb 11 7)=some (.bool w.ended)/\au true 3 H (af wb 11 8)=some (.agg (v3 w.out.1 w.out.2.1 w.out.2.2)):=
 ⟨am r rfl rfl,am r rfl rfl,am r rfl rfl,am r rfl rfl,am r rfl rfl,cK (i:=8) (k:=3) r rfl (by show 11<=11; omega)⟩
theorem iI(b n i:Nat):cF (af b n i)=some (af b n i):=rfl
theorem rV{n wb:Nat}{H:ae}{F:Int}{vs:aa}{w:Wk}(h:pk n H wb F vs w)(hF:F<=9223372036854775807) :
  az Tryz.prog aH 75 [af wb 11 0] H fun u H'=>(if F<=(w.st:Int) then u=.bool false/\pk n H' wb F vs { w with spent:=true } else u=.bool true/\pk n H' wb F vs { w with st:=w.st+1 })/\H'.next=H.next/\∀c,c≠wb->H'.get c=H.get c:=by
 obtain⟨l0,l4,l5,l6,l7,_⟩:=JY h.row
 refine aj rfl Q0 rfl ?_
 by_cases c:F<=(w.st:Int)
 ·obtain⟨H1,m1,r1,n1,k1⟩:=cu h.row (n:=11) rfl (i:=6) om (x:=.bool true) rfl (l':=pB vs F { w with spent:=true }) rfl
  simp only[Si,sA,sB,seval,iI,aZ,l4,l5,c,m1]
  exact⟨⟨tt,h.turn r1 rfl n1 k1⟩,n1,k1⟩
 ·have ww:IntKind.i64.wrap ((w.st:Int)+1)=((w.st+1:Nat):Int):=kJ
  obtain⟨H1,m1,r1,n1,k1⟩:=cu h.row (n:=11) rfl (i:=4) om (x:=.int .i64 ((w.st+1:Nat):Int)) rfl (l':=pB vs F { w with st:=w.st+1 }) rfl
  simp only[Si,sA,sB,seval,iI,aZ,l4,l5,c,ww,m1]
  exact⟨⟨tt,h.turn r1 rfl n1 k1⟩,n1,k1⟩
theorem rZ{n wb:Nat}{H:ae}{F:Int}{vs:aa}{w:Wk}(h:pk n H wb F vs w):az Tryz.prog aH 45 [af wb 11 0] H fun u H'=>u=.bool w.over/\H=H':=by
 obtain⟨l0,l4,l5,l6,l7,_⟩:=JY h.row
 refine aj rfl Rn rfl ?_
 cases hs:w.spent with
 | true=>
  rw[hs]at l6
  simp only[Sl,sA,sB,seval,iI,aZ,l6]
  exact⟨by simp[Wk.over,hs],tt⟩
 | false=>
  rw[hs]at l6
  simp only[Sl,sA,sB,seval,iI,aZ,l6,l7]
  exact⟨by simp[Wk.over,hs],tt⟩
open Go.Abs Go.Abs.S
theorem pN(l:List (Bs×Vl))(s:Bs)(hl:0<l.length):∀i,i<l.length->bS l s i<l.length
 | 0,_=>hl
 | i+1,h=>by
  rw[bS,SB h]
  simp only
  split
  ·exact h
  ·exact pN l s hl i om
theorem sd{n wb:Nat}{H:ae}{F:Int}{vs:aa}{w:Wk}(h:pk n H wb F vs w)(hl:0<w.vars.length)(hm:w.vars.length<=1000000)(s:Bs) :
  az Tryz.prog aH 77 [af wb 11 0,.str s] H fun u H'=>(∃b lim,iU 5 vs (.int .i64 (bS w.vars s (w.vars.length-1):Int))=some (af b lim (bS w.vars s (w.vars.length-1)*5))/\u=af b lim (bS w.vars s (w.vars.length-1)*5+1))/\H=H':=by
 obtain⟨l0,_⟩:=JY h.row
 have hlen:=h.lin.len
 have w1:IntKind.i64.wrap ((w.vars.length:Int)-1)=((w.vars.length-1:Nat):Int):=kJ
 refine aj rfl QY rfl ?_
 simp only[c77,sA,sB,seval,iI,fld0,l0,hlen,w1]
 refine cg (fun m (T:cD) K=>H=K/\∃i:Nat,m=i/\i<w.vars.length/\bS w.vars s i=bS w.vars s (w.vars.length-1)/\T 0=af wb 11 0/\T 1=.str s/\T 5=.int .i64 (i:Int)) (w.vars.length-1)
  ⟨rfl,w.vars.length-1,rfl,om,rfl,by simp only[sA,sB,seval],by simp only[sA,sB,seval],by simp only[sA,sB,seval]⟩ ?_
 rintro m T K ⟨rfl,i,rfl,hi,he,g0,g1,g5⟩
 cases m with
 | zero=>
  obtain⟨b,lim,a1,_,_⟩:=xH h.lin (i:=0) om (j:=1) (n:=4) om
  have c0:¬(0:Int)<0:=by decide
  rw[show bS w.vars s 0=0 from rfl]at he
  rw[<- he]
  simp only[Nat.zero_mul,Nat.zero_add,Int.cast_ofNat_Int]at a1 ⊢
  simp only[sA,sB,seval,iI,g0,g1,g5,fld0,l0,c0,Int.cast_ofNat_Int,a1,aZ]
  exact⟨⟨b,lim,tt,tt⟩,tt⟩
 | succ i=>
  have c0:(0:Int)<((i+1:Nat):Int):=om
  obtain⟨p,hp⟩:∃p,w.vars[i+1]?=some p:=⟨_,SB hi⟩
  obtain⟨A,B,e1,e2,_⟩:=si hp
  obtain⟨b,lim,a1,_,a3⟩:=h.lin.cell hi
  have ld:=a3 0 (.str p.1) om (by rw[e1,Nat.add_zero,<- e2,SU rL,Nat.sub_self]; rfl)
  have he2:=he
  rw[bS,hp]at he2
  simp only at he2
  by_cases hs:p.1=s
  ·rw[if_pos hs]at he2
   rw[<- he2]
   have t1:(p.1≠s)=False:=by simp[hs]
   simp only[sA,sB,seval,iI,g0,g1,g5,fld0,l0,c0,a1,ld,aZ,hs]
   exact⟨⟨b,lim,tt,tt⟩,tt⟩
  ·rw[if_neg hs]at he2
   have w2:IntKind.i64.wrap (((i+1:Nat):Int)-1)=((i:Nat):Int):=kJ
   simp only[sA,sB,seval,iI,g0,g1,g5,fld0,l0,c0,a1,ld,aZ,hs,w2]
   exact⟨_,om,tt,i,rfl,om,he2,tt,tt,tt⟩
open Go.Abs Go.Abs.S
theorem Da{α:Type}{g:α->List aa}{m:Nat}(hg:∀x,(g x).length=m):∀{l:List α} {i:Nat} {p:α},l[i]?=some p->∃A B,l.flatMap g=A++(g p++B)/\A.length=i*m/\∀q,(l.set i q).flatMap g=A++(g q++B)
 | [],i,p,h=>by simp at h
 | x::l,0,p,h=>by
  simp only[SL,sJ]at h
  subst h
  exact⟨[],l.flatMap g,by simp,by simp,fun q=>by simp⟩
 | x::l,i+1,p,h=>by
  rw[SN]at h
  obtain⟨A,B,h1,h2,h3⟩:=Da hg h
  refine⟨g x++A,B,?_,by rw[lA,hg,h2,Nat.add_mul]; omega,fun q=>?_⟩
  ·rw[List.flatMap_cons,h1,SQ]
  ·rw[List.set_cons_succ,List.flatMap_cons,h3 q,SQ]
def Gj(l:List (Bs×Vl)):Prop:=(∀p∈l,rq p.2)/\0<l.length/\l.length<=1000000
theorem j0:iB 0:=⟨by decide,by decide⟩
theorem j1:iB jK:=⟨by decide,by decide⟩
theorem xD{a b r:Int}(h:uQ a b=some r):iB r:=by
 unfold uQ at h
 split at h <;> first | (simp at h; done) | skip
 rename_i hb
 simp only[sJ]at h
 subst h
 have h1:0<=a*b:=Int.mul_nonneg hb.1 hb.2.2.1
 have h2:a*b<=17179869184*17179869184:=Int.mul_le_mul hb.2.1 hb.2.2.2 hb.2.2.1 dD
 exact⟨om,om⟩
theorem xV{a b r:Int}(h:nG a b=some r):iB r:=by
 unfold nG at h
 split at h <;> first | (simp at h; done) | skip
 split at h
 ·simp only[sJ]at h; subst h; exact j0
 ·split at h <;> first | (simp at h; done) | skip
  simp only[sJ]at h; subst h; exact j1
theorem Nr(b:Bool):rq (yw b):=⟨by unfold yw; cases b; exact j0; exact j1,j0,j0⟩
theorem Ny{s:Bs}{a b r:Vl}(h:y5 s a b=some r)(oa:rq a)(ob:rq b):rq r:=by
 unfold y5 at h
 repeat' split at h
 all_goals first
  | (simp at h; done)
  | (simp only[sJ]at h; subst h; first | exact⟨yf oa.x ob.x,yf oa.y ob.y,yf oa.z ob.z⟩ | exact⟨w9 oa.x ob.x,w9 oa.y ob.y,w9 oa.z ob.z⟩ | exact Nr _ | exact⟨xD ‹_›,xD ‹_›,xD ‹_›⟩ | exact⟨xV ‹_›,xV ‹_›,xV ‹_›⟩)
def z4:Vl:=⟨false,0,0,0⟩
def Ii(v:List Vl):List aa:=(v++List.replicate (3-v.length) z4).flatMap iX
theorem MY{b i:Nat}(h:i<3):fw 3 4 (af b 12 0) (.int .i64 (i:Int))=some (af b 12 (i*4)):=by
 match i,h with
 | 0,_=>rfl
 | 1,_=>rfl
 | 2,_=>rfl
theorem CY{H:ae}{b:Nat}{v:List Vl}(r:a6 H b (Ii v))(h:v.length<3)(x:Vl):∃H',bu 4 H (af b 12 (v.length*4)) (.agg (iX x))=some H'/\a6 H' b (Ii (v++[x]))/\H'.next=H.next/\∀c,c≠b->H'.get c=H.get c:=by
 have hl:(v++List.replicate (3-v.length) z4)[v.length]?=some z4:=by
  rw[SU rL,Nat.sub_self,List.getElem?_replicate]
  rw[if_pos om]
 obtain⟨A,B,e1,e2,e3⟩:=Da (g:=iX) (m:=4) (fun _=>rfl) hl
 have hlen:(Ii v).length=12:=by
  unfold Ii
  have:∀l:List Vl,(l.flatMap iX).length=l.length*4:=fun l=>by
   induction l with
   | nil=>rfl
   | cons a l ih=>rw[List.flatMap_cons,lA,ih]; simp only[SF,SG]; omega
  rw[this,lA,List.length_replicate]; omega
 obtain⟨H',m1,r1,n1,k1⟩:=nk r hlen (i:=v.length*4) (k:=4) om (xs:=iX x) rfl rfl
 refine⟨H',m1,?_,n1,k1⟩
 have hz:(iX z4).length=4:=rfl
 have q1:(Ii v).take (v.length*4)=A:=by unfold Ii; rw[e1,<- e2,List.take_left]
 have q2:(Ii v).drop (v.length*4+4)=B:=by
  unfold Ii
  rw[e1,<- e2,<- List.drop_drop,List.drop_left,<- hz,List.drop_left]
 rw[q1,q2,<- e3 x]at r1
 have hs:(v++List.replicate (3-v.length) z4).set v.length x=(v++[x])++List.replicate (3-(v++[x]).length) z4:=by
  rw[List.set_append_right _ _ rL,Nat.sub_self,lA,List.length_singleton,show 3-v.length=(3-(v.length+1))+1 by omega,List.replicate_succ,List.set_cons_zero,SQ]
  rfl
 unfold Ii
 rw[<- hs]
 exact r1
open Go.Abs Go.Abs.S
theorem Lv{vs:List (Bs×Vl)}{F:Int}{e:Ex}{l:List Ex}{st S:Nat}{q:Option (List Vl)}(h:eK vs F (e::l) st=some (q,S)) :
  (eE vs F e st=some (none,S)/\q=none)∨∃v st',eE vs F e st=some (some v,st')/\∃q',eK vs F l st'=some (q',S)/\q=q'.map (v::·):=by
 rw[eK]at h
 split at h <;> first | (simp at h; done) | skip
 ·rename_i st' he
  simp only[sJ,pJ]at h
  obtain⟨rfl,rfl⟩:=h
  exact .inl ⟨he,rfl⟩
 ·rename_i v st' he
  refine .inr ⟨v,st',he,?_⟩
  split at h <;> first | (simp at h; done) | skip
  ·rename_i st2 hk
   simp only[sJ,pJ]at h
   obtain⟨rfl,rfl⟩:=h
   exact⟨none,hk,rfl⟩
  ·rename_i r st2 hk
   simp only[sJ,pJ]at h
   obtain⟨rfl,rfl⟩:=h
   exact⟨some r,hk,rfl⟩
def ExQ(n wb:Nat)(F:Int)(vs:aa)(w:Wk)(r:Option Vl)(st:Nat)(H:ae)(u:aa)(H':ae):Prop:=
 (match r with
  | some v=>u=.agg (iX v)/\rq v/\pk n H' wb F vs { w with st:=st }
  | none=>u=.agg (iX z4)/\pk n H' wb F vs { w with st:=st,spent:=true })/\H.next<=H'.next/\∀c,c<H.next->c≠wb->H'.get c=H.get c
theorem Qw:aL [.bool false,.int .i64 0,.int .i64 0,.int .i64 0] []=some (.agg (iX z4)):=rfl
theorem PO{vs:List (Bs×Vl)}{s:Bs}{n:Int}{v:List Vl}{r:Vl}(h:Fc vs 1 s n v=some r):r=⟨false,n,0,0⟩/\iB n:=by
 unfold Fc at h
 rw[if_pos rfl]at h
 split at h <;> first | (simp at h; done) | skip
 split at h <;> first | (simp at h; done) | skip
 rename_i hb
 simp only[sJ]at h
 exact⟨h.symm,hb⟩
theorem PN{vs:List (Bs×Vl)}{s:Bs}{n:Int}{v:List Vl}{r:Vl}(h:Fc vs 2 s n v=some r):∃p,vs[bS vs s (vs.length-1)]?=some p/\r=p.2:=by
 unfold Fc at h
 rw[if_neg dD,if_pos rfl]at h
 split at h <;> first | (simp at h; done) | skip
 split at h <;> first | (simp at h; done) | skip
 rename_i p hp
 simp only[sJ]at h
 exact⟨p,hp,h.symm⟩
theorem PM{vs:List (Bs×Vl)}{s:Bs}{n:Int}{v:List Vl}{r:Vl}(h:Fc vs 3 s n v=some r):∃a b,v=[a,b]/\y5 s a b=some r:=by
 unfold Fc at h
 rw[if_neg dD,if_neg dD,if_pos rfl]at h
 split at h <;> first | (simp at h; done) | skip
 exact⟨_,_,rfl,h⟩
theorem PI{vs:List (Bs×Vl)}{k:Nat}{s:Bs}{n:Int}{v:List Vl}{r:Vl}(h:Fc vs k s n v=some r)(h1:¬k=1)(h2:¬k=2)(h3:¬k=3):∃a b c,v=[a,b,c]/\s=[118,101,99]/\r=⟨true,a.x,b.x,c.x⟩:=by
 unfold Fc at h
 rw[if_neg h1,if_neg h2,if_neg h3]at h
 split at h <;> first | (simp at h; done) | skip
 split at h <;> first | (simp at h; done) | skip
 rename_i hs
 simp only[sJ]at h
 exact⟨_,_,_,rfl,hs,h.symm⟩
set_option maxRecDepth 20000 in
theorem AN{F:Int}(hF:F<=9223372036854775807):∀(N:Nat) {e:Ex} {c:List aa} {H:ae} {n0 n wb:Nat} {vs p:aa} {w:Wk} {r:Option Vl} {st:Nat},e.size<=N->nU H p c->(∀a,p=.ptr (some a)->a.b<n0)->XE (·<n0) H e c->n0<=n ->
  pk n H wb F vs w->Gj w.vars->w.spent=false->eE w.vars F e w.st=some (r,st)->az Tryz.prog aH 76 [af wb 11 0,p] H (ExQ n wb F vs w r st H):=by
 intro N
 induction N with
 | zero=>intro e c H n0 n wb vs p w r st hs; exact absurd hs (by cases e; simp only[Ex.size]; omega)
 | succ N ih=>
  intro e c H n0 n wb vs p w r st hs hp hpb hx hn0 hw hv hsp he
  obtain⟨k,s,m,kids⟩:=e
  obtain⟨kv,C,rfl,hk1,hk2⟩:=hx
  rw[eE]at he
  split at he <;> first | (simp at he; done) | skip
  rename_i h3
  have hk3:kids.length<=3:=om
  have hwn:=hw.wn
  have hwl:=hw.lt
  obtain⟨H1,m1,r1,n1,k1⟩:=aw H (iX z4) (n:=4) rfl
  obtain⟨H2,m2,r2,n2,k2⟩:=aw H1 (Ii []) (n:=12) rfl
  have E2:cZ H.next H H2:=⟨om,fun c hc=>by rw[k2 c om,k1 c om]⟩
  have keepT:∀{K:ae},(∀c,c<H.next->c≠wb->K.get c=H.get c)->nU K p [.int .u8 (k:Int),.str s,.int .i64 m,kv]/\jt (·<n0) K 4 kv kids.length C/\AH (·<n0) K kids C:=fun q=>
   ⟨hp.same fun a ea=>q a.b (by have:=hpb a ea; omega) (by have:=hpb a ea; omega),hk1.mono fun b hb=>⟨hb,q b om om⟩,hk2.mono fun b hb=>⟨hb,q b om om⟩⟩
  have m1':fS H [.bool false,.int .i64 0,.int .i64 0,.int .i64 0]=(af H.next 4 0,H1):=m1
  have m2':fS H1 [.bool false,.int .i64 0,.int .i64 0,.int .i64 0,.bool false,.int .i64 0,.int .i64 0,.int .i64 0,.bool false,.int .i64 0,.int .i64 0,.int .i64 0]=(af H1.next 12 0,H2):=m2
  obtain⟨b4,hb4⟩:∃b,b=H.next:=⟨_,rfl⟩
  obtain⟨kb,hkb⟩:∃b,b=H1.next:=⟨_,rfl⟩
  rw[<- hb4]at m1' r1
  rw[<- hkb]at m2' r2
  have fi:∀{K:ae} (v:Vl),a6 K b4 (iX z4)->∃L,bu 4 K (af b4 4 0) (.agg (iX v))=some L/\au true 4 L (af b4 4 0)=some (.agg (iX v))/\L.next=K.next/\∀c,c≠b4->L.get c=K.get c:=fun v rr=>by
   obtain⟨L,mm,rr,nn,kk⟩:=ak rr (n:=4) rfl (xs:=iX v) rfl rfl
   exact⟨L,mm,aA rr rfl,nn,kk⟩
  have keepW:∀{K L:ae} {w':Wk} {x:Nat},pk n K wb F vs w'->L.next=K.next->(∀c,c≠x->L.get c=K.get c)->H.next<=x->pk n L wb F vs w':=fun hw' nn kk hne=>
   ⟨hw'.row.same (kk _ om),hw'.lin.same om fun a mm rr ea=>kk _ (by have:=hw.lin.blk a mm rr ea; omega),hw'.blk,hw'.wn,by have:=hw'.lt; omega⟩
  cases hK:eK w.vars F kids w.st with
  | none=>rw[hK]at he; simp at he
  | some q0=>
  obtain⟨R,S⟩:=q0
  rw[hK]at he
  obtain⟨pt2,sl2,_⟩:=keepT (K:=H2) fun c hc _=>E2.old c hc
  have ld3':=pt2.load (o:=3) (x:=kv) rfl
  refine aj rfl QZ rfl ?_
  simp only[c76,sA,sB,seval,m1',m2',pt2.chk,pt2.fld,ld3',sl2.len]
  refine cg (fun mm (T:cD) K=>∃(i:Nat) (v:List Vl) (sti:Nat) (q:Option (List Vl)),mm=kids.length-i/\i<=kids.length/\v.length=i/\(∀x∈v,rq x)/\eK w.vars F (kids.drop i) sti=some (q,S)/\R=q.map (v++·)/\T 0=af wb 11 0/\T 1=p/\T 4=af b4 4 0/\T 5=af kb 12 0/\T 11=.int .i64 (kids.length:Int)/\T 12=.int .i64 (i:Int) /\
    pk n K wb F vs { w with st:=sti }/\a6 K b4 (iX z4)/\a6 K kb (Ii v)/\H2.next<=K.next/\∀c,c<H.next->c≠wb->K.get c=H.get c) kids.length
   ⟨0,[],w.st,R,rfl,om,rfl,by simp,hK,by cases R <;> simp,by simp only[sA,sB,seval],by simp only[sA,sB,seval],by simp only[sA,sB,seval],by simp only[sA,sB,seval],by simp only[sA,sB,seval],by simp only[sA,sB,seval,Int.cast_ofNat_Int],hw.keep E2,r1.same (k2 _ om),r2,Nat.le_refl _,fun c hc _=>E2.old c hc⟩ ?_
  rintro mm T K ⟨i,v,sti,q,rfl,hi,hvl,hvo,hq,hR,g0,g1,g4,g5,g11,g12,hwK,rK4,rKk,hnK,kK⟩
  obtain⟨pt,sl,xs⟩:=keepT kK
  by_cases hlt:i<kids.length
  ·have hlt':(i:Int)<(kids.length:Int):=om
   have vV:=pt.load (o:=3) (x:=kv) rfl
   rw[List.drop_eq_getElem_cons hlt]at hq
   have hx':=xs.at (i:=i) (e:=kids[i]) (SB hlt)
   have hsz:kids[i].size<=N:=by
    have:=sP (List.getElem_mem hlt)
    simp only[Ex.size]at hs
    omega
   have pti:=sl.pt hlt
   have hpi:∀a,cC 4 kv i=.ptr (some a)->a.b<n0:=fun a ea=>by
    rcases sl with⟨_,h0,_⟩ | ⟨a',r',rfl,hb',_⟩
    ·omega
    ·simp only[cC,aa.ptr.injEq,sJ]at ea
     subst ea; exact hb'
   simp only[sA,sB,seval,g0,g1,g4,g5,g11,g12,hlt',pt.chk,pt.fld,vV,sl.idx hlt]
   rcases Lv hq with⟨h1,rfl⟩ | ⟨x,st',h1,q',h2,rfl⟩
   ·refine (ih hsz pti hpi hx' hn0 hwK hv hsp h1).mono ?_
    rintro _ L ⟨⟨rfl,hwL⟩,hnL,kL⟩
    subst hvl
    obtain⟨L2,p1,p2,p3,p4⟩:=CY (rKk.same (kL kb om om)) om z4
    have hw2:=keepW hwL p3 p4 om
    obtain⟨_,_,_,l6,_⟩:=JY hw2.row
    obtain⟨L3,s1,s2,s3,s4⟩:=fi z4 ((rK4.same (kL b4 om om)).same (p4 b4 om))
    have hw3:=keepW hw2 s3 s4 om
    simp only[sA,sB,seval,g0,g1,g4,g5,MY (show v.length<3 by omega),p1,iI,aZ,l6,Qw,s1,dx,aD,s2]
    have hn:R=none:=hR
    subst hn
    simp only[sJ,pJ]at he
    obtain⟨rfl,rfl⟩:=he
    refine⟨⟨tt,hw3⟩,om,fun c hc hne=>by rw[s4 c om,p4 c om,kL c om hne,kK c hc hne]⟩
   ·refine (ih hsz pti hpi hx' hn0 hwK hv hsp h1).mono ?_
    rintro _ L ⟨⟨rfl,ox,hwL⟩,hnL,kL⟩
    subst hvl
    obtain⟨L2,p1,p2,p3,p4⟩:=CY (rKk.same (kL kb om om)) om x
    have hw2:=keepW hwL p3 p4 om
    obtain⟨_,_,_,l6,_⟩:=JY hw2.row
    have wi:IntKind.i64.wrap ((v.length:Int)+1)=((v.length+1:Nat):Int):=kJ
    have l6':au false 1 L2 (af wb 11 6)=some (.bool false):=by rw[l6]; simp[hsp]
    simp only[sA,sB,seval,g0,g1,g4,g5,g12,MY (show v.length<3 by omega),p1,iI,aZ,l6',wi]
    refine⟨_,om,v.length+1,v++[x],st',q',rfl,om,by simp,?_,h2,?_,tt,tt,tt,tt,g11,tt,hw2,(rK4.same (kL b4 om om)).same (p4 b4 om),p2,om,fun c hc hne=>by rw[p4 c om,kL c om hne,kK c hc hne]⟩
    ·intro y hy
     rcases List.mem_append.1 hy with hy | hy
     ·exact hvo y hy
     ·rw[List.mem_singleton.1 hy]; exact ox
    ·rw[hR]; cases q' <;> simp
  ·have hie:i=kids.length:=om
   subst hie
   have hlt':¬(kids.length:Int)<(kids.length:Int):=om
   rw[List.drop_length,eK]at hq
   simp only[sJ,pJ]at hq
   obtain⟨rfl,rfl⟩:=hq
   have hR':R=some v:=by rw[hR]; simp
   subst hR'
   simp only[sA,sB,seval,g0,g1,g4,g5,g11,g12,hlt']
   refine (rV hwK hF).mono ?_
   rintro u L ⟨hu,hnL,kL⟩
   simp only at he
   have rL4:=rK4.same (kL b4 om)
   have rLk:=rKk.same (kL kb om)
   by_cases hf:F<=(sti:Int)
   ·rw[if_pos hf]at hu he
    obtain⟨rfl,hwL⟩:=hu
    simp only[sJ,pJ]at he
    obtain⟨rfl,rfl⟩:=he
    obtain⟨L3,s1,s2,s3,s4⟩:=fi z4 rL4
    have hw3:=keepW hwL s3 s4 om
    simp only[sA,sB,seval,g4,Qw,s1,dx,aD,s2]
    exact⟨⟨tt,hw3⟩,om,fun c hc hne=>by rw[s4 c om,kL c om,kK c hc hne]⟩
   ·rw[if_neg hf]at hu he
    obtain⟨rfl,hwL⟩:=hu
    obtain⟨ptL,_,_⟩:=keepT (K:=L) fun c hc hne=>by rw[kL c om,kK c hc hne]
    have q0:=ptL.load0 (x:=.int .u8 (k:Int)) rfl
    have q1:=ptL.load (o:=1) (x:=.str s) rfl
    have q2:=ptL.load (o:=2) (x:=.int .i64 m) rfl
    have q3:=ptL.load (o:=3) (x:=kv) rfl
    split at he <;> first | (simp at he; done) | skip
    rename_i x hop
    simp only[sJ,pJ]at he
    obtain⟨rfl,rfl⟩:=he
    have ix0:fw 3 4 (af kb 12 0) (.int .i64 0)=some (af kb 12 0):=rfl
    have ix1:fw 3 4 (af kb 12 0) (.int .i64 1)=some (af kb 12 4):=rfl
    have ix2:fw 3 4 (af kb 12 0) (.int .i64 2)=some (af kb 12 8):=rfl
    have done:∀{L1:ae} {y:Vl},cZ L.next L L1->rq y->∃L2,bu 4 L1 (af b4 4 0) (.agg (iX y))=some L2/\au true 4 L2 (af b4 4 0)=some (.agg (iX y))/\ExQ n wb F vs w (some y) (sti+1) H (.agg (iX y)) L2:=fun {L1 y} E1 oy=>by
     have en:=E1.next
     obtain⟨L3,s1,s2,s3,s4⟩:=fi y (rL4.same (E1.old b4 om))
     exact⟨L3,s1,s2,⟨rfl,oy,keepW (hwL.keep E1) s3 s4 om⟩,om,fun c hc hne=>by rw[s4 c om,E1.old c om,kL c om,kK c hc hne]⟩
    by_cases k1:k=1
    ·subst k1
     obtain⟨rfl,jm⟩:=PO hop
     simp only[sA,sB,seval,g0,g1,g4,g5,ptL.chk,ptL.fld0,ptL.fld,q0,q2]
     refine ij.mono ?_
     rintro _ L1 ⟨rfl,E1⟩
     obtain⟨L2,s1,s2,s3⟩:=done (y:=⟨false,m,0,0⟩) E1 ⟨jm,j0,j0⟩
     simp only[sA,sB,seval,g4,J2,s1,dx,aD,s2]
     exact s3
    have k1':¬(k:Int)=1:=om
    by_cases k2:k=2
    ·subst k2
     obtain⟨pr,hpr,rfl⟩:=PN hop
     simp only[sA,sB,seval,g0,g1,g4,g5,ptL.chk,ptL.fld0,ptL.fld,q0,q1]
     refine (sd hwL hv.2.1 hv.2.2 s).mono ?_
     rintro _ _ ⟨⟨b,lim,a1,rfl⟩,rfl⟩
     obtain⟨b',lim',a2,_,_,a3,_⟩:=xH hwL.lin (i:=bS w.vars s (w.vars.length-1)) (pN _ _ hv.2.1 _ (by have:=hv.2.1; omega)) (j:=1) (n:=4) om
     have e1:=a1.symm.trans a2
     simp only[sJ,af,aa.ptr.injEq,Ad.mk.injEq,and_true]at e1
     obtain⟨rfl,rfl⟩:=e1
     obtain⟨A,B,f1,f2,_⟩:=si hpr
     have hd:((dT w.vars).drop (bS w.vars s (w.vars.length-1)*5+1)).take 4=iX pr.2:=by
      rw[f1,<- f2,<- List.drop_drop,List.drop_left]; rfl
     have a3':au true 4 L (af b lim (bS w.vars s (w.vars.length-1)*5+1))=some (.agg (iX pr.2)):=by rw[a3]; exact congrArg (fun z=>some (aa.agg z)) hd
     obtain⟨L2,s1,s2,s3⟩:=done (y:=pr.2) (cZ.refl _ _) (hv.1 _ (SJ hpr))
     simp only[sA,sB,seval,g4,iI,a3',s1,dx,aD,s2]
     exact s3
    have k2':¬(k:Int)=2:=om
    by_cases k3:k=3
    ·subst k3
     obtain⟨a,b,rfl,hop2⟩:=PM hop
     have hl2:kids.length=2:=hvl.symm
     have hl3:¬((2:Nat):Int)=1:=by decide
     have la:au true 4 L (af kb 12 0)=some (.agg (iX a)):=cK (i:=0) (k:=4) rLk (n:=12) rfl om
     have lb:au true 4 L (af kb 12 4)=some (.agg (iX b)):=cK (i:=4) (k:=4) rLk (n:=12) rfl om
     have hlen:=sl.len
     rw[hl2]at hlen
     simp only[sA,sB,seval,g0,g1,g4,g5,ptL.chk,ptL.fld0,ptL.fld,q0,q1,q3,hlen,hl3,ix0,ix1,la,lb]
     refine (xh hop2 (hvo a (by simp)) (hvo b (by simp))).mono ?_
     rintro _ L1 ⟨rfl,E1⟩
     obtain⟨L2,s1,s2,s3⟩:=done (y:=x) E1 (Ny hop2 (hvo a (by simp)) (hvo b (by simp)))
     simp only[sA,sB,seval,g4,s1,dx,aD,s2]
     exact s3
    have k3':¬(k:Int)=3:=om
    obtain⟨a,b,c,rfl,rfl,rfl⟩:=PI hop k1 k2 k3
    have la:au true 3 L (af kb 12 1)=some (.agg (v3 a.x a.y a.z)):=cK (i:=1) (k:=3) rLk (n:=12) rfl om
    have lb:au true 3 L (af kb 12 5)=some (.agg (v3 b.x b.y b.z)):=cK (i:=5) (k:=3) rLk (n:=12) rfl om
    have lc:au true 3 L (af kb 12 9)=some (.agg (v3 c.x c.y c.z)):=cK (i:=9) (k:=3) rLk (n:=12) rfl om
    simp only[sA,sB,seval,g0,g1,g4,g5,ptL.chk,ptL.fld0,ptL.fld,q0,q1,k1',k2',k3',ix0,ix1,ix2,aZ,la,lb,lc]
    refine Eu.mono ?_
    rintro _ L1 ⟨rfl,E1⟩
    obtain⟨L2,s1,s2,s3⟩:=done (y:=⟨true,a.x,b.x,c.x⟩) E1 ⟨(hvo a (by simp)).x,(hvo b (by simp)).x,(hvo c (by simp)).x⟩
    simp only[sA,sB,seval,g4,s1,dx,aD,s2]
    exact s3
end Go.Proofs.Wo
