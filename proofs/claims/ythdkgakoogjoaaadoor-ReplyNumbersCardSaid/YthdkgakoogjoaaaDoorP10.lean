/- Part of a proof (TReplyNumbers G1 S1); no condition. -/
import Derived.KernelRfl
import Derived.Test.YthdkgakoogjoaaaDoorP5
import Derived.Test.YthdkgakoogjoaaaDoorP9
set_option linter.unusedSimpArgs false
set_option linter.unusedVariables false
set_option linter.unnecessarySimpa false
/- A table of functions for the fast machine, each compiled of the program's own. Printed by program. -/
namespace Go.Abs.TReplyNumbers
open Go.Abs Go.Abs.F
noncomputable section
-- lightwell/lightwelllaw28.ReplyNumbers
def F3 : Go.Abs.F.Fn := mkFn [s0, s1, s2, s3, s4, s5, s6, s7, s8, s9, s10, s11] (cSeq (opC (xMv (gC (.bool false))) s0 <| fEnd) (cSeq (cSeq (opC (xMv (gC (.int .i64 (.ofNat 0)))) s1 <| fEnd) (cBlk (cLoop (cSeq (cSeq (opC (xV2 fLss g1 (gC (.int .i64 (.ofNat 700)))) s21 <| fEnd) (cIf g21 fEnd (cExit 0))) (cSeq (cBlk (cSeq (opC (xCall 5 [g1, (gC (.slice none 0 (.known 0)))]) s26 <| opC (xV1 (fExt 0) g26) s27 <| opC (xV1 (fExt 1) g26) s28 <| opC (xMv g27) s2 <| opC (xMv g28) s3 <| fEnd) (cSeq (opC (xCall 6 [g1, (gC (.slice none 0 (.known 0)))]) s31 <| opC (xV1 (fExt 0) g31) s32 <| opC (xV1 (fExt 1) g31) s33 <| opC (xMv g32) s4 <| opC (xMv g33) s5 <| fEnd) (cSeq (opC (xCall 7 [g1]) s35 <| opC (xCall 8 [g1]) s37 <| opC (xV2 fNeq g35 g37) s38 <| opC (xGf g38 (xV2 fNeq g3 g5)) s42 <| opC (xPick g38 (gC (.bool true)) g42) s43 <| opC (xGf g43 (xCall 9 [g2, g4])) s47 <| opC (xGf g43 (xV1 fNot g47)) s48 <| opC (xPick g43 (gC (.bool true)) g48) s49 <| fEnd) (cIf g49 (cSeq (opC (xMv (gC (.bool false))) s0 <| fEnd) (cExit 2)) fEnd))))) (opC (xV2 fAdd g1 (gC (.int .i64 (.ofNat 1)))) s23 <| opC (xMv g23) s1 <| fEnd)))))) (cSeq (cSeq (opC (xBuild [(.str []), (.str [])] [⟨0, 1, (gC (.str []))⟩, ⟨1, 1, (gC (.str [97]))⟩]) s50 <| opC (xBuild [(.str []), (.str [])] [⟨0, 1, (gC (.str [97, 58]))⟩, ⟨1, 1, (gC (.str [98]))⟩]) s51 <| opC (xBuild [(.str []), (.str [])] [⟨0, 1, (gC (.str [97]))⟩, ⟨1, 1, (gC (.str [32, 98]))⟩]) s52 <| opC (xBuild [(.str []), (.str [])] [⟨0, 1, (gC (.str [97]))⟩, ⟨1, 1, (gC (.str [98, 9]))⟩]) s53 <| opC (xBuild [(.str []), (.str [])] [⟨0, 1, (gC (.str [97]))⟩, ⟨1, 1, (gC (.str [98, 13, 10, 99, 58, 32, 100]))⟩]) s54 <| opC (xBuild [(.str []), (.str [])] [⟨0, 1, (gC (.str [97]))⟩, ⟨1, 1, (gC (.str [127]))⟩]) s55 <| opC (xBuild [(.str []), (.str [])] [⟨0, 1, (gC (.str [97]))⟩, ⟨1, 1, (gC (.str [10]))⟩]) s56 <| opC (xBuild [(.str []), (.str [])] [⟨0, 1, (gC (.str [67, 111, 110, 116, 101, 110, 116, 45, 76, 101, 110, 103, 116, 104]))⟩, ⟨1, 1, (gC (.str [49]))⟩]) s57 <| opC (xBuild [(.str []), (.str [])] [⟨0, 1, (gC (.str [84, 82, 65, 78, 83, 70, 69, 82, 45, 101, 110, 99, 111, 100, 105, 110, 103]))⟩, ⟨1, 1, (gC (.str [99, 104, 117, 110, 107, 101, 100]))⟩]) s58 <| opC (xBuild [(.str []), (.str [])] [⟨0, 1, (gC (.str [228]))⟩, ⟨1, 1, (gC (.str [98]))⟩]) s59 <| opC (xBuildSl [(.str []), (.str []), (.str []), (.str []), (.str []), (.str []), (.str []), (.str []), (.str []), (.str []), (.str []), (.str []), (.str []), (.str []), (.str []), (.str []), (.str []), (.str []), (.str []), (.str [])] 10 [⟨0, 2, g50⟩, ⟨2, 2, g51⟩, ⟨4, 2, g52⟩, ⟨6, 2, g53⟩, ⟨8, 2, g54⟩, ⟨10, 2, g55⟩, ⟨12, 2, g56⟩, ⟨14, 2, g57⟩, ⟨16, 2, g58⟩, ⟨18, 2, g59⟩]) s60 <| opC (xV1 (fLen false) g60) s61 <| opC (xMv (gC (.int .i64 (.ofNat 0)))) s62 <| fEnd) (cBlk (cLoop (cSeq (opC (xV2 fLss g62 g61) s63 <| fEnd) (cSeq (cIf g63 fEnd (cExit 0)) (cSeq (cBlk (cSeq (opC (xV2 (fIdxA 2) g60 g62) s65 <| opC (xLdA 2 g65) s66 <| opC (xNew [(.str []), (.str [])]) s7 <| opC (xMv g62) s6 <| op0 (xSt 2 g7 g66) <| fEnd) (cSeq (opC (xV2 (fIdxR 2 1) g7 (gC (.int .i64 (.ofNat 0)))) s67 <| opC (xLd g67) s68 <| opC (xV2 (fIdxR 2 1) g7 (gC (.int .i64 (.ofNat 1)))) s69 <| opC (xLd g69) s70 <| opC (xCall 10 [g68, g70]) s71 <| opC (xV1 fNot g71) s72 <| fEnd) (cIf g72 (cSeq (opC (xV2 fLss g6 (gC (.int .i64 (.ofNat 0)))) s74 <| opC (xMv g74) s0 <| fEnd) (cExit 2)) fEnd)))) (opC (xV2 fAdd g62 (gC (.int .i64 (.ofNat 1)))) s75 <| opC (xMv g75) s62 <| fEnd))))))) (cSeq (opC (xMk 32 [(.str []), (.str [])] (gC (.int .i64 (.ofNat 41))) (gC (.int .i64 (.ofNat 41)))) s76 <| opC (xMv g76) s8 <| fEnd) (cSeq (cSeq (opC (xMv (gC (.int .i64 (.ofNat 0)))) s9 <| fEnd) (cBlk (cLoop (cSeq (cSeq (opC (xV2 fLss g9 (gC (.int .i64 (.ofNat 41)))) s78 <| fEnd) (cIf g78 fEnd (cExit 0))) (cSeq (cBlk (opC (xBuild [(.str []), (.str [])] [⟨0, 1, (gC (.str [97]))⟩]) s83 <| opC (xV2 (fIdxA 2) g8 g9) s84 <| op0 (xSt 2 g84 g83) <| fEnd)) (opC (xV2 fAdd g9 (gC (.int .i64 (.ofNat 1)))) s80 <| opC (xMv g80) s9 <| fEnd)))))) (cSeq (opC (xCall 11 [(gC (.int .i64 (.ofNat 200))), g8, (gC (.slice none 0 (.known 0)))]) s87 <| opC (xV1 (fExt 0) g87) s88 <| opC (xV1 (fExt 1) g87) s89 <| opC (xMv g89) s11 <| fEnd) (cSeq (opC (xCall 12 [g8]) s92 <| opC (xV1 (fExt 0) g92) s93 <| opC (xV1 (fExt 1) g92) s94 <| opC (xMv g94) s13 <| fEnd) (cSeq (opC (xCall 5 [(gC (.int .i64 (.ofNat 0))), g8]) s97 <| opC (xV1 (fExt 0) g97) s98 <| opC (xV1 (fExt 1) g97) s99 <| opC (xMv g99) s15 <| fEnd) (cSeq (opC (xSl 2 g8 none (some (gC (.int .i64 (.ofNat 40)))) none) s102 <| opC (xCall 12 [g102]) s103 <| opC (xV1 (fExt 0) g103) s104 <| opC (xV1 (fExt 1) g103) s105 <| opC (xMv g105) s17 <| fEnd) (cSeq (opC (xCall 13 [(gC (.str [97])), (gC (.str [98, 255, 32, 9, 99]))]) s107 <| opC (xCall 11 [(gC (.int .i64 (.ofNat 299))), g107, (gC (.slice none 0 (.known 0)))]) s108 <| opC (xV1 (fExt 0) g108) s109 <| opC (xV1 (fExt 1) g108) s110 <| opC (xMv g109) s18 <| opC (xMv g110) s19 <| fEnd) (cSeq (opC (xV2 fEql g11 (gC (.int .i64 (.ofNat 3)))) s112 <| opC (xGt g112 (xV2 fEql g13 (gC (.int .i64 (.ofNat 3))))) s115 <| opC (xPick g112 g115 (gC (.bool false))) s116 <| opC (xGt g116 (xV2 fEql g15 (gC (.int .i64 (.ofNat 2))))) s119 <| opC (xPick g116 g119 (gC (.bool false))) s120 <| opC (xGt g120 (xV2 fEql g17 (gC (.int .i64 (.ofNat 0))))) s123 <| opC (xPick g120 g123 (gC (.bool false))) s124 <| opC (xGt g124 (xCall 14 [g18, g19, (gC (.str [72, 84, 84, 80, 47, 49, 46, 49, 32, 50, 57, 57, 32, 13, 10, 97, 58, 32, 98, 255, 32, 9, 99, 13, 10, 67, 111, 110, 116, 101, 110, 116, 45, 76, 101, 110, 103, 116, 104, 58, 32, 48, 13, 10, 13, 10]))])) s128 <| opC (xPick g124 g128 (gC (.bool false))) s129 <| opC (xGt g129 (xCall 15 [(gC (.slice none 0 (.known 0)))])) s131 <| opC (xGt g129 (xV1 (fLen false) g131)) s132 <| opC (xGt g129 (xV2 fEql g132 (gC (.int .i64 (.ofNat 0))))) s133 <| opC (xPick g129 g133 (gC (.bool false))) s134 <| opC (xGt g134 (xCall 16 [])) s136 <| opC (xPick g134 g136 (gC (.bool false))) s137 <| opC (xMv g137) s0 <| fEnd) (cExit 0)))))))))))) [xMv g0]
-- lightwell/reply.Begin
def F5 : Go.Abs.F.Fn := mkFn [s0, s1, s2, s3, s4, s5, s6, s7, s8, s9, s10, s11] (cSeq (opC (xMv (gC (.slice none 0 (.known 0)))) s4 <| opC (xMv (gC (.int .i64 (.ofNat 0)))) s5 <| fEnd) (cSeq (opC (xCall 21 [g0, g1]) s11 <| opC (xV1 (fExt 0) g11) s12 <| opC (xV1 (fExt 1) g11) s13 <| opC (xMv g12) s6 <| opC (xMv g13) s7 <| fEnd) (cSeq (cSeq (opC (xV2 fNeq g7 (gC (.int .i64 (.ofNat 0)))) s15 <| fEnd) (cIf g15 (cSeq (opC (xMv (gC (.slice none 0 (.known 0)))) s4 <| opC (xMv g7) s5 <| fEnd) (cExit 0)) fEnd)) (cSeq (opC (xBuildSl [(.str []), (.str [])] 2 [⟨0, 1, (gC (.str [84, 114, 97, 110, 115, 102, 101, 114, 45, 69, 110, 99, 111, 100, 105, 110, 103, 58, 32, 99, 104, 117, 110, 107, 101, 100]))⟩, ⟨1, 1, (gC (.str []))⟩]) s18 <| opC (xCall 22 [g6, g18]) s19 <| opC (xMv g19) s4 <| opC (xMv (gC (.int .i64 (.ofNat 0)))) s5 <| fEnd) (cExit 0))))) [xMv g4, xMv g5]
-- lightwell/reply.head
def F21 : Go.Abs.F.Fn := mkFn [s0, s1, s2, s3, s4, s5, s6, s7, s8, s9, s10, s11] (cSeq (opC (xMv (gC (.slice none 0 (.known 0)))) s4 <| opC (xMv (gC (.int .i64 (.ofNat 0)))) s5 <| fEnd) (cSeq (cSeq (opC (xV2 fLss g0 (gC (.int .i64 (.ofNat 200)))) s9 <| opC (xGf g9 (xV2 fGtr g0 (gC (.int .i64 (.ofNat 599))))) s12 <| opC (xPick g9 (gC (.bool true)) g12) s13 <| fEnd) (cIf g13 (cSeq (opC (xMv (gC (.slice none 0 (.known 0)))) s4 <| opC (xMv (gC (.int .i64 (.ofNat 2)))) s5 <| fEnd) (cExit 0)) fEnd)) (cSeq (cSeq (opC (xCall 25 [g1]) s15 <| opC (xMv g15) s6 <| fEnd) (cSeq (opC (xV2 fNeq g6 (gC (.int .i64 (.ofNat 0)))) s17 <| fEnd) (cIf g17 (cSeq (opC (xMv (gC (.slice none 0 (.known 0)))) s4 <| opC (xMv g6) s5 <| fEnd) (cExit 0)) fEnd))) (cSeq (opC (xCall 24 [g0]) s20 <| opC (xV2 fAdd (gC (.str [72, 84, 84, 80, 47, 49, 46, 49, 32])) g20) s21 <| opC (xV2 fAdd g21 (gC (.str [32]))) s22 <| opC (xCall 7 [g0]) s24 <| opC (xV2 fAdd g22 g24) s25 <| opC (xBuildSl [(.str [])] 1 [⟨0, 1, g25⟩]) s26 <| opC (xCall 22 [(gC (.slice none 0 (.known 0))), g26]) s27 <| opC (xMv g27) s7 <| fEnd) (cSeq (opC (xCall 26 [g7, g1]) s30 <| opC (xMv g30) s4 <| opC (xMv (gC (.int .i64 (.ofNat 0)))) s5 <| fEnd) (cExit 0)))))) [xMv g4, xMv g5]
-- lightwell/reply.check
def F25 : Go.Abs.F.Fn := mkFn [s0, s1, s2, s3, s4, s5, s6, s7, s8, s9, s10, s11] (cSeq (opC (xMv (gC (.int .i64 (.ofNat 0)))) s2 <| fEnd) (cSeq (cSeq (opC (xV1 (fLen false) g0) s6 <| opC (xV2 fGtr g6 (gC (.int .i64 (.ofNat 40)))) s7 <| fEnd) (cIf g7 (cSeq (opC (xMv (gC (.int .i64 (.ofNat 3)))) s2 <| fEnd) (cExit 0)) fEnd)) (cSeq (cSeq (opC (xMv g0) s8 <| opC (xV1 (fLen false) g8) s9 <| opC (xMv (gC (.int .i64 (.ofNat 0)))) s10 <| fEnd) (cBlk (cLoop (cSeq (opC (xV2 fLss g10 g9) s11 <| fEnd) (cSeq (cIf g11 fEnd (cExit 0)) (cSeq (cBlk (cSeq (opC (xV2 (fIdxA 2) g8 g10) s12 <| opC (xLdA 2 g12) s13 <| opC (xNew [(.str []), (.str [])]) s4 <| op0 (xSt 2 g4 g13) <| fEnd) (cSeq (opC (xV1 (fFld 0) g4) s14 <| opC (xLd g14) s15 <| opC (xCall 31 [g15]) s16 <| opC (xV1 fNot g16) s17 <| opC (xGf g17 (xV1 (fFld 1) g4)) s19 <| opC (xGf g17 (xLd g19)) s20 <| opC (xGf g17 (xCall 32 [g20])) s21 <| opC (xGf g17 (xV1 fNot g21)) s22 <| opC (xPick g17 (gC (.bool true)) g22) s23 <| fEnd) (cIf g23 (cSeq (opC (xMv (gC (.int .i64 (.ofNat 21)))) s2 <| fEnd) (cExit 2)) fEnd)))) (opC (xV2 fAdd g10 (gC (.int .i64 (.ofNat 1)))) s24 <| opC (xMv g24) s10 <| fEnd))))))) (cSeq (opC (xMv (gC (.int .i64 (.ofNat 0)))) s2 <| fEnd) (cExit 0))))) [xMv g2]
-- lightwell/reply.rightName
def F31 : Go.Abs.F.Fn := mkFn [s0, s1, s2, s3, s4, s5, s6, s7, s8, s9, s10, s11] (cSeq (opC (xMv (gC (.bool false))) s2 <| fEnd) (cSeq (cSeq (opC (xV2 fEql g0 (gC (.str []))) s5 <| opC (xGf g5 (xCall 35 [g0, (gC (.func (.func 36) [] []))])) s8 <| opC (xGf g5 (xV1 fNot g8)) s9 <| opC (xPick g5 (gC (.bool true)) g9) s10 <| fEnd) (cIf g10 (cSeq (opC (xMv (gC (.bool false))) s2 <| fEnd) (cExit 0)) fEnd)) (cSeq (opC (xCall 37 [g0]) s12 <| opC (xMv g12) s3 <| fEnd) (cSeq (opC (xV2 fNeq g3 (gC (.str [99, 111, 110, 116, 101, 110, 116, 45, 108, 101, 110, 103, 116, 104]))) s14 <| opC (xGt g14 (xV2 fNeq g3 (gC (.str [116, 114, 97, 110, 115, 102, 101, 114, 45, 101, 110, 99, 111, 100, 105, 110, 103])))) s17 <| opC (xPick g14 g17 (gC (.bool false))) s18 <| opC (xMv g18) s2 <| fEnd) (cExit 0))))) [xMv g2]
-- lightwell/reply.all
def F35 : Go.Abs.F.Fn := mkFn [s0, s1, s2, s3, s4, s5, s6, s7, s8, s9, s10, s11] (cSeq (opC (xMv (gC (.bool false))) s4 <| fEnd) (cSeq (cSeq (opC (xV1 (fLen true) g0) s7 <| opC (xMv (gC (.int .i64 (.ofNat 0)))) s8 <| fEnd) (cBlk (cLoop (cSeq (opC (xV2 fLss g8 g7) s9 <| fEnd) (cSeq (cIf g9 fEnd (cExit 0)) (cSeq (cBlk (cSeq (opC (xMv g8) s5 <| fEnd) (cSeq (opC (xV2 fIdxS g0 g5) s14 <| opC (xCallV g1 [g14]) s15 <| opC (xV1 fNot g15) s16 <| fEnd) (cIf g16 (cSeq (opC (xMv (gC (.bool false))) s4 <| fEnd) (cExit 2)) fEnd)))) (opC (xV2 fAdd g8 (gC (.int .i64 (.ofNat 1)))) s17 <| opC (xMv g17) s8 <| fEnd))))))) (cSeq (opC (xMv (gC (.bool true))) s4 <| fEnd) (cExit 0)))) [xMv g4]
-- lightwell/reply.isTchar
def F36 : Go.Abs.F.Fn := mkFn [s0, s1, s2, s3, s4, s5, s6, s7, s8, s9, s10, s11] (cSeq (opC (xMv (gC (.bool false))) s2 <| fEnd) (cSeq (opC (xV2 fGeq g0 (gC (.int .u8 (.ofNat 97)))) s5 <| opC (xGt g5 (xV2 fLeq g0 (gC (.int .u8 (.ofNat 122))))) s8 <| opC (xPick g5 g8 (gC (.bool false))) s9 <| opC (xGf g9 (xV2 fGeq g0 (gC (.int .u8 (.ofNat 65))))) s12 <| opC (xGf g9 (xMv g12)) s13 <| opC (xGt g13 (xV2 fLeq g0 (gC (.int .u8 (.ofNat 90))))) s15 <| opC (xGf g9 (xPick g13 g15 (gC (.bool false)))) s16 <| opC (xPick g9 (gC (.bool true)) g16) s17 <| opC (xMv g17) s3 <| fEnd) (cSeq (opC (xV2 fGeq g0 (gC (.int .u8 (.ofNat 48)))) s19 <| opC (xGt g19 (xV2 fLeq g0 (gC (.int .u8 (.ofNat 57))))) s22 <| opC (xPick g19 g22 (gC (.bool false))) s23 <| opC (xGf g23 (xMv g3)) s25 <| opC (xPick g23 (gC (.bool true)) g25) s26 <| opC (xGf g26 (xCall 46 [(gC (.str [33, 35, 36, 37, 38, 39, 42, 43, 45, 46, 94, 95, 96, 124, 126])), g0])) s29 <| opC (xGf g26 (xV2 fGeq g29 (gC (.int .i64 (.ofNat 0))))) s30 <| opC (xPick g26 (gC (.bool true)) g30) s31 <| opC (xMv g31) s2 <| fEnd) (cExit 0)))) [xMv g2]
-- strings.IndexByte
def F46 : Go.Abs.F.Fn := mkFn [s0, s1, s2, s3, s4, s5, s6, s7] (cSeq (opC (xMv (gC (.int .i64 (.ofNat 0)))) s4 <| fEnd) (cSeq (opC (xCall 62 [g0, g1]) s7 <| opC (xMv g7) s4 <| fEnd) (cExit 0))) [xMv g4]
-- internal/stringslite.IndexByte
def F62 : Go.Abs.F.Fn := mkFn [s0, s1, s2, s3, s4, s5, s6, s7] (cSeq (opC (xMv (gC (.int .i64 (.ofNat 0)))) s4 <| fEnd) (cSeq (opC (xVN (fPf .ibs) [g0, g1]) s7 <| opC (xMv g7) s4 <| fEnd) (cExit 0))) [xMv g4]
-- lightwell/reply.rightValue
def F32 : Go.Abs.F.Fn := mkFn [s0, s1, s2, s3, s4, s5, s6, s7, s8, s9, s10, s11] (cSeq (opC (xMv (gC (.bool false))) s2 <| fEnd) (cSeq (cSeq (opC (xV2 fEql g0 (gC (.str []))) s4 <| fEnd) (cIf g4 (cSeq (opC (xMv (gC (.bool true))) s2 <| fEnd) (cExit 0)) fEnd)) (cSeq (opC (xCall 35 [g0, (gC (.func (.func 38) [] []))]) s6 <| opC (xGt g6 (xV2 fIdxS g0 (gC (.int .i64 (.ofNat 0))))) s9 <| opC (xGt g6 (xCall 39 [g9])) s10 <| opC (xGt g6 (xV1 fNot g10)) s11 <| opC (xPick g6 g11 (gC (.bool false))) s12 <| opC (xGt g12 (xV1 (fLen true) g0)) s16 <| opC (xGt g12 (xV2 fSub g16 (gC (.int .i64 (.ofNat 1))))) s17 <| opC (xGt g12 (xV2 fIdxS g0 g17)) s18 <| opC (xGt g12 (xCall 39 [g18])) s19 <| opC (xGt g12 (xV1 fNot g19)) s20 <| opC (xPick g12 g20 (gC (.bool false))) s21 <| opC (xMv g21) s2 <| fEnd) (cExit 0)))) [xMv g2]
-- lightwell/reply.isValue
def F38 : Go.Abs.F.Fn := mkFn [s0, s1, s2, s3, s4, s5, s6, s7, s8, s9, s10, s11] (cSeq (opC (xMv (gC (.bool false))) s2 <| fEnd) (cSeq (opC (xV2 fEql g0 (gC (.int .u8 (.ofNat 9)))) s4 <| opC (xGf g4 (xV2 fGeq g0 (gC (.int .u8 (.ofNat 32))))) s7 <| opC (xGf g4 (xMv g7)) s8 <| opC (xGt g8 (xV2 fNeq g0 (gC (.int .u8 (.ofNat 127))))) s10 <| opC (xGf g4 (xPick g8 g10 (gC (.bool false)))) s11 <| opC (xPick g4 (gC (.bool true)) g11) s12 <| opC (xMv g12) s2 <| fEnd) (cExit 0))) [xMv g2]
-- lightwell/reply.isBlank
def F39 : Go.Abs.F.Fn := mkFn [s0, s1, s2, s3, s4, s5, s6, s7, s8] (cSeq (opC (xMv (gC (.bool false))) s2 <| fEnd) (cSeq (opC (xV2 fEql g0 (gC (.int .u8 (.ofNat 32)))) s4 <| opC (xGf g4 (xV2 fEql g0 (gC (.int .u8 (.ofNat 9))))) s7 <| opC (xPick g4 (gC (.bool true)) g7) s8 <| opC (xMv g8) s2 <| fEnd) (cExit 0))) [xMv g2]
-- strconv.Itoa
def F24 : Go.Abs.F.Fn := mkFn [s0, s1, s2, s3, s4] (cSeq (opC (xMv (gC (.str []))) s2 <| fEnd) (cSeq (opC (xCall 30 [g0]) s4 <| opC (xMv g4) s2 <| fEnd) (cExit 0))) [xMv g2]
-- internal/strconv.Itoa
def F30 : Go.Abs.F.Fn := mkFn [s0, s1, s2, s3, s4] (cSeq (opC (xMv (gC (.str []))) s2 <| fEnd) (cSeq (opC (xCall 33 [g0, (gC (.int .i64 (.ofNat 10)))]) s4 <| opC (xMv g4) s2 <| fEnd) (cExit 0))) [xMv g2]
-- internal/strconv.FormatInt
def F33 : Go.Abs.F.Fn := mkFn [s0, s1, s2, s3, s4, s5, s6, s7, s8, s9, s10, s11] (cSeq (opC (xMv (gC (.str []))) s4 <| fEnd) (cSeq (cSeq (opC (xV2 fEql g1 (gC (.int .i64 (.ofNat 10)))) s11 <| fEnd) (cIf g11 (cSeq (cSeq (opC (xV2 fLeq (gC (.int .i64 (.ofNat 0))) g0) s13 <| opC (xGt g13 (xV2 fLss g0 (gC (.int .i64 (.ofNat 100))))) s16 <| opC (xPick g13 g16 (gC (.bool false))) s17 <| fEnd) (cIf g17 (cSeq (opC (xCall 40 [g0]) s19 <| opC (xMv g19) s4 <| fEnd) (cExit 0)) fEnd)) (cSeq (opC (xNew [(.int .u8 (.ofNat 0)), (.int .u8 (.ofNat 0)), (.int .u8 (.ofNat 0)), (.int .u8 (.ofNat 0)), (.int .u8 (.ofNat 0)), (.int .u8 (.ofNat 0)), (.int .u8 (.ofNat 0)), (.int .u8 (.ofNat 0)), (.int .u8 (.ofNat 0)), (.int .u8 (.ofNat 0)), (.int .u8 (.ofNat 0)), (.int .u8 (.ofNat 0)), (.int .u8 (.ofNat 0)), (.int .u8 (.ofNat 0)), (.int .u8 (.ofNat 0)), (.int .u8 (.ofNat 0)), (.int .u8 (.ofNat 0)), (.int .u8 (.ofNat 0)), (.int .u8 (.ofNat 0)), (.int .u8 (.ofNat 0)), (.int .u8 (.ofNat 0)), (.int .u8 (.ofNat 0)), (.int .u8 (.ofNat 0)), (.int .u8 (.ofNat 0))]) s5 <| fEnd) (cSeq (opC (xV1 (fConv .u64) g0) s21 <| opC (xMv g21) s6 <| fEnd) (cSeq (cSeq (opC (xV2 fLss g0 (gC (.int .i64 (.ofNat 0)))) s23 <| fEnd) (cIf g23 (opC (xV1 (fUn .neg) g6) s25 <| opC (xMv g25) s6 <| fEnd) fEnd)) (cSeq (opC (xCall 41 [g6]) s27 <| opC (xMv g27) s7 <| fEnd) (cSeq (opC (xV2 fAdd (gC (.int .i64 (.ofNat 1))) g7) s29 <| opC (xSlA 24 1 g5 (some (gC (.int .i64 (.ofNat 1)))) (some g29) none) s30 <| opC (xCall 42 [g30, g6]) s32 <| fEnd) (cSeq (cSeq (opC (xV2 fLss g0 (gC (.int .i64 (.ofNat 0)))) s34 <| fEnd) (cIf g34 (cSeq (opC (xV2 (fIdxR 24 1) g5 (gC (.int .i64 (.ofNat 0)))) s35 <| op0 (xSt 1 g35 (gC (.int .u8 (.ofNat 45)))) <| fEnd) (cSeq (opC (xV2 fAdd (gC (.int .i64 (.ofNat 1))) g7) s37 <| opC (xSlA 24 1 g5 none (some g37) none) s38 <| opC (xBS g38) s39 <| opC (xMv g39) s4 <| fEnd) (cExit 0))) fEnd)) (cSeq (opC (xV2 fAdd (gC (.int .i64 (.ofNat 1))) g7) s41 <| opC (xSlA 24 1 g5 (some (gC (.int .i64 (.ofNat 1)))) (some g41) none) s42 <| opC (xBS g42) s43 <| opC (xMv g43) s4 <| fEnd) (cExit 0))))))))) fEnd)) (cSeq (opC (xV1 (fConv .u64) g0) s46 <| opC (xV2 fLss g0 (gC (.int .i64 (.ofNat 0)))) s49 <| opC (xCall 43 [(gC (.slice none 0 (.known 0))), g46, g1, g49, (gC (.bool false))]) s50 <| opC (xV1 (fExt 0) g50) s51 <| opC (xV1 (fExt 1) g50) s52 <| opC (xMv g52) s9 <| fEnd) (cSeq (opC (xMv g9) s4 <| fEnd) (cExit 0))))) [xMv g4]
-- internal/strconv.small
def F40 : Go.Abs.F.Fn := mkFn [s0, s1, s2, s3, s4, s5, s6, s7, s8, s9, s10, s11] (cSeq (opC (xMv (gC (.str []))) s2 <| fEnd) (cSeq (cSeq (opC (xV2 fLss g0 (gC (.int .i64 (.ofNat 10)))) s4 <| fEnd) (cIf g4 (cSeq (opC (xV2 fAdd g0 (gC (.int .i64 (.ofNat 1)))) s7 <| opC (xSlS (gC (.str [48, 49, 50, 51, 52, 53, 54, 55, 56, 57, 97, 98, 99, 100, 101, 102, 103, 104, 105, 106, 107, 108, 109, 110, 111, 112, 113, 114, 115, 116, 117, 118, 119, 120, 121, 122])) (some g0) (some g7)) s8 <| opC (xMv g8) s2 <| fEnd) (cExit 0)) fEnd)) (cSeq (opC (xV2 fMul g0 (gC (.int .i64 (.ofNat 2)))) s10 <| opC (xV2 fMul g0 (gC (.int .i64 (.ofNat 2)))) s12 <| opC (xV2 fAdd g12 (gC (.int .i64 (.ofNat 2)))) s13 <| opC (xSlS (gC (.str [48, 48, 48, 49, 48, 50, 48, 51, 48, 52, 48, 53, 48, 54, 48, 55, 48, 56, 48, 57, 49, 48, 49, 49, 49, 50, 49, 51, 49, 52, 49, 53, 49, 54, 49, 55, 49, 56, 49, 57, 50, 48, 50, 49, 50, 50, 50, 51, 50, 52, 50, 53, 50, 54, 50, 55, 50, 56, 50, 57, 51, 48, 51, 49, 51, 50, 51, 51, 51, 52, 51, 53, 51, 54, 51, 55, 51, 56, 51, 57, 52, 48, 52, 49, 52, 50, 52, 51, 52, 52, 52, 53, 52, 54, 52, 55, 52, 56, 52, 57, 53, 48, 53, 49, 53, 50, 53, 51, 53, 52, 53, 53, 53, 54, 53, 55, 53, 56, 53, 57, 54, 48, 54, 49, 54, 50, 54, 51, 54, 52, 54, 53, 54, 54, 54, 55, 54, 56, 54, 57, 55, 48, 55, 49, 55, 50, 55, 51, 55, 52, 55, 53, 55, 54, 55, 55, 55, 56, 55, 57, 56, 48, 56, 49, 56, 50, 56, 51, 56, 52, 56, 53, 56, 54, 56, 55, 56, 56, 56, 57, 57, 48, 57, 49, 57, 50, 57, 51, 57, 52, 57, 53, 57, 54, 57, 55, 57, 56, 57, 57])) (some g10) (some g13)) s14 <| opC (xMv g14) s2 <| fEnd) (cExit 0)))) [xMv g2]
-- internal/strconv.numDigits
def F41 : Go.Abs.F.Fn := mkFn [s0, s1, s2, s3, s4, s5, s6, s7, s8, s9, s10, s11] (cSeq (opC (xMv (gC (.int .i64 (.ofNat 0)))) s2 <| fEnd) (cSeq (opC (xCall 54 [g0]) s5 <| opC (xCall 53 [g5]) s6 <| opC (xMv g6) s3 <| fEnd) (cSeq (opC (xHf (.gIdx 0 20 1) [g3]) s10 <| opC (xLd g10) s11 <| opC (xV2 fGeq g0 g11) s12 <| opC (xCall 55 [g12]) s13 <| opC (xV2 fAdd g3 g13) s14 <| opC (xMv g14) s2 <| fEnd) (cExit 0)))) [xMv g2]
-- math/bits.Len64
def F54 : Go.Abs.F.Fn := mkFn [s0, s1, s2, s3, s4, s5, s6, s7, s8, s9, s10, s11] (cSeq (opC (xMv (gC (.int .i64 (.ofNat 0)))) s2 <| fEnd) (cSeq (cSeq (opC (xV2 fGeq g0 (gC (.int .u64 (.ofNat 4294967296)))) s4 <| fEnd) (cIf g4 (cSeq (opC (xV2 fShr g0 (gC (.int .u64 (.ofNat 32)))) s6 <| opC (xMv g6) s0 <| fEnd) (opC (xMv (gC (.int .i64 (.ofNat 32)))) s2 <| fEnd)) fEnd)) (cSeq (cSeq (opC (xV2 fGeq g0 (gC (.int .u64 (.ofNat 65536)))) s8 <| fEnd) (cIf g8 (cSeq (opC (xV2 fShr g0 (gC (.int .u64 (.ofNat 16)))) s10 <| opC (xMv g10) s0 <| fEnd) (opC (xV2 fAdd g2 (gC (.int .i64 (.ofNat 16)))) s12 <| opC (xMv g12) s2 <| fEnd)) fEnd)) (cSeq (cSeq (opC (xV2 fGeq g0 (gC (.int .u64 (.ofNat 256)))) s14 <| fEnd) (cIf g14 (cSeq (opC (xV2 fShr g0 (gC (.int .u64 (.ofNat 8)))) s16 <| opC (xMv g16) s0 <| fEnd) (opC (xV2 fAdd g2 (gC (.int .i64 (.ofNat 8)))) s18 <| opC (xMv g18) s2 <| fEnd)) fEnd)) (cSeq (opC (xV1 (fConv .u8) g0) s21 <| opC (xV2 fIdxS (gC (.str [0, 1, 2, 2, 3, 3, 3, 3, 4, 4, 4, 4, 4, 4, 4, 4, 5, 5, 5, 5, 5, 5, 5, 5, 5, 5, 5, 5, 5, 5, 5, 5, 6, 6, 6, 6, 6, 6, 6, 6, 6, 6, 6, 6, 6, 6, 6, 6, 6, 6, 6, 6, 6, 6, 6, 6, 6, 6, 6, 6, 6, 6, 6, 6, 7, 7, 7, 7, 7, 7, 7, 7, 7, 7, 7, 7, 7, 7, 7, 7, 7, 7, 7, 7, 7, 7, 7, 7, 7, 7, 7, 7, 7, 7, 7, 7, 7, 7, 7, 7, 7, 7, 7, 7, 7, 7, 7, 7, 7, 7, 7, 7, 7, 7, 7, 7, 7, 7, 7, 7, 7, 7, 7, 7, 7, 7, 7, 7, 8, 8, 8, 8, 8, 8, 8, 8, 8, 8, 8, 8, 8, 8, 8, 8, 8, 8, 8, 8, 8, 8, 8, 8, 8, 8, 8, 8, 8, 8, 8, 8, 8, 8, 8, 8, 8, 8, 8, 8, 8, 8, 8, 8, 8, 8, 8, 8, 8, 8, 8, 8, 8, 8, 8, 8, 8, 8, 8, 8, 8, 8, 8, 8, 8, 8, 8, 8, 8, 8, 8, 8, 8, 8, 8, 8, 8, 8, 8, 8, 8, 8, 8, 8, 8, 8, 8, 8, 8, 8, 8, 8, 8, 8, 8, 8, 8, 8, 8, 8, 8, 8, 8, 8, 8, 8, 8, 8, 8, 8, 8, 8, 8, 8, 8, 8, 8, 8, 8, 8, 8, 8, 8, 8, 8, 8, 8, 8])) g21) s22 <| opC (xV1 (fConv .i64) g22) s23 <| opC (xV2 fAdd g2 g23) s24 <| opC (xMv g24) s2 <| fEnd) (cExit 0)))))) [xMv g2]
-- internal/strconv.log10Pow2
def F53 : Go.Abs.F.Fn := mkFn [s0, s1, s2, s3, s4, s5] (cSeq (opC (xMv (gC (.int .i64 (.ofNat 0)))) s2 <| fEnd) (cSeq (opC (xV2 fMul g0 (gC (.int .i64 (.ofNat 78913)))) s4 <| opC (xV2 fShr g4 (gC (.int .u64 (.ofNat 18)))) s5 <| opC (xMv g5) s2 <| fEnd) (cExit 0))) [xMv g2]
-- internal/strconv.bool2[int]
def F55 : Go.Abs.F.Fn := mkFn [s0, s1, s2, s3] (cSeq (opC (xMv (gC (.int .i64 (.ofNat 0)))) s2 <| fEnd) (cSeq (cSeq (opC (xMv g0) s3 <| fEnd) (cIf g3 (cSeq (opC (xMv (gC (.int .i64 (.ofNat 1)))) s2 <| fEnd) (cExit 0)) fEnd)) (cSeq (opC (xMv (gC (.int .i64 (.ofNat 0)))) s2 <| fEnd) (cExit 0)))) [xMv g2]
-- internal/strconv.formatBase10
def F42 : Go.Abs.F.Fn := mkFn [s0, s1, s2, s3, s4, s5, s6, s7, s8, s9, s10, s11] (cSeq (opC (xV1 (fLen false) g0) s18 <| opC (xMv g18) s4 <| fEnd) (cSeq (cBlk (cLoop (cSeq (cSeq (opC (xV2 fGeq g4 (gC (.int .i64 (.ofNat 8)))) s20 <| fEnd) (cIf g20 fEnd (cExit 0))) (cBlk (cSeq (opC (xV2 fRem g1 (gC (.int .u64 (.ofNat 100000000)))) s22 <| opC (xV1 (fConv .u32) g22) s23 <| opC (xMv g23) s5 <| fEnd) (cSeq (opC (xV2 fQuo g1 (gC (.int .u64 (.ofNat 100000000)))) s25 <| opC (xMv g25) s1 <| fEnd) (cSeq (opC (xV2 fQuo g5 (gC (.int .u32 (.ofNat 10000)))) s27 <| opC (xV2 fRem g5 (gC (.int .u32 (.ofNat 10000)))) s29 <| opC (xMv g27) s6 <| opC (xMv g29) s7 <| fEnd) (cSeq (opC (xV2 fQuo g7 (gC (.int .u32 (.ofNat 100)))) s31 <| opC (xV2 fMul g31 (gC (.int .u32 (.ofNat 2)))) s32 <| opC (xV2 fRem g7 (gC (.int .u32 (.ofNat 100)))) s34 <| opC (xV2 fMul g34 (gC (.int .u32 (.ofNat 2)))) s35 <| opC (xMv g32) s8 <| opC (xMv g35) s9 <| fEnd) (cSeq (opC (xV2 fQuo g6 (gC (.int .u32 (.ofNat 100)))) s37 <| opC (xV2 fMul g37 (gC (.int .u32 (.ofNat 2)))) s38 <| opC (xV2 fRem g6 (gC (.int .u32 (.ofNat 100)))) s40 <| opC (xV2 fMul g40 (gC (.int .u32 (.ofNat 2)))) s41 <| opC (xMv g38) s10 <| opC (xMv g41) s11 <| fEnd) (cSeq (opC (xV2 fSub g4 (gC (.int .i64 (.ofNat 1)))) s44 <| opC (xV2 fSub g4 (gC (.int .i64 (.ofNat 2)))) s47 <| opC (xV2 fAdd g9 (gC (.int .u32 (.ofNat 1)))) s49 <| opC (xV2 fIdxS (gC (.str [48, 48, 48, 49, 48, 50, 48, 51, 48, 52, 48, 53, 48, 54, 48, 55, 48, 56, 48, 57, 49, 48, 49, 49, 49, 50, 49, 51, 49, 52, 49, 53, 49, 54, 49, 55, 49, 56, 49, 57, 50, 48, 50, 49, 50, 50, 50, 51, 50, 52, 50, 53, 50, 54, 50, 55, 50, 56, 50, 57, 51, 48, 51, 49, 51, 50, 51, 51, 51, 52, 51, 53, 51, 54, 51, 55, 51, 56, 51, 57, 52, 48, 52, 49, 52, 50, 52, 51, 52, 52, 52, 53, 52, 54, 52, 55, 52, 56, 52, 57, 53, 48, 53, 49, 53, 50, 53, 51, 53, 52, 53, 53, 53, 54, 53, 55, 53, 56, 53, 57, 54, 48, 54, 49, 54, 50, 54, 51, 54, 52, 54, 53, 54, 54, 54, 55, 54, 56, 54, 57, 55, 48, 55, 49, 55, 50, 55, 51, 55, 52, 55, 53, 55, 54, 55, 55, 55, 56, 55, 57, 56, 48, 56, 49, 56, 50, 56, 51, 56, 52, 56, 53, 56, 54, 56, 55, 56, 56, 56, 57, 57, 48, 57, 49, 57, 50, 57, 51, 57, 52, 57, 53, 57, 54, 57, 55, 57, 56, 57, 57])) g49) s50 <| opC (xV2 fIdxS (gC (.str [48, 48, 48, 49, 48, 50, 48, 51, 48, 52, 48, 53, 48, 54, 48, 55, 48, 56, 48, 57, 49, 48, 49, 49, 49, 50, 49, 51, 49, 52, 49, 53, 49, 54, 49, 55, 49, 56, 49, 57, 50, 48, 50, 49, 50, 50, 50, 51, 50, 52, 50, 53, 50, 54, 50, 55, 50, 56, 50, 57, 51, 48, 51, 49, 51, 50, 51, 51, 51, 52, 51, 53, 51, 54, 51, 55, 51, 56, 51, 57, 52, 48, 52, 49, 52, 50, 52, 51, 52, 52, 52, 53, 52, 54, 52, 55, 52, 56, 52, 57, 53, 48, 53, 49, 53, 50, 53, 51, 53, 52, 53, 53, 53, 54, 53, 55, 53, 56, 53, 57, 54, 48, 54, 49, 54, 50, 54, 51, 54, 52, 54, 53, 54, 54, 54, 55, 54, 56, 54, 57, 55, 48, 55, 49, 55, 50, 55, 51, 55, 52, 55, 53, 55, 54, 55, 55, 55, 56, 55, 57, 56, 48, 56, 49, 56, 50, 56, 51, 56, 52, 56, 53, 56, 54, 56, 55, 56, 56, 56, 57, 57, 48, 57, 49, 57, 50, 57, 51, 57, 52, 57, 53, 57, 54, 57, 55, 57, 56, 57, 57])) g9) s52 <| opC (xV2 (fIdxA 1) g0 g44) s53 <| op0 (xSt 1 g53 g50) <| opC (xV2 (fIdxA 1) g0 g47) s54 <| op0 (xSt 1 g54 g52) <| fEnd) (cSeq (opC (xV2 fSub g4 (gC (.int .i64 (.ofNat 3)))) s57 <| opC (xV2 fSub g4 (gC (.int .i64 (.ofNat 4)))) s60 <| opC (xV2 fAdd g8 (gC (.int .u32 (.ofNat 1)))) s62 <| opC (xV2 fIdxS (gC (.str [48, 48, 48, 49, 48, 50, 48, 51, 48, 52, 48, 53, 48, 54, 48, 55, 48, 56, 48, 57, 49, 48, 49, 49, 49, 50, 49, 51, 49, 52, 49, 53, 49, 54, 49, 55, 49, 56, 49, 57, 50, 48, 50, 49, 50, 50, 50, 51, 50, 52, 50, 53, 50, 54, 50, 55, 50, 56, 50, 57, 51, 48, 51, 49, 51, 50, 51, 51, 51, 52, 51, 53, 51, 54, 51, 55, 51, 56, 51, 57, 52, 48, 52, 49, 52, 50, 52, 51, 52, 52, 52, 53, 52, 54, 52, 55, 52, 56, 52, 57, 53, 48, 53, 49, 53, 50, 53, 51, 53, 52, 53, 53, 53, 54, 53, 55, 53, 56, 53, 57, 54, 48, 54, 49, 54, 50, 54, 51, 54, 52, 54, 53, 54, 54, 54, 55, 54, 56, 54, 57, 55, 48, 55, 49, 55, 50, 55, 51, 55, 52, 55, 53, 55, 54, 55, 55, 55, 56, 55, 57, 56, 48, 56, 49, 56, 50, 56, 51, 56, 52, 56, 53, 56, 54, 56, 55, 56, 56, 56, 57, 57, 48, 57, 49, 57, 50, 57, 51, 57, 52, 57, 53, 57, 54, 57, 55, 57, 56, 57, 57])) g62) s63 <| opC (xV2 fIdxS (gC (.str [48, 48, 48, 49, 48, 50, 48, 51, 48, 52, 48, 53, 48, 54, 48, 55, 48, 56, 48, 57, 49, 48, 49, 49, 49, 50, 49, 51, 49, 52, 49, 53, 49, 54, 49, 55, 49, 56, 49, 57, 50, 48, 50, 49, 50, 50, 50, 51, 50, 52, 50, 53, 50, 54, 50, 55, 50, 56, 50, 57, 51, 48, 51, 49, 51, 50, 51, 51, 51, 52, 51, 53, 51, 54, 51, 55, 51, 56, 51, 57, 52, 48, 52, 49, 52, 50, 52, 51, 52, 52, 52, 53, 52, 54, 52, 55, 52, 56, 52, 57, 53, 48, 53, 49, 53, 50, 53, 51, 53, 52, 53, 53, 53, 54, 53, 55, 53, 56, 53, 57, 54, 48, 54, 49, 54, 50, 54, 51, 54, 52, 54, 53, 54, 54, 54, 55, 54, 56, 54, 57, 55, 48, 55, 49, 55, 50, 55, 51, 55, 52, 55, 53, 55, 54, 55, 55, 55, 56, 55, 57, 56, 48, 56, 49, 56, 50, 56, 51, 56, 52, 56, 53, 56, 54, 56, 55, 56, 56, 56, 57, 57, 48, 57, 49, 57, 50, 57, 51, 57, 52, 57, 53, 57, 54, 57, 55, 57, 56, 57, 57])) g8) s65 <| opC (xV2 (fIdxA 1) g0 g57) s66 <| op0 (xSt 1 g66 g63) <| opC (xV2 (fIdxA 1) g0 g60) s67 <| op0 (xSt 1 g67 g65) <| fEnd) (cSeq (opC (xV2 fSub g4 (gC (.int .i64 (.ofNat 5)))) s70 <| opC (xV2 fSub g4 (gC (.int .i64 (.ofNat 6)))) s73 <| opC (xV2 fAdd g11 (gC (.int .u32 (.ofNat 1)))) s75 <| opC (xV2 fIdxS (gC (.str [48, 48, 48, 49, 48, 50, 48, 51, 48, 52, 48, 53, 48, 54, 48, 55, 48, 56, 48, 57, 49, 48, 49, 49, 49, 50, 49, 51, 49, 52, 49, 53, 49, 54, 49, 55, 49, 56, 49, 57, 50, 48, 50, 49, 50, 50, 50, 51, 50, 52, 50, 53, 50, 54, 50, 55, 50, 56, 50, 57, 51, 48, 51, 49, 51, 50, 51, 51, 51, 52, 51, 53, 51, 54, 51, 55, 51, 56, 51, 57, 52, 48, 52, 49, 52, 50, 52, 51, 52, 52, 52, 53, 52, 54, 52, 55, 52, 56, 52, 57, 53, 48, 53, 49, 53, 50, 53, 51, 53, 52, 53, 53, 53, 54, 53, 55, 53, 56, 53, 57, 54, 48, 54, 49, 54, 50, 54, 51, 54, 52, 54, 53, 54, 54, 54, 55, 54, 56, 54, 57, 55, 48, 55, 49, 55, 50, 55, 51, 55, 52, 55, 53, 55, 54, 55, 55, 55, 56, 55, 57, 56, 48, 56, 49, 56, 50, 56, 51, 56, 52, 56, 53, 56, 54, 56, 55, 56, 56, 56, 57, 57, 48, 57, 49, 57, 50, 57, 51, 57, 52, 57, 53, 57, 54, 57, 55, 57, 56, 57, 57])) g75) s76 <| opC (xV2 fIdxS (gC (.str [48, 48, 48, 49, 48, 50, 48, 51, 48, 52, 48, 53, 48, 54, 48, 55, 48, 56, 48, 57, 49, 48, 49, 49, 49, 50, 49, 51, 49, 52, 49, 53, 49, 54, 49, 55, 49, 56, 49, 57, 50, 48, 50, 49, 50, 50, 50, 51, 50, 52, 50, 53, 50, 54, 50, 55, 50, 56, 50, 57, 51, 48, 51, 49, 51, 50, 51, 51, 51, 52, 51, 53, 51, 54, 51, 55, 51, 56, 51, 57, 52, 48, 52, 49, 52, 50, 52, 51, 52, 52, 52, 53, 52, 54, 52, 55, 52, 56, 52, 57, 53, 48, 53, 49, 53, 50, 53, 51, 53, 52, 53, 53, 53, 54, 53, 55, 53, 56, 53, 57, 54, 48, 54, 49, 54, 50, 54, 51, 54, 52, 54, 53, 54, 54, 54, 55, 54, 56, 54, 57, 55, 48, 55, 49, 55, 50, 55, 51, 55, 52, 55, 53, 55, 54, 55, 55, 55, 56, 55, 57, 56, 48, 56, 49, 56, 50, 56, 51, 56, 52, 56, 53, 56, 54, 56, 55, 56, 56, 56, 57, 57, 48, 57, 49, 57, 50, 57, 51, 57, 52, 57, 53, 57, 54, 57, 55, 57, 56, 57, 57])) g11) s78 <| opC (xV2 (fIdxA 1) g0 g70) s79 <| op0 (xSt 1 g79 g76) <| opC (xV2 (fIdxA 1) g0 g73) s80 <| op0 (xSt 1 g80 g78) <| fEnd) (cSeq (opC (xV2 fSub g4 (gC (.int .i64 (.ofNat 7)))) s83 <| opC (xV2 fSub g4 (gC (.int .i64 (.ofNat 8)))) s86 <| opC (xV2 fAdd g10 (gC (.int .u32 (.ofNat 1)))) s88 <| opC (xV2 fIdxS (gC (.str [48, 48, 48, 49, 48, 50, 48, 51, 48, 52, 48, 53, 48, 54, 48, 55, 48, 56, 48, 57, 49, 48, 49, 49, 49, 50, 49, 51, 49, 52, 49, 53, 49, 54, 49, 55, 49, 56, 49, 57, 50, 48, 50, 49, 50, 50, 50, 51, 50, 52, 50, 53, 50, 54, 50, 55, 50, 56, 50, 57, 51, 48, 51, 49, 51, 50, 51, 51, 51, 52, 51, 53, 51, 54, 51, 55, 51, 56, 51, 57, 52, 48, 52, 49, 52, 50, 52, 51, 52, 52, 52, 53, 52, 54, 52, 55, 52, 56, 52, 57, 53, 48, 53, 49, 53, 50, 53, 51, 53, 52, 53, 53, 53, 54, 53, 55, 53, 56, 53, 57, 54, 48, 54, 49, 54, 50, 54, 51, 54, 52, 54, 53, 54, 54, 54, 55, 54, 56, 54, 57, 55, 48, 55, 49, 55, 50, 55, 51, 55, 52, 55, 53, 55, 54, 55, 55, 55, 56, 55, 57, 56, 48, 56, 49, 56, 50, 56, 51, 56, 52, 56, 53, 56, 54, 56, 55, 56, 56, 56, 57, 57, 48, 57, 49, 57, 50, 57, 51, 57, 52, 57, 53, 57, 54, 57, 55, 57, 56, 57, 57])) g88) s89 <| opC (xV2 fIdxS (gC (.str [48, 48, 48, 49, 48, 50, 48, 51, 48, 52, 48, 53, 48, 54, 48, 55, 48, 56, 48, 57, 49, 48, 49, 49, 49, 50, 49, 51, 49, 52, 49, 53, 49, 54, 49, 55, 49, 56, 49, 57, 50, 48, 50, 49, 50, 50, 50, 51, 50, 52, 50, 53, 50, 54, 50, 55, 50, 56, 50, 57, 51, 48, 51, 49, 51, 50, 51, 51, 51, 52, 51, 53, 51, 54, 51, 55, 51, 56, 51, 57, 52, 48, 52, 49, 52, 50, 52, 51, 52, 52, 52, 53, 52, 54, 52, 55, 52, 56, 52, 57, 53, 48, 53, 49, 53, 50, 53, 51, 53, 52, 53, 53, 53, 54, 53, 55, 53, 56, 53, 57, 54, 48, 54, 49, 54, 50, 54, 51, 54, 52, 54, 53, 54, 54, 54, 55, 54, 56, 54, 57, 55, 48, 55, 49, 55, 50, 55, 51, 55, 52, 55, 53, 55, 54, 55, 55, 55, 56, 55, 57, 56, 48, 56, 49, 56, 50, 56, 51, 56, 52, 56, 53, 56, 54, 56, 55, 56, 56, 56, 57, 57, 48, 57, 49, 57, 50, 57, 51, 57, 52, 57, 53, 57, 54, 57, 55, 57, 56, 57, 57])) g10) s91 <| opC (xV2 (fIdxA 1) g0 g83) s92 <| op0 (xSt 1 g92 g89) <| opC (xV2 (fIdxA 1) g0 g86) s93 <| op0 (xSt 1 g93 g91) <| fEnd) (opC (xV2 fSub g4 (gC (.int .i64 (.ofNat 8)))) s95 <| opC (xMv g95) s4 <| fEnd)))))))))))))) (cSeq (opC (xV1 (fConv .u32) g1) s97 <| opC (xMv g97) s12 <| fEnd) (cSeq (cSeq (opC (xV2 fGeq g4 (gC (.int .i64 (.ofNat 4)))) s99 <| fEnd) (cIf g99 (cSeq (opC (xV2 fRem g12 (gC (.int .u32 (.ofNat 10000)))) s101 <| opC (xMv g101) s13 <| fEnd) (cSeq (opC (xV2 fQuo g12 (gC (.int .u32 (.ofNat 10000)))) s103 <| opC (xMv g103) s12 <| fEnd) (cSeq (opC (xV2 fQuo g13 (gC (.int .u32 (.ofNat 100)))) s105 <| opC (xV2 fMul g105 (gC (.int .u32 (.ofNat 2)))) s106 <| opC (xV2 fRem g13 (gC (.int .u32 (.ofNat 100)))) s108 <| opC (xV2 fMul g108 (gC (.int .u32 (.ofNat 2)))) s109 <| opC (xMv g106) s14 <| opC (xMv g109) s15 <| fEnd) (cSeq (opC (xV2 fSub g4 (gC (.int .i64 (.ofNat 1)))) s112 <| opC (xV2 fSub g4 (gC (.int .i64 (.ofNat 2)))) s115 <| opC (xV2 fAdd g15 (gC (.int .u32 (.ofNat 1)))) s117 <| opC (xV2 fIdxS (gC (.str [48, 48, 48, 49, 48, 50, 48, 51, 48, 52, 48, 53, 48, 54, 48, 55, 48, 56, 48, 57, 49, 48, 49, 49, 49, 50, 49, 51, 49, 52, 49, 53, 49, 54, 49, 55, 49, 56, 49, 57, 50, 48, 50, 49, 50, 50, 50, 51, 50, 52, 50, 53, 50, 54, 50, 55, 50, 56, 50, 57, 51, 48, 51, 49, 51, 50, 51, 51, 51, 52, 51, 53, 51, 54, 51, 55, 51, 56, 51, 57, 52, 48, 52, 49, 52, 50, 52, 51, 52, 52, 52, 53, 52, 54, 52, 55, 52, 56, 52, 57, 53, 48, 53, 49, 53, 50, 53, 51, 53, 52, 53, 53, 53, 54, 53, 55, 53, 56, 53, 57, 54, 48, 54, 49, 54, 50, 54, 51, 54, 52, 54, 53, 54, 54, 54, 55, 54, 56, 54, 57, 55, 48, 55, 49, 55, 50, 55, 51, 55, 52, 55, 53, 55, 54, 55, 55, 55, 56, 55, 57, 56, 48, 56, 49, 56, 50, 56, 51, 56, 52, 56, 53, 56, 54, 56, 55, 56, 56, 56, 57, 57, 48, 57, 49, 57, 50, 57, 51, 57, 52, 57, 53, 57, 54, 57, 55, 57, 56, 57, 57])) g117) s118 <| opC (xV2 fIdxS (gC (.str [48, 48, 48, 49, 48, 50, 48, 51, 48, 52, 48, 53, 48, 54, 48, 55, 48, 56, 48, 57, 49, 48, 49, 49, 49, 50, 49, 51, 49, 52, 49, 53, 49, 54, 49, 55, 49, 56, 49, 57, 50, 48, 50, 49, 50, 50, 50, 51, 50, 52, 50, 53, 50, 54, 50, 55, 50, 56, 50, 57, 51, 48, 51, 49, 51, 50, 51, 51, 51, 52, 51, 53, 51, 54, 51, 55, 51, 56, 51, 57, 52, 48, 52, 49, 52, 50, 52, 51, 52, 52, 52, 53, 52, 54, 52, 55, 52, 56, 52, 57, 53, 48, 53, 49, 53, 50, 53, 51, 53, 52, 53, 53, 53, 54, 53, 55, 53, 56, 53, 57, 54, 48, 54, 49, 54, 50, 54, 51, 54, 52, 54, 53, 54, 54, 54, 55, 54, 56, 54, 57, 55, 48, 55, 49, 55, 50, 55, 51, 55, 52, 55, 53, 55, 54, 55, 55, 55, 56, 55, 57, 56, 48, 56, 49, 56, 50, 56, 51, 56, 52, 56, 53, 56, 54, 56, 55, 56, 56, 56, 57, 57, 48, 57, 49, 57, 50, 57, 51, 57, 52, 57, 53, 57, 54, 57, 55, 57, 56, 57, 57])) g15) s120 <| opC (xV2 (fIdxA 1) g0 g112) s121 <| op0 (xSt 1 g121 g118) <| opC (xV2 (fIdxA 1) g0 g115) s122 <| op0 (xSt 1 g122 g120) <| fEnd) (cSeq (opC (xV2 fSub g4 (gC (.int .i64 (.ofNat 3)))) s125 <| opC (xV2 fSub g4 (gC (.int .i64 (.ofNat 4)))) s128 <| opC (xV2 fAdd g14 (gC (.int .u32 (.ofNat 1)))) s130 <| opC (xV2 fIdxS (gC (.str [48, 48, 48, 49, 48, 50, 48, 51, 48, 52, 48, 53, 48, 54, 48, 55, 48, 56, 48, 57, 49, 48, 49, 49, 49, 50, 49, 51, 49, 52, 49, 53, 49, 54, 49, 55, 49, 56, 49, 57, 50, 48, 50, 49, 50, 50, 50, 51, 50, 52, 50, 53, 50, 54, 50, 55, 50, 56, 50, 57, 51, 48, 51, 49, 51, 50, 51, 51, 51, 52, 51, 53, 51, 54, 51, 55, 51, 56, 51, 57, 52, 48, 52, 49, 52, 50, 52, 51, 52, 52, 52, 53, 52, 54, 52, 55, 52, 56, 52, 57, 53, 48, 53, 49, 53, 50, 53, 51, 53, 52, 53, 53, 53, 54, 53, 55, 53, 56, 53, 57, 54, 48, 54, 49, 54, 50, 54, 51, 54, 52, 54, 53, 54, 54, 54, 55, 54, 56, 54, 57, 55, 48, 55, 49, 55, 50, 55, 51, 55, 52, 55, 53, 55, 54, 55, 55, 55, 56, 55, 57, 56, 48, 56, 49, 56, 50, 56, 51, 56, 52, 56, 53, 56, 54, 56, 55, 56, 56, 56, 57, 57, 48, 57, 49, 57, 50, 57, 51, 57, 52, 57, 53, 57, 54, 57, 55, 57, 56, 57, 57])) g130) s131 <| opC (xV2 fIdxS (gC (.str [48, 48, 48, 49, 48, 50, 48, 51, 48, 52, 48, 53, 48, 54, 48, 55, 48, 56, 48, 57, 49, 48, 49, 49, 49, 50, 49, 51, 49, 52, 49, 53, 49, 54, 49, 55, 49, 56, 49, 57, 50, 48, 50, 49, 50, 50, 50, 51, 50, 52, 50, 53, 50, 54, 50, 55, 50, 56, 50, 57, 51, 48, 51, 49, 51, 50, 51, 51, 51, 52, 51, 53, 51, 54, 51, 55, 51, 56, 51, 57, 52, 48, 52, 49, 52, 50, 52, 51, 52, 52, 52, 53, 52, 54, 52, 55, 52, 56, 52, 57, 53, 48, 53, 49, 53, 50, 53, 51, 53, 52, 53, 53, 53, 54, 53, 55, 53, 56, 53, 57, 54, 48, 54, 49, 54, 50, 54, 51, 54, 52, 54, 53, 54, 54, 54, 55, 54, 56, 54, 57, 55, 48, 55, 49, 55, 50, 55, 51, 55, 52, 55, 53, 55, 54, 55, 55, 55, 56, 55, 57, 56, 48, 56, 49, 56, 50, 56, 51, 56, 52, 56, 53, 56, 54, 56, 55, 56, 56, 56, 57, 57, 48, 57, 49, 57, 50, 57, 51, 57, 52, 57, 53, 57, 54, 57, 55, 57, 56, 57, 57])) g14) s133 <| opC (xV2 (fIdxA 1) g0 g125) s134 <| op0 (xSt 1 g134 g131) <| opC (xV2 (fIdxA 1) g0 g128) s135 <| op0 (xSt 1 g135 g133) <| fEnd) (opC (xV2 fSub g4 (gC (.int .i64 (.ofNat 4)))) s137 <| opC (xMv g137) s4 <| fEnd)))))) fEnd)) (cSeq (cSeq (opC (xV2 fGeq g4 (gC (.int .i64 (.ofNat 2)))) s139 <| fEnd) (cIf g139 (cSeq (opC (xV2 fRem g12 (gC (.int .u32 (.ofNat 100)))) s141 <| opC (xV2 fMul g141 (gC (.int .u32 (.ofNat 2)))) s142 <| opC (xMv g142) s16 <| fEnd) (cSeq (opC (xV2 fQuo g12 (gC (.int .u32 (.ofNat 100)))) s144 <| opC (xMv g144) s12 <| fEnd) (cSeq (opC (xV2 fSub g4 (gC (.int .i64 (.ofNat 1)))) s147 <| opC (xV2 fSub g4 (gC (.int .i64 (.ofNat 2)))) s150 <| opC (xV2 fAdd g16 (gC (.int .u32 (.ofNat 1)))) s152 <| opC (xV2 fIdxS (gC (.str [48, 48, 48, 49, 48, 50, 48, 51, 48, 52, 48, 53, 48, 54, 48, 55, 48, 56, 48, 57, 49, 48, 49, 49, 49, 50, 49, 51, 49, 52, 49, 53, 49, 54, 49, 55, 49, 56, 49, 57, 50, 48, 50, 49, 50, 50, 50, 51, 50, 52, 50, 53, 50, 54, 50, 55, 50, 56, 50, 57, 51, 48, 51, 49, 51, 50, 51, 51, 51, 52, 51, 53, 51, 54, 51, 55, 51, 56, 51, 57, 52, 48, 52, 49, 52, 50, 52, 51, 52, 52, 52, 53, 52, 54, 52, 55, 52, 56, 52, 57, 53, 48, 53, 49, 53, 50, 53, 51, 53, 52, 53, 53, 53, 54, 53, 55, 53, 56, 53, 57, 54, 48, 54, 49, 54, 50, 54, 51, 54, 52, 54, 53, 54, 54, 54, 55, 54, 56, 54, 57, 55, 48, 55, 49, 55, 50, 55, 51, 55, 52, 55, 53, 55, 54, 55, 55, 55, 56, 55, 57, 56, 48, 56, 49, 56, 50, 56, 51, 56, 52, 56, 53, 56, 54, 56, 55, 56, 56, 56, 57, 57, 48, 57, 49, 57, 50, 57, 51, 57, 52, 57, 53, 57, 54, 57, 55, 57, 56, 57, 57])) g152) s153 <| opC (xV2 fIdxS (gC (.str [48, 48, 48, 49, 48, 50, 48, 51, 48, 52, 48, 53, 48, 54, 48, 55, 48, 56, 48, 57, 49, 48, 49, 49, 49, 50, 49, 51, 49, 52, 49, 53, 49, 54, 49, 55, 49, 56, 49, 57, 50, 48, 50, 49, 50, 50, 50, 51, 50, 52, 50, 53, 50, 54, 50, 55, 50, 56, 50, 57, 51, 48, 51, 49, 51, 50, 51, 51, 51, 52, 51, 53, 51, 54, 51, 55, 51, 56, 51, 57, 52, 48, 52, 49, 52, 50, 52, 51, 52, 52, 52, 53, 52, 54, 52, 55, 52, 56, 52, 57, 53, 48, 53, 49, 53, 50, 53, 51, 53, 52, 53, 53, 53, 54, 53, 55, 53, 56, 53, 57, 54, 48, 54, 49, 54, 50, 54, 51, 54, 52, 54, 53, 54, 54, 54, 55, 54, 56, 54, 57, 55, 48, 55, 49, 55, 50, 55, 51, 55, 52, 55, 53, 55, 54, 55, 55, 55, 56, 55, 57, 56, 48, 56, 49, 56, 50, 56, 51, 56, 52, 56, 53, 56, 54, 56, 55, 56, 56, 56, 57, 57, 48, 57, 49, 57, 50, 57, 51, 57, 52, 57, 53, 57, 54, 57, 55, 57, 56, 57, 57])) g16) s155 <| opC (xV2 (fIdxA 1) g0 g147) s156 <| op0 (xSt 1 g156 g153) <| opC (xV2 (fIdxA 1) g0 g150) s157 <| op0 (xSt 1 g157 g155) <| fEnd) (opC (xV2 fSub g4 (gC (.int .i64 (.ofNat 2)))) s159 <| opC (xMv g159) s4 <| fEnd)))) fEnd)) (cSeq (opC (xV2 fGtr g4 (gC (.int .i64 (.ofNat 0)))) s161 <| fEnd) (cIf g161 (opC (xV2 fAdd (gC (.int .u32 (.ofNat 48))) g12) s164 <| opC (xV1 (fConv .u8) g164) s165 <| opC (xV2 (fIdxA 1) g0 (gC (.int .i64 (.ofNat 0)))) s166 <| op0 (xSt 1 g166 g165) <| fEnd) fEnd))))))) []
-- internal/strconv.formatBits
def F43 : Go.Abs.F.Fn := mkFn [s0, s1, s2, s3, s4, s5, s6, s7, s8, s9, s10, s11] (cSeq (opC (xMv (gC (.slice none 0 (.known 0)))) s10 <| opC (xMv (gC (.str []))) s11 <| fEnd) (cSeq (cSeq (opC (xV2 fLss g2 (gC (.int .i64 (.ofNat 2)))) s20 <| opC (xGf g20 (xV2 fEql g2 (gC (.int .i64 (.ofNat 10))))) s23 <| opC (xPick g20 (gC (.bool true)) g23) s24 <| opC (xGf g24 (xV2 fGtr g2 (gC (.int .i64 (.ofNat 36))))) s27 <| opC (xPick g24 (gC (.bool true)) g27) s28 <| fEnd) (cIf g28 (opC (xIf 9 (gC (.str [115, 116, 114, 99, 111, 110, 118, 58, 32, 105, 108, 108, 101, 103, 97, 108, 32, 65, 112, 112, 101, 110, 100, 73, 110, 116, 47, 70, 111, 114, 109, 97, 116, 73, 110, 116, 32, 98, 97, 115, 101]))) s29 <| op0 (xBad) <| fEnd) fEnd)) (cSeq (opC (xNew [(.int .u8 (.ofNat 0)), (.int .u8 (.ofNat 0)), (.int .u8 (.ofNat 0)), (.int .u8 (.ofNat 0)), (.int .u8 (.ofNat 0)), (.int .u8 (.ofNat 0)), (.int .u8 (.ofNat 0)), (.int .u8 (.ofNat 0)), (.int .u8 (.ofNat 0)), (.int .u8 (.ofNat 0)), (.int .u8 (.ofNat 0)), (.int .u8 (.ofNat 0)), (.int .u8 (.ofNat 0)), (.int .u8 (.ofNat 0)), (.int .u8 (.ofNat 0)), (.int .u8 (.ofNat 0)), (.int .u8 (.ofNat 0)), (.int .u8 (.ofNat 0)), (.int .u8 (.ofNat 0)), (.int .u8 (.ofNat 0)), (.int .u8 (.ofNat 0)), (.int .u8 (.ofNat 0)), (.int .u8 (.ofNat 0)), (.int .u8 (.ofNat 0)), (.int .u8 (.ofNat 0)), (.int .u8 (.ofNat 0)), (.int .u8 (.ofNat 0)), (.int .u8 (.ofNat 0)), (.int .u8 (.ofNat 0)), (.int .u8 (.ofNat 0)), (.int .u8 (.ofNat 0)), (.int .u8 (.ofNat 0)), (.int .u8 (.ofNat 0)), (.int .u8 (.ofNat 0)), (.int .u8 (.ofNat 0)), (.int .u8 (.ofNat 0)), (.int .u8 (.ofNat 0)), (.int .u8 (.ofNat 0)), (.int .u8 (.ofNat 0)), (.int .u8 (.ofNat 0)), (.int .u8 (.ofNat 0)), (.int .u8 (.ofNat 0)), (.int .u8 (.ofNat 0)), (.int .u8 (.ofNat 0)), (.int .u8 (.ofNat 0)), (.int .u8 (.ofNat 0)), (.int .u8 (.ofNat 0)), (.int .u8 (.ofNat 0)), (.int .u8 (.ofNat 0)), (.int .u8 (.ofNat 0)), (.int .u8 (.ofNat 0)), (.int .u8 (.ofNat 0)), (.int .u8 (.ofNat 0)), (.int .u8 (.ofNat 0)), (.int .u8 (.ofNat 0)), (.int .u8 (.ofNat 0)), (.int .u8 (.ofNat 0)), (.int .u8 (.ofNat 0)), (.int .u8 (.ofNat 0)), (.int .u8 (.ofNat 0)), (.int .u8 (.ofNat 0)), (.int .u8 (.ofNat 0)), (.int .u8 (.ofNat 0)), (.int .u8 (.ofNat 0)), (.int .u8 (.ofNat 0))]) s12 <| fEnd) (cSeq (opC (xMv (gC (.int .i64 (.ofNat 65)))) s13 <| fEnd) (cSeq (cSeq (opC (xMv g3) s30 <| fEnd) (cIf g30 (opC (xV1 (fUn .neg) g1) s32 <| opC (xMv g32) s1 <| fEnd) fEnd)) (cSeq (cSeq (opC (xCall 56 [g2]) s34 <| fEnd) (cIf g34 (cSeq (opC (xV1 (fConv .u64) g2) s36 <| opC (xCall 57 [g36]) s37 <| opC (xV1 (fConv .u64) g37) s38 <| opC (xMv g38) s14 <| fEnd) (cSeq (opC (xV1 (fConv .u64) g2) s40 <| opC (xMv g40) s15 <| fEnd) (cSeq (opC (xV1 (fConv .u64) g2) s42 <| opC (xV2 fSub g42 (gC (.int .u64 (.ofNat 1)))) s43 <| opC (xMv g43) s16 <| fEnd) (cSeq (cBlk (cLoop (cSeq (cSeq (opC (xV2 fGeq g1 g15) s46 <| fEnd) (cIf g46 fEnd (cExit 0))) (cBlk (cSeq (opC (xV2 fSub g13 (gC (.int .i64 (.ofNat 1)))) s48 <| opC (xMv g48) s13 <| fEnd) (cSeq (opC (xV2 (fBit .and Nat.land) g1 g16) s52 <| opC (xV2 fIdxS (gC (.str [48, 49, 50, 51, 52, 53, 54, 55, 56, 57, 97, 98, 99, 100, 101, 102, 103, 104, 105, 106, 107, 108, 109, 110, 111, 112, 113, 114, 115, 116, 117, 118, 119, 120, 121, 122])) g52) s53 <| opC (xV2 (fIdxR 65 1) g12 g13) s54 <| op0 (xSt 1 g54 g53) <| fEnd) (opC (xV2 fShr g1 g14) s57 <| opC (xMv g57) s1 <| fEnd))))))) (cSeq (opC (xV2 fSub g13 (gC (.int .i64 (.ofNat 1)))) s59 <| opC (xMv g59) s13 <| fEnd) (opC (xV2 fIdxS (gC (.str [48, 49, 50, 51, 52, 53, 54, 55, 56, 57, 97, 98, 99, 100, 101, 102, 103, 104, 105, 106, 107, 108, 109, 110, 111, 112, 113, 114, 115, 116, 117, 118, 119, 120, 121, 122])) g1) s62 <| opC (xV2 (fIdxR 65 1) g12 g13) s63 <| op0 (xSt 1 g63 g62) <| fEnd)))))) (cSeq (opC (xV1 (fConv .u64) g2) s65 <| opC (xMv g65) s17 <| fEnd) (cSeq (cBlk (cLoop (cSeq (cSeq (opC (xV2 fGeq g1 g17) s68 <| fEnd) (cIf g68 fEnd (cExit 0))) (cBlk (cSeq (opC (xV2 fSub g13 (gC (.int .i64 (.ofNat 1)))) s70 <| opC (xMv g70) s13 <| fEnd) (cSeq (opC (xV2 fQuo g1 g17) s73 <| opC (xMv g73) s18 <| fEnd) (cSeq (opC (xV2 fMul g18 g17) s78 <| opC (xV2 fSub g1 g78) s79 <| opC (xV2 fIdxS (gC (.str [48, 49, 50, 51, 52, 53, 54, 55, 56, 57, 97, 98, 99, 100, 101, 102, 103, 104, 105, 106, 107, 108, 109, 110, 111, 112, 113, 114, 115, 116, 117, 118, 119, 120, 121, 122])) g79) s80 <| opC (xV2 (fIdxR 65 1) g12 g13) s81 <| op0 (xSt 1 g81 g80) <| fEnd) (opC (xMv g18) s1 <| fEnd)))))))) (cSeq (opC (xV2 fSub g13 (gC (.int .i64 (.ofNat 1)))) s84 <| opC (xMv g84) s13 <| fEnd) (opC (xV2 fIdxS (gC (.str [48, 49, 50, 51, 52, 53, 54, 55, 56, 57, 97, 98, 99, 100, 101, 102, 103, 104, 105, 106, 107, 108, 109, 110, 111, 112, 113, 114, 115, 116, 117, 118, 119, 120, 121, 122])) g1) s87 <| opC (xV2 (fIdxR 65 1) g12 g13) s88 <| op0 (xSt 1 g88 g87) <| fEnd)))))) (cSeq (cSeq (opC (xMv g3) s89 <| fEnd) (cIf g89 (cSeq (opC (xV2 fSub g13 (gC (.int .i64 (.ofNat 1)))) s91 <| opC (xMv g91) s13 <| fEnd) (opC (xV2 (fIdxR 65 1) g12 g13) s93 <| op0 (xSt 1 g93 (gC (.int .u8 (.ofNat 45)))) <| fEnd)) fEnd)) (cSeq (cSeq (opC (xMv g4) s94 <| fEnd) (cIf g94 (cSeq (opC (xSlA 65 1 g12 (some g13) none none) s97 <| opC (xApp 1 1 g0 g97) s98 <| opC (xMv g98) s10 <| fEnd) (cExit 0)) fEnd)) (cSeq (opC (xSlA 65 1 g12 (some g13) none none) s100 <| opC (xBS g100) s101 <| opC (xMv g101) s11 <| fEnd) (cExit 0)))))))))) [xMv g10, xMv g11]
-- internal/strconv.isPowerOfTwo
def F56 : Go.Abs.F.Fn := mkFn [s0, s1, s2, s3, s4, s5, s6, s7] (cSeq (opC (xMv (gC (.bool false))) s2 <| fEnd) (cSeq (opC (xV2 fSub g0 (gC (.int .i64 (.ofNat 1)))) s5 <| opC (xV2 (fBit .and Nat.land) g0 g5) s6 <| opC (xV2 fEql g6 (gC (.int .i64 (.ofNat 0)))) s7 <| opC (xMv g7) s2 <| fEnd) (cExit 0))) [xMv g2]
-- math/bits.TrailingZeros
def F57 : Go.Abs.F.Fn := mkFn [s0, s1, s2, s3, s4, s5, s6, s7] (cSeq (opC (xMv (gC (.int .i64 (.ofNat 0)))) s2 <| fEnd) (cSeq (cIf (gC (.bool false)) (cSeq (opC (xV1 (fConv .u32) g0) s4 <| opC (xCall 70 [g4]) s5 <| opC (xMv g5) s2 <| fEnd) (cExit 0)) fEnd) (cSeq (opC (xCall 71 [g0]) s7 <| opC (xMv g7) s2 <| fEnd) (cExit 0)))) [xMv g2]
-- math/bits.TrailingZeros32
def F70 : Go.Abs.F.Fn := mkFn [s0, s1, s2, s3, s4, s5, s6, s7, s8, s9, s10, s11] (cSeq (opC (xMv (gC (.int .i64 (.ofNat 0)))) s2 <| fEnd) (cSeq (cSeq (opC (xV2 fEql g0 (gC (.int .u32 (.ofNat 0)))) s4 <| fEnd) (cIf g4 (cSeq (opC (xMv (gC (.int .i64 (.ofNat 32)))) s2 <| fEnd) (cExit 0)) fEnd)) (cSeq (opC (xV1 (fUn .neg) g0) s7 <| opC (xV2 (fBit .and Nat.land) g0 g7) s8 <| opC (xV2 fMul g8 (gC (.int .u32 (.ofNat 125613361)))) s9 <| opC (xV2 fShr g9 (gC (.int .u64 (.ofNat 27)))) s10 <| opC (xHf (.gIdx 2 32 1) [g10]) s11 <| opC (xLd g11) s12 <| opC (xV1 (fConv .i64) g12) s13 <| opC (xMv g13) s2 <| fEnd) (cExit 0)))) [xMv g2]
-- math/bits.TrailingZeros64
def F71 : Go.Abs.F.Fn := mkFn [s0, s1, s2, s3, s4, s5, s6, s7, s8, s9, s10, s11] (cSeq (opC (xMv (gC (.int .i64 (.ofNat 0)))) s2 <| fEnd) (cSeq (cSeq (opC (xV2 fEql g0 (gC (.int .u64 (.ofNat 0)))) s4 <| fEnd) (cIf g4 (cSeq (opC (xMv (gC (.int .i64 (.ofNat 64)))) s2 <| fEnd) (cExit 0)) fEnd)) (cSeq (opC (xV1 (fUn .neg) g0) s7 <| opC (xV2 (fBit .and Nat.land) g0 g7) s8 <| opC (xV2 fMul g8 (gC (.int .u64 (.ofNat 285870213051353865)))) s9 <| opC (xV2 fShr g9 (gC (.int .u64 (.ofNat 58)))) s10 <| opC (xHf (.gIdx 3 64 1) [g10]) s11 <| opC (xLd g11) s12 <| opC (xV1 (fConv .i64) g12) s13 <| opC (xMv g13) s2 <| fEnd) (cExit 0)))) [xMv g2]
-- lightwell/reply.Reason
def F7 : Go.Abs.F.Fn := mkFn [s0, s1, s2, s3, s4, s5, s6, s7, s8, s9, s10, s11] (cSeq (opC (xMv (gC (.str []))) s2 <| fEnd) (cSeq (cSeq (opC (xMv g0) s3 <| fEnd) (cBlk (cSeq (opC (xV2 fEql g3 (gC (.int .i64 (.ofNat 200)))) s5 <| opC (xMv g5) s4 <| fEnd) (cIf g4 (cSeq (opC (xMv (gC (.str [79, 75]))) s2 <| fEnd) (cExit 1)) (cSeq (opC (xV2 fEql g3 (gC (.int .i64 (.ofNat 201)))) s7 <| opC (xMv g7) s6 <| fEnd) (cIf g6 (cSeq (opC (xMv (gC (.str [67, 114, 101, 97, 116, 101, 100]))) s2 <| fEnd) (cExit 1)) (cSeq (opC (xV2 fEql g3 (gC (.int .i64 (.ofNat 204)))) s9 <| opC (xMv g9) s8 <| fEnd) (cIf g8 (cSeq (opC (xMv (gC (.str [78, 111, 32, 67, 111, 110, 116, 101, 110, 116]))) s2 <| fEnd) (cExit 1)) (cSeq (opC (xV2 fEql g3 (gC (.int .i64 (.ofNat 400)))) s11 <| opC (xMv g11) s10 <| fEnd) (cIf g10 (cSeq (opC (xMv (gC (.str [66, 97, 100, 32, 82, 101, 113, 117, 101, 115, 116]))) s2 <| fEnd) (cExit 1)) (cSeq (opC (xV2 fEql g3 (gC (.int .i64 (.ofNat 401)))) s13 <| opC (xMv g13) s12 <| fEnd) (cIf g12 (cSeq (opC (xMv (gC (.str [85, 110, 97, 117, 116, 104, 111, 114, 105, 122, 101, 100]))) s2 <| fEnd) (cExit 1)) (cSeq (opC (xV2 fEql g3 (gC (.int .i64 (.ofNat 404)))) s15 <| opC (xMv g15) s14 <| fEnd) (cIf g14 (cSeq (opC (xMv (gC (.str [78, 111, 116, 32, 70, 111, 117, 110, 100]))) s2 <| fEnd) (cExit 1)) (cSeq (opC (xV2 fEql g3 (gC (.int .i64 (.ofNat 405)))) s17 <| opC (xMv g17) s16 <| fEnd) (cIf g16 (cSeq (opC (xMv (gC (.str [77, 101, 116, 104, 111, 100, 32, 78, 111, 116, 32, 65, 108, 108, 111, 119, 101, 100]))) s2 <| fEnd) (cExit 1)) (cSeq (opC (xV2 fEql g3 (gC (.int .i64 (.ofNat 409)))) s19 <| opC (xMv g19) s18 <| fEnd) (cIf g18 (cSeq (opC (xMv (gC (.str [67, 111, 110, 102, 108, 105, 99, 116]))) s2 <| fEnd) (cExit 1)) (cSeq (opC (xV2 fEql g3 (gC (.int .i64 (.ofNat 413)))) s21 <| opC (xMv g21) s20 <| fEnd) (cIf g20 (cSeq (opC (xMv (gC (.str [67, 111, 110, 116, 101, 110, 116, 32, 84, 111, 111, 32, 76, 97, 114, 103, 101]))) s2 <| fEnd) (cExit 1)) (cSeq (opC (xV2 fEql g3 (gC (.int .i64 (.ofNat 422)))) s23 <| opC (xMv g23) s22 <| fEnd) (cIf g22 (cSeq (opC (xMv (gC (.str [85, 110, 112, 114, 111, 99, 101, 115, 115, 97, 98, 108, 101, 32, 67, 111, 110, 116, 101, 110, 116]))) s2 <| fEnd) (cExit 1)) (cSeq (opC (xV2 fEql g3 (gC (.int .i64 (.ofNat 429)))) s25 <| opC (xMv g25) s24 <| fEnd) (cIf g24 (cSeq (opC (xMv (gC (.str [84, 111, 111, 32, 77, 97, 110, 121, 32, 82, 101, 113, 117, 101, 115, 116, 115]))) s2 <| fEnd) (cExit 1)) (cSeq (opC (xV2 fEql g3 (gC (.int .i64 (.ofNat 500)))) s27 <| opC (xMv g27) s26 <| fEnd) (cIf g26 (cSeq (opC (xMv (gC (.str [73, 110, 116, 101, 114, 110, 97, 108, 32, 83, 101, 114, 118, 101, 114, 32, 69, 114, 114, 111, 114]))) s2 <| fEnd) (cExit 1)) (cSeq (opC (xV2 fEql g3 (gC (.int .i64 (.ofNat 503)))) s29 <| opC (xMv g29) s28 <| fEnd) (cIf g28 (cSeq (opC (xMv (gC (.str [83, 101, 114, 118, 105, 99, 101, 32, 85, 110, 97, 118, 97, 105, 108, 97, 98, 108, 101]))) s2 <| fEnd) (cExit 1)) (cSeq (opC (xV2 fEql g3 (gC (.int .i64 (.ofNat 507)))) s31 <| opC (xMv g31) s30 <| fEnd) (cIf g30 (cSeq (opC (xMv (gC (.str [73, 110, 115, 117, 102, 102, 105, 99, 105, 101, 110, 116, 32, 83, 116, 111, 114, 97, 103, 101]))) s2 <| fEnd) (cExit 1)) fEnd)))))))))))))))))))))))))))))) (cSeq (opC (xMv (gC (.str []))) s2 <| fEnd) (cExit 0)))) [xMv g2]
-- lightwell/reply.lines
def F22 : Go.Abs.F.Fn := mkFn [s0, s1, s2, s3, s4, s5, s6, s7, s8, s9, s10, s11] (cSeq (opC (xMv (gC (.slice none 0 (.known 0)))) s4 <| fEnd) (cSeq (cSeq (opC (xMv g1) s7 <| opC (xV1 (fLen false) g7) s8 <| opC (xMv (gC (.int .i64 (.ofNat 0)))) s9 <| fEnd) (cBlk (cLoop (cSeq (opC (xV2 fLss g9 g8) s10 <| fEnd) (cSeq (cIf g10 fEnd (cExit 0)) (cSeq (cBlk (cSeq (opC (xV2 (fIdxA 1) g7 g9) s11 <| opC (xLd g11) s12 <| opC (xMv g12) s6 <| fEnd) (cSeq (opC (xApp 1 1 g0 g6) s15 <| opC (xMv g15) s0 <| fEnd) (opC (xApp 1 1 g0 (gC (.str [13, 10]))) s17 <| opC (xMv g17) s0 <| fEnd)))) (opC (xV2 fAdd g9 (gC (.int .i64 (.ofNat 1)))) s18 <| opC (xMv g18) s9 <| fEnd))))))) (cSeq (opC (xMv g0) s4 <| fEnd) (cExit 0)))) [xMv g4]
-- lightwell/reply.headers
def F26 : Go.Abs.F.Fn := mkFn [s0, s1, s2, s3, s4, s5, s6, s7, s8, s9, s10, s11] (cSeq (opC (xMv (gC (.slice none 0 (.known 0)))) s4 <| fEnd) (cSeq (cSeq (opC (xMv g1) s7 <| opC (xV1 (fLen false) g7) s8 <| opC (xMv (gC (.int .i64 (.ofNat 0)))) s9 <| fEnd) (cBlk (cLoop (cSeq (opC (xV2 fLss g9 g8) s10 <| fEnd) (cSeq (cIf g10 fEnd (cExit 0)) (cSeq (cBlk (cSeq (opC (xV2 (fIdxA 2) g7 g9) s11 <| opC (xLdA 2 g11) s12 <| opC (xNew [(.str []), (.str [])]) s6 <| op0 (xSt 2 g6 g12) <| fEnd) (opC (xV1 (fFld 0) g6) s14 <| opC (xLd g14) s15 <| opC (xV2 fAdd g15 (gC (.str [58, 32]))) s16 <| opC (xV1 (fFld 1) g6) s17 <| opC (xLd g17) s18 <| opC (xV2 fAdd g16 g18) s19 <| opC (xBuildSl [(.str [])] 1 [⟨0, 1, g19⟩]) s20 <| opC (xCall 22 [g0, g20]) s21 <| opC (xMv g21) s0 <| fEnd))) (opC (xV2 fAdd g9 (gC (.int .i64 (.ofNat 1)))) s22 <| opC (xMv g22) s9 <| fEnd))))))) (cSeq (opC (xMv g0) s4 <| fEnd) (cExit 0)))) [xMv g4]
-- lightwell/lightwellref28.Begin
def F6 : Go.Abs.F.Fn := mkFn [s0, s1, s2, s3, s4, s5, s6, s7, s8, s9, s10, s11] (cSeq (opC (xMv (gC (.slice none 0 (.known 0)))) s4 <| opC (xMv (gC (.int .i64 (.ofNat 0)))) s5 <| fEnd) (cSeq (opC (xCall 23 [g0, g1]) s11 <| opC (xV1 (fExt 0) g11) s12 <| opC (xV1 (fExt 1) g11) s13 <| opC (xMv g12) s6 <| opC (xMv g13) s7 <| fEnd) (cSeq (cSeq (opC (xV2 fNeq g7 (gC (.int .i64 (.ofNat 0)))) s15 <| fEnd) (cIf g15 (cSeq (opC (xMv (gC (.slice none 0 (.known 0)))) s4 <| opC (xMv g7) s5 <| fEnd) (cExit 0)) fEnd)) (cSeq (opC (xV2 fAdd g6 (gC (.str [84, 114, 97, 110, 115, 102, 101, 114, 45, 69, 110, 99, 111, 100, 105, 110, 103, 58, 32, 99, 104, 117, 110, 107, 101, 100, 13, 10, 13, 10]))) s18 <| opC (xSB g18) s19 <| opC (xMv g19) s4 <| opC (xMv (gC (.int .i64 (.ofNat 0)))) s5 <| fEnd) (cExit 0))))) [xMv g4, xMv g5]
-- lightwell/lightwellref28.Head
def F23 : Go.Abs.F.Fn := mkFn [s0, s1, s2, s3, s4, s5, s6, s7, s8, s9, s10, s11] (cSeq (opC (xMv (gC (.str []))) s4 <| opC (xMv (gC (.int .i64 (.ofNat 0)))) s5 <| fEnd) (cSeq (cSeq (opC (xV2 fLss g0 (gC (.int .i64 (.ofNat 200)))) s9 <| opC (xGf g9 (xV2 fGtr g0 (gC (.int .i64 (.ofNat 599))))) s12 <| opC (xPick g9 (gC (.bool true)) g12) s13 <| fEnd) (cIf g13 (cSeq (opC (xMv (gC (.str []))) s4 <| opC (xMv (gC (.int .i64 (.ofNat 2)))) s5 <| fEnd) (cExit 0)) fEnd)) (cSeq (opC (xCall 29 [g1]) s16 <| opC (xV1 (fExt 0) g16) s17 <| opC (xV1 (fExt 1) g16) s18 <| opC (xMv g17) s6 <| opC (xMv g18) s7 <| fEnd) (cSeq (opC (xCall 28 [g0, (gC (.int .i64 (.ofNat 10)))]) s20 <| opC (xV2 fAdd (gC (.str [72, 84, 84, 80, 47, 49, 46, 49, 32])) g20) s21 <| opC (xV2 fAdd g21 (gC (.str [32]))) s22 <| opC (xCall 8 [g0]) s24 <| opC (xV2 fAdd g22 g24) s25 <| opC (xV2 fAdd g25 (gC (.str [13, 10]))) s26 <| opC (xV2 fAdd g26 g6) s28 <| opC (xMv g28) s4 <| opC (xMv g7) s5 <| fEnd) (cExit 0))))) [xMv g4, xMv g5]
-- lightwell/lightwellref28.Fields
def F29 : Go.Abs.F.Fn := mkFn [s0, s1, s2, s3, s4, s5, s6, s7, s8, s9, s10, s11] (cSeq (opC (xMv (gC (.str []))) s2 <| opC (xMv (gC (.int .i64 (.ofNat 0)))) s3 <| fEnd) (cSeq (cSeq (opC (xV1 (fLen false) g0) s7 <| opC (xV2 fGtr g7 (gC (.int .i64 (.ofNat 40)))) s8 <| fEnd) (cIf g8 (cSeq (opC (xMv (gC (.str []))) s2 <| opC (xMv (gC (.int .i64 (.ofNat 3)))) s3 <| fEnd) (cExit 0)) fEnd)) (cSeq (opC (xMv (gC (.str []))) s4 <| fEnd) (cSeq (cSeq (opC (xMv (gC (.int .i64 (.ofNat 0)))) s5 <| fEnd) (cBlk (cLoop (cSeq (cSeq (opC (xV1 (fLen false) g0) s11 <| opC (xV2 fLss g5 g11) s12 <| fEnd) (cIf g12 fEnd (cExit 0))) (cSeq (cBlk (cSeq (cSeq (opC (xV2 (fIdxA 2) g0 g5) s17 <| opC (xLdA 2 g17) s18 <| opC (xCall 34 [g18]) s19 <| opC (xV1 fNot g19) s20 <| fEnd) (cIf g20 (cSeq (opC (xMv (gC (.str []))) s2 <| opC (xMv (gC (.int .i64 (.ofNat 21)))) s3 <| fEnd) (cExit 2)) fEnd)) (opC (xV2 (fIdxA 2) g0 g5) s24 <| opC (xV1 (fFld 0) g24) s25 <| opC (xLd g25) s26 <| opC (xV2 fAdd g4 g26) s27 <| opC (xV2 fAdd g27 (gC (.str [58, 32]))) s28 <| opC (xV2 (fIdxA 2) g0 g5) s31 <| opC (xV1 (fFld 1) g31) s32 <| opC (xLd g32) s33 <| opC (xV2 fAdd g28 g33) s34 <| opC (xV2 fAdd g34 (gC (.str [13, 10]))) s35 <| opC (xMv g35) s4 <| fEnd))) (opC (xV2 fAdd g5 (gC (.int .i64 (.ofNat 1)))) s14 <| opC (xMv g14) s5 <| fEnd)))))) (cSeq (opC (xMv g4) s2 <| opC (xMv (gC (.int .i64 (.ofNat 0)))) s3 <| fEnd) (cExit 0)))))) [xMv g2, xMv g3]
-- lightwell/lightwellref28.right
def F34 : Go.Abs.F.Fn := mkFn [s0, s1, s2, s3, s4, s5, s6, s7, s8, s9, s10, s11] (cSeq (opC (xBox g0) s1 <| opC (xMv (gC (.bool false))) s2 <| fEnd) (cSeq (opC (xV1 (fFld 0) g1) s7 <| opC (xLd g7) s8 <| opC (xCall 44 [g8]) s9 <| opC (xMv g9) s3 <| fEnd) (cSeq (cSeq (opC (xMv (gC (.int .i64 (.ofNat 0)))) s4 <| fEnd) (cBlk (cLoop (cSeq (cSeq (opC (xV1 (fFld 1) g1) s11 <| opC (xLd g11) s12 <| opC (xV1 (fLen true) g12) s13 <| opC (xV2 fLss g4 g13) s14 <| fEnd) (cIf g14 fEnd (cExit 0))) (cSeq (cBlk (cSeq (opC (xV1 (fFld 1) g1) s17 <| opC (xLd g17) s18 <| opC (xV2 fIdxS g18 g4) s20 <| opC (xV2 fEql g20 (gC (.int .u8 (.ofNat 10)))) s21 <| fEnd) (cIf g21 (cSeq (opC (xMv (gC (.bool false))) s2 <| fEnd) (cExit 2)) fEnd))) (opC (xV2 fAdd g4 (gC (.int .i64 (.ofNat 1)))) s16 <| opC (xMv g16) s4 <| fEnd)))))) (cSeq (opC (xV1 (fFld 0) g1) s23 <| opC (xLd g23) s24 <| opC (xV2 fAdd g24 (gC (.str [58]))) s25 <| opC (xV1 (fFld 1) g1) s26 <| opC (xLd g26) s27 <| opC (xV2 fAdd g25 g27) s28 <| opC (xCall 45 [g28]) s29 <| opC (xV1 (fExt 0) g29) s30 <| opC (xV1 (fExt 1) g29) s31 <| opC (xNew [(.str []), (.str [])]) s5 <| op0 (xSt 2 g5 g30) <| opC (xMv g31) s6 <| fEnd) (cSeq (opC (xGt g6 (xV1 (fFld 0) g5)) s34 <| opC (xGt g6 (xLd g34)) s35 <| opC (xGt g6 (xV2 fEql g35 g3)) s37 <| opC (xPick g6 g37 (gC (.bool false))) s38 <| opC (xGt g38 (xV1 (fFld 1) g5)) s40 <| opC (xGt g38 (xLd g40)) s41 <| opC (xGt g38 (xV1 (fFld 1) g1)) s42 <| opC (xGt g38 (xLd g42)) s43 <| opC (xGt g38 (xV2 fEql g41 g43)) s44 <| opC (xPick g38 g44 (gC (.bool false))) s45 <| opC (xGt g45 (xV2 fNeq g3 (gC (.str [99, 111, 110, 116, 101, 110, 116, 45, 108, 101, 110, 103, 116, 104])))) s48 <| opC (xPick g45 g48 (gC (.bool false))) s49 <| opC (xGt g49 (xV2 fNeq g3 (gC (.str [116, 114, 97, 110, 115, 102, 101, 114, 45, 101, 110, 99, 111, 100, 105, 110, 103])))) s52 <| opC (xPick g49 g52 (gC (.bool false))) s53 <| opC (xMv g53) s2 <| fEnd) (cExit 0)))))) [xMv g2]
-- lightwell/lightwellref27.Lower
def F44 : Go.Abs.F.Fn := mkFn [s0, s1, s2, s3, s4, s5, s6, s7, s8, s9, s10, s11] (cSeq (opC (xMv (gC (.str []))) s2 <| fEnd) (cSeq (opC (xMv (gC (.slice none 0 (.known 0)))) s3 <| fEnd) (cSeq (cSeq (opC (xMv (gC (.int .i64 (.ofNat 0)))) s4 <| fEnd) (cBlk (cLoop (cSeq (cSeq (opC (xV1 (fLen true) g0) s7 <| opC (xV2 fLss g4 g7) s8 <| fEnd) (cIf g8 fEnd (cExit 0))) (cSeq (cBlk (opC (xV2 fIdxS g0 g4) s14 <| opC (xCall 58 [g14]) s15 <| opC (xBuildSl [(.int .u8 (.ofNat 0))] 1 [⟨0, 1, g15⟩]) s16 <| opC (xApp 1 1 g3 g16) s17 <| opC (xMv g17) s3 <| fEnd)) (opC (xV2 fAdd g4 (gC (.int .i64 (.ofNat 1)))) s10 <| opC (xMv g10) s4 <| fEnd)))))) (cSeq (opC (xBS g3) s19 <| opC (xMv g19) s2 <| fEnd) (cExit 0))))) [xMv g2]
-- lightwell/lightwellref27.Small
def F58 : Go.Abs.F.Fn := mkFn [s0, s1, s2, s3, s4, s5, s6, s7, s8, s9, s10, s11] (cSeq (opC (xMv (gC (.int .u8 (.ofNat 0)))) s2 <| fEnd) (cSeq (cSeq (opC (xV2 fGeq g0 (gC (.int .u8 (.ofNat 65)))) s4 <| opC (xGt g4 (xV2 fLeq g0 (gC (.int .u8 (.ofNat 90))))) s7 <| opC (xPick g4 g7 (gC (.bool false))) s8 <| fEnd) (cIf g8 (cSeq (opC (xV2 fAdd g0 (gC (.int .u8 (.ofNat 32)))) s10 <| opC (xMv g10) s2 <| fEnd) (cExit 0)) fEnd)) (cSeq (opC (xMv g0) s2 <| fEnd) (cExit 0)))) [xMv g2]
-- lightwell/lightwellref27.Field
def F45 : Go.Abs.F.Fn := mkFn [s0, s1, s2, s3, s4, s5, s6, s7, s8, s9, s10, s11] (cSeq (opC (xNew [(.str []), (.str [])]) s2 <| opC (xMv (gC (.bool false))) s3 <| fEnd) (cSeq (opC (xCall 59 [g0, (gC (.int .u8 (.ofNat 58)))]) s7 <| opC (xMv g7) s4 <| fEnd) (cSeq (cSeq (opC (xV1 (fLen true) g0) s10 <| opC (xV2 fEql g4 g10) s11 <| opC (xGf g11 (xSlS g0 none (some g4))) s15 <| opC (xGf g11 (xCall 60 [g15, (gC (.int .i64 (.ofNat 1)))])) s16 <| opC (xGf g11 (xV1 fNot g16)) s17 <| opC (xPick g11 (gC (.bool true)) g17) s18 <| fEnd) (cIf g18 (cSeq (opC (xBuild [(.str []), (.str [])] []) s19 <| op0 (xSt 2 g2 g19) <| opC (xMv (gC (.bool false))) s3 <| fEnd) (cExit 0)) fEnd)) (cSeq (opC (xV2 fAdd g4 (gC (.int .i64 (.ofNat 1)))) s22 <| opC (xSlS g0 (some g22) none) s23 <| opC (xCall 61 [g23]) s24 <| opC (xMv g24) s5 <| fEnd) (cSeq (cSeq (opC (xV2 fNeq g5 (gC (.str []))) s26 <| opC (xGt g26 (xCall 60 [g5, (gC (.int .i64 (.ofNat 2)))])) s29 <| opC (xGt g26 (xV1 fNot g29)) s30 <| opC (xPick g26 g30 (gC (.bool false))) s31 <| fEnd) (cIf g31 (cSeq (opC (xBuild [(.str []), (.str [])] []) s32 <| op0 (xSt 2 g2 g32) <| opC (xMv (gC (.bool false))) s3 <| fEnd) (cExit 0)) fEnd)) (cSeq (opC (xSlS g0 none (some g4)) s35 <| opC (xCall 44 [g35]) s36 <| opC (xBuild [(.str []), (.str [])] [⟨0, 1, g36⟩, ⟨1, 1, g5⟩]) s38 <| op0 (xSt 2 g2 g38) <| opC (xMv (gC (.bool true))) s3 <| fEnd) (cExit 0))))))) [xLdA 2 g2, xMv g3]
-- lightwell/lightwellref27.find
def F59 : Go.Abs.F.Fn := mkFn [s0, s1, s2, s3, s4, s5, s6, s7, s8, s9, s10, s11] (cSeq (opC (xMv (gC (.int .i64 (.ofNat 0)))) s4 <| fEnd) (cSeq (cSeq (opC (xMv (gC (.int .i64 (.ofNat 0)))) s5 <| fEnd) (cBlk (cLoop (cSeq (cSeq (opC (xV1 (fLen true) g0) s8 <| opC (xV2 fLss g5 g8) s9 <| fEnd) (cIf g9 fEnd (cExit 0))) (cSeq (cBlk (cSeq (opC (xV2 fIdxS g0 g5) s14 <| opC (xV2 fEql g14 g1) s16 <| fEnd) (cIf g16 (cSeq (opC (xMv g5) s4 <| fEnd) (cExit 2)) fEnd))) (opC (xV2 fAdd g5 (gC (.int .i64 (.ofNat 1)))) s11 <| opC (xMv g11) s5 <| fEnd)))))) (cSeq (opC (xV1 (fLen true) g0) s19 <| opC (xMv g19) s4 <| fEnd) (cExit 0)))) [xMv g4]
-- lightwell/lightwellref27.All
def F60 : Go.Abs.F.Fn := mkFn [s0, s1, s2, s3, s4, s5, s6, s7, s8, s9, s10, s11] (cSeq (opC (xMv (gC (.bool false))) s4 <| fEnd) (cSeq (cSeq (opC (xMv (gC (.int .i64 (.ofNat 0)))) s5 <| fEnd) (cBlk (cLoop (cSeq (cSeq (opC (xV1 (fLen true) g0) s10 <| opC (xV2 fLss g5 g10) s11 <| fEnd) (cIf g11 fEnd (cExit 0))) (cSeq (cBlk (cSeq (opC (xV2 fIdxS g0 g5) s16 <| opC (xMv g16) s6 <| fEnd) (cSeq (opC (xCall 72 [g6]) s18 <| opC (xMv g18) s7 <| fEnd) (cSeq (cSeq (opC (xMv g1) s19 <| fEnd) (cBlk (cSeq (opC (xV2 fEql g19 (gC (.int .i64 (.ofNat 1)))) s21 <| opC (xMv g21) s20 <| fEnd) (cIf g20 (opC (xCall 73 [g6]) s23 <| opC (xMv g23) s7 <| fEnd) (cSeq (opC (xV2 fEql g19 (gC (.int .i64 (.ofNat 2)))) s25 <| opC (xMv g25) s24 <| fEnd) (cIf g24 (opC (xV2 fEql g6 (gC (.int .u8 (.ofNat 9)))) s27 <| opC (xGf g27 (xV2 fGeq g6 (gC (.int .u8 (.ofNat 32))))) s30 <| opC (xGf g27 (xMv g30)) s31 <| opC (xGt g31 (xV2 fLeq g6 (gC (.int .u8 (.ofNat 126))))) s33 <| opC (xGf g27 (xPick g31 g33 (gC (.bool false)))) s34 <| opC (xPick g27 (gC (.bool true)) g34) s35 <| opC (xGf g35 (xV2 fGeq g6 (gC (.int .u8 (.ofNat 128))))) s38 <| opC (xPick g35 (gC (.bool true)) g38) s39 <| opC (xMv g39) s7 <| fEnd) (cSeq (opC (xV2 fEql g19 (gC (.int .i64 (.ofNat 3)))) s41 <| opC (xMv g41) s40 <| fEnd) (cIf g40 (opC (xV2 fGeq g6 (gC (.int .u8 (.ofNat 33)))) s43 <| opC (xGt g43 (xV2 fLeq g6 (gC (.int .u8 (.ofNat 126))))) s46 <| opC (xPick g43 g46 (gC (.bool false))) s47 <| opC (xMv g47) s7 <| fEnd) (cSeq (opC (xV2 fEql g19 (gC (.int .i64 (.ofNat 4)))) s49 <| opC (xMv g49) s48 <| fEnd) (cIf g48 (opC (xGf g7 (xCall 58 [g6])) s53 <| opC (xGf g7 (xV2 fGeq g53 (gC (.int .u8 (.ofNat 97))))) s54 <| opC (xGf g7 (xMv g54)) s55 <| opC (xGt g55 (xCall 58 [g6])) s57 <| opC (xGt g55 (xV2 fLeq g57 (gC (.int .u8 (.ofNat 102))))) s58 <| opC (xGf g7 (xPick g55 g58 (gC (.bool false)))) s59 <| opC (xPick g7 (gC (.bool true)) g59) s60 <| opC (xMv g60) s7 <| fEnd) fEnd)))))))))) (cSeq (opC (xV1 fNot g7) s62 <| fEnd) (cIf g62 (cSeq (opC (xMv (gC (.bool false))) s4 <| fEnd) (cExit 2)) fEnd)))))) (opC (xV2 fAdd g5 (gC (.int .i64 (.ofNat 1)))) s13 <| opC (xMv g13) s5 <| fEnd)))))) (cSeq (opC (xV1 (fLen true) g0) s64 <| opC (xV2 fGtr g64 (gC (.int .i64 (.ofNat 0)))) s65 <| opC (xMv g65) s4 <| fEnd) (cExit 0)))) [xMv g4]
-- lightwell/lightwellref27.digit
def F72 : Go.Abs.F.Fn := mkFn [s0, s1, s2, s3, s4, s5, s6, s7, s8] (cSeq (opC (xMv (gC (.bool false))) s2 <| fEnd) (cSeq (opC (xV2 fGeq g0 (gC (.int .u8 (.ofNat 48)))) s4 <| opC (xGt g4 (xV2 fLeq g0 (gC (.int .u8 (.ofNat 57))))) s7 <| opC (xPick g4 g7 (gC (.bool false))) s8 <| opC (xMv g8) s2 <| fEnd) (cExit 0))) [xMv g2]
-- lightwell/lightwellref27.Tchar
def F73 : Go.Abs.F.Fn := mkFn [s0, s1, s2, s3, s4, s5, s6, s7, s8, s9, s10, s11] (cSeq (opC (xMv (gC (.bool false))) s2 <| fEnd) (cSeq (cSeq (opC (xCall 72 [g0]) s6 <| opC (xGf g6 (xCall 58 [g0])) s9 <| opC (xGf g6 (xV2 fGeq g9 (gC (.int .u8 (.ofNat 97))))) s10 <| opC (xGf g6 (xMv g10)) s11 <| opC (xGt g11 (xCall 58 [g0])) s13 <| opC (xGt g11 (xV2 fLeq g13 (gC (.int .u8 (.ofNat 122))))) s14 <| opC (xGf g6 (xPick g11 g14 (gC (.bool false)))) s15 <| opC (xPick g6 (gC (.bool true)) g15) s16 <| fEnd) (cIf g16 (cSeq (opC (xMv (gC (.bool true))) s2 <| fEnd) (cExit 0)) fEnd)) (cSeq (cSeq (opC (xBuildSl [(.int .u8 (.ofNat 0)), (.int .u8 (.ofNat 0)), (.int .u8 (.ofNat 0)), (.int .u8 (.ofNat 0)), (.int .u8 (.ofNat 0)), (.int .u8 (.ofNat 0)), (.int .u8 (.ofNat 0)), (.int .u8 (.ofNat 0)), (.int .u8 (.ofNat 0)), (.int .u8 (.ofNat 0)), (.int .u8 (.ofNat 0)), (.int .u8 (.ofNat 0)), (.int .u8 (.ofNat 0)), (.int .u8 (.ofNat 0)), (.int .u8 (.ofNat 0))] 15 [⟨0, 1, (gC (.int .u8 (.ofNat 33)))⟩, ⟨1, 1, (gC (.int .u8 (.ofNat 35)))⟩, ⟨2, 1, (gC (.int .u8 (.ofNat 36)))⟩, ⟨3, 1, (gC (.int .u8 (.ofNat 37)))⟩, ⟨4, 1, (gC (.int .u8 (.ofNat 38)))⟩, ⟨5, 1, (gC (.int .u8 (.ofNat 39)))⟩, ⟨6, 1, (gC (.int .u8 (.ofNat 42)))⟩, ⟨7, 1, (gC (.int .u8 (.ofNat 43)))⟩, ⟨8, 1, (gC (.int .u8 (.ofNat 45)))⟩, ⟨9, 1, (gC (.int .u8 (.ofNat 46)))⟩, ⟨10, 1, (gC (.int .u8 (.ofNat 94)))⟩, ⟨11, 1, (gC (.int .u8 (.ofNat 95)))⟩, ⟨12, 1, (gC (.int .u8 (.ofNat 96)))⟩, ⟨13, 1, (gC (.int .u8 (.ofNat 124)))⟩, ⟨14, 1, (gC (.int .u8 (.ofNat 126)))⟩]) s17 <| opC (xHf .mark [g17]) s18 <| opC (xV1 (fLen false) g18) s19 <| opC (xMv (gC (.int .i64 (.ofNat 0)))) s20 <| fEnd) (cBlk (cLoop (cSeq (opC (xV2 fLss g20 g19) s21 <| fEnd) (cSeq (cIf g21 fEnd (cExit 0)) (cSeq (cBlk (cSeq (opC (xV2 (fIdxA 1) g18 g20) s22 <| opC (xLd g22) s23 <| opC (xMv g23) s4 <| fEnd) (cSeq (opC (xV2 fEql g0 g4) s26 <| fEnd) (cIf g26 (cSeq (opC (xMv (gC (.bool true))) s2 <| fEnd) (cExit 2)) fEnd)))) (opC (xV2 fAdd g20 (gC (.int .i64 (.ofNat 1)))) s27 <| opC (xMv g27) s20 <| fEnd))))))) (cSeq (opC (xMv (gC (.bool false))) s2 <| fEnd) (cExit 0))))) [xMv g2]
-- lightwell/lightwellref27.bare
def F61 : Go.Abs.F.Fn := mkFn [s0, s1, s2, s3, s4, s5, s6, s7, s8, s9, s10, s11] (cSeq (opC (xMv (gC (.str []))) s2 <| fEnd) (cSeq (cBlk (cLoop (cSeq (cSeq (opC (xV1 (fLen true) g0) s4 <| opC (xV2 fGtr g4 (gC (.int .i64 (.ofNat 0)))) s5 <| opC (xGt g5 (xV2 fIdxS g0 (gC (.int .i64 (.ofNat 0))))) s8 <| opC (xGt g5 (xV2 fEql g8 (gC (.int .u8 (.ofNat 32))))) s9 <| opC (xGt g5 (xMv g9)) s10 <| opC (xGf g10 (xV2 fIdxS g0 (gC (.int .i64 (.ofNat 0))))) s12 <| opC (xGf g10 (xV2 fEql g12 (gC (.int .u8 (.ofNat 9))))) s13 <| opC (xGt g5 (xPick g10 (gC (.bool true)) g13)) s14 <| opC (xPick g5 g14 (gC (.bool false))) s15 <| fEnd) (cIf g15 fEnd (cExit 0))) (cBlk (opC (xSlS g0 (some (gC (.int .i64 (.ofNat 1)))) none) s17 <| opC (xMv g17) s0 <| fEnd))))) (cSeq (cBlk (cLoop (cSeq (cSeq (opC (xV1 (fLen true) g0) s19 <| opC (xV2 fGtr g19 (gC (.int .i64 (.ofNat 0)))) s20 <| opC (xGt g20 (xV1 (fLen true) g0)) s24 <| opC (xGt g20 (xV2 fSub g24 (gC (.int .i64 (.ofNat 1))))) s25 <| opC (xGt g20 (xV2 fIdxS g0 g25)) s26 <| opC (xGt g20 (xV2 fEql g26 (gC (.int .u8 (.ofNat 32))))) s27 <| opC (xGt g20 (xMv g27)) s28 <| opC (xGf g28 (xV1 (fLen true) g0)) s31 <| opC (xGf g28 (xV2 fSub g31 (gC (.int .i64 (.ofNat 1))))) s32 <| opC (xGf g28 (xV2 fIdxS g0 g32)) s33 <| opC (xGf g28 (xV2 fEql g33 (gC (.int .u8 (.ofNat 9))))) s34 <| opC (xGt g20 (xPick g28 (gC (.bool true)) g34)) s35 <| opC (xPick g20 g35 (gC (.bool false))) s36 <| fEnd) (cIf g36 fEnd (cExit 0))) (cBlk (opC (xV1 (fLen true) g0) s39 <| opC (xV2 fSub g39 (gC (.int .i64 (.ofNat 1)))) s40 <| opC (xSlS g0 none (some g40)) s41 <| opC (xMv g41) s0 <| fEnd))))) (cSeq (opC (xMv g0) s2 <| fEnd) (cExit 0))))) [xMv g2]
-- lightwell/lightwellref28.Digits
def F28 : Go.Abs.F.Fn := mkFn [s0, s1, s2, s3, s4, s5, s6, s7, s8, s9, s10, s11] (cSeq (opC (xMv (gC (.str []))) s4 <| fEnd) (cSeq (opC (xV2 fRem g0 g1) s8 <| opC (xV2 fRem g0 g1) s11 <| opC (xV2 fAdd g11 (gC (.int .i64 (.ofNat 1)))) s12 <| opC (xSlS (gC (.str [48, 49, 50, 51, 52, 53, 54, 55, 56, 57, 97, 98, 99, 100, 101, 102])) (some g8) (some g12)) s13 <| opC (xMv g13) s5 <| fEnd) (cSeq (cSeq (opC (xV2 fQuo g0 g1) s16 <| opC (xMv g16) s0 <| fEnd) (cBlk (cLoop (cSeq (cSeq (opC (xV2 fGtr g0 (gC (.int .i64 (.ofNat 0)))) s18 <| fEnd) (cIf g18 fEnd (cExit 0))) (cSeq (cBlk (opC (xV2 fRem g0 g1) s24 <| opC (xV2 fRem g0 g1) s27 <| opC (xV2 fAdd g27 (gC (.int .i64 (.ofNat 1)))) s28 <| opC (xSlS (gC (.str [48, 49, 50, 51, 52, 53, 54, 55, 56, 57, 97, 98, 99, 100, 101, 102])) (some g24) (some g28)) s29 <| opC (xV2 fAdd g29 g5) s31 <| opC (xMv g31) s5 <| fEnd)) (opC (xV2 fQuo g0 g1) s21 <| opC (xMv g21) s0 <| fEnd)))))) (cSeq (opC (xMv g5) s4 <| fEnd) (cExit 0))))) [xMv g4]
-- lightwell/lightwellref28.Reason
def F8 : Go.Abs.F.Fn := mkFn [s0, s1, s2, s3, s4, s5, s6, s7, s8, s9, s10, s11] (cSeq (opC (xMv (gC (.str []))) s2 <| fEnd) (cSeq (opC (xBuildSl [(.int .i64 (.ofNat 0)), (.int .i64 (.ofNat 0)), (.int .i64 (.ofNat 0)), (.int .i64 (.ofNat 0)), (.int .i64 (.ofNat 0)), (.int .i64 (.ofNat 0)), (.int .i64 (.ofNat 0)), (.int .i64 (.ofNat 0)), (.int .i64 (.ofNat 0)), (.int .i64 (.ofNat 0)), (.int .i64 (.ofNat 0)), (.int .i64 (.ofNat 0)), (.int .i64 (.ofNat 0)), (.int .i64 (.ofNat 0))] 14 [⟨0, 1, (gC (.int .i64 (.ofNat 200)))⟩, ⟨1, 1, (gC (.int .i64 (.ofNat 201)))⟩, ⟨2, 1, (gC (.int .i64 (.ofNat 204)))⟩, ⟨3, 1, (gC (.int .i64 (.ofNat 400)))⟩, ⟨4, 1, (gC (.int .i64 (.ofNat 401)))⟩, ⟨5, 1, (gC (.int .i64 (.ofNat 404)))⟩, ⟨6, 1, (gC (.int .i64 (.ofNat 405)))⟩, ⟨7, 1, (gC (.int .i64 (.ofNat 409)))⟩, ⟨8, 1, (gC (.int .i64 (.ofNat 413)))⟩, ⟨9, 1, (gC (.int .i64 (.ofNat 422)))⟩, ⟨10, 1, (gC (.int .i64 (.ofNat 429)))⟩, ⟨11, 1, (gC (.int .i64 (.ofNat 500)))⟩, ⟨12, 1, (gC (.int .i64 (.ofNat 503)))⟩, ⟨13, 1, (gC (.int .i64 (.ofNat 507)))⟩]) s6 <| opC (xMv g6) s3 <| fEnd) (cSeq (opC (xBuildSl [(.str []), (.str []), (.str []), (.str []), (.str []), (.str []), (.str []), (.str []), (.str []), (.str []), (.str []), (.str []), (.str []), (.str [])] 14 [⟨0, 1, (gC (.str [79, 75]))⟩, ⟨1, 1, (gC (.str [67, 114, 101, 97, 116, 101, 100]))⟩, ⟨2, 1, (gC (.str [78, 111, 32, 67, 111, 110, 116, 101, 110, 116]))⟩, ⟨3, 1, (gC (.str [66, 97, 100, 32, 82, 101, 113, 117, 101, 115, 116]))⟩, ⟨4, 1, (gC (.str [85, 110, 97, 117, 116, 104, 111, 114, 105, 122, 101, 100]))⟩, ⟨5, 1, (gC (.str [78, 111, 116, 32, 70, 111, 117, 110, 100]))⟩, ⟨6, 1, (gC (.str [77, 101, 116, 104, 111, 100, 32, 78, 111, 116, 32, 65, 108, 108, 111, 119, 101, 100]))⟩, ⟨7, 1, (gC (.str [67, 111, 110, 102, 108, 105, 99, 116]))⟩, ⟨8, 1, (gC (.str [67, 111, 110, 116, 101, 110, 116, 32, 84, 111, 111, 32, 76, 97, 114, 103, 101]))⟩, ⟨9, 1, (gC (.str [85, 110, 112, 114, 111, 99, 101, 115, 115, 97, 98, 108, 101, 32, 67, 111, 110, 116, 101, 110, 116]))⟩, ⟨10, 1, (gC (.str [84, 111, 111, 32, 77, 97, 110, 121, 32, 82, 101, 113, 117, 101, 115, 116, 115]))⟩, ⟨11, 1, (gC (.str [73, 110, 116, 101, 114, 110, 97, 108, 32, 83, 101, 114, 118, 101, 114, 32, 69, 114, 114, 111, 114]))⟩, ⟨12, 1, (gC (.str [83, 101, 114, 118, 105, 99, 101, 32, 85, 110, 97, 118, 97, 105, 108, 97, 98, 108, 101]))⟩, ⟨13, 1, (gC (.str [73, 110, 115, 117, 102, 102, 105, 99, 105, 101, 110, 116, 32, 83, 116, 111, 114, 97, 103, 101]))⟩]) s7 <| opC (xMv g7) s4 <| fEnd) (cSeq (cSeq (opC (xMv (gC (.int .i64 (.ofNat 0)))) s5 <| fEnd) (cBlk (cLoop (cSeq (cSeq (opC (xV1 (fLen false) g3) s10 <| opC (xV2 fLss g5 g10) s11 <| fEnd) (cIf g11 fEnd (cExit 0))) (cSeq (cBlk (cSeq (opC (xV2 (fIdxA 1) g3 g5) s16 <| opC (xLd g16) s17 <| opC (xV2 fEql g17 g0) s19 <| fEnd) (cIf g19 (cSeq (opC (xV2 (fIdxA 1) g4 g5) s22 <| opC (xLd g22) s23 <| opC (xMv g23) s2 <| fEnd) (cExit 2)) fEnd))) (opC (xV2 fAdd g5 (gC (.int .i64 (.ofNat 1)))) s13 <| opC (xMv g13) s5 <| fEnd)))))) (cSeq (opC (xMv (gC (.str []))) s2 <| fEnd) (cExit 0)))))) [xMv g2]
-- lightwell/lightwelllow.SameBytes
def F9 : Go.Abs.F.Fn := mkFn [s0, s1, s2, s3, s4, s5, s6, s7, s8, s9] (cSeq (opC (xMv (gC (.bool false))) s4 <| fEnd) (cSeq (opC (xBS g0) s6 <| opC (xBS g1) s8 <| opC (xV2 fEql g6 g8) s9 <| opC (xMv g9) s4 <| fEnd) (cExit 0))) [xMv g4]
-- lightwell/lightwelllaw28.wrong
def F10 : Go.Abs.F.Fn := mkFn [s0, s1, s2, s3, s4, s5, s6, s7, s8, s9, s10, s11] (cSeq (opC (xMv (gC (.bool false))) s4 <| fEnd) (cSeq (opC (xCall 13 [g0, g1]) s12 <| opC (xCall 11 [(gC (.int .i64 (.ofNat 200))), g12, (gC (.slice none 0 (.known 0)))]) s13 <| opC (xV1 (fExt 0) g13) s14 <| opC (xV1 (fExt 1) g13) s15 <| opC (xMv g14) s5 <| opC (xMv g15) s6 <| fEnd) (cSeq (opC (xCall 13 [g0, g1]) s19 <| opC (xCall 12 [g19]) s20 <| opC (xV1 (fExt 0) g20) s21 <| opC (xV1 (fExt 1) g20) s22 <| opC (xMv g21) s7 <| opC (xMv g22) s8 <| fEnd) (cSeq (opC (xV1 (fLen false) g5) s24 <| opC (xV1 (fLen false) g7) s26 <| opC (xV2 fAdd g24 g26) s27 <| opC (xV2 fEql g27 (gC (.int .i64 (.ofNat 0)))) s28 <| opC (xGt g28 (xV2 fEql g6 (gC (.int .i64 (.ofNat 21))))) s31 <| opC (xPick g28 g31 (gC (.bool false))) s32 <| opC (xGt g32 (xV2 fEql g8 (gC (.int .i64 (.ofNat 21))))) s35 <| opC (xPick g32 g35 (gC (.bool false))) s36 <| opC (xMv g36) s4 <| fEnd) (cExit 0))))) [xMv g4]
-- lightwell/lightwelllaw28.one
def F13 : Go.Abs.F.Fn := mkFn [s0, s1, s2, s3, s4, s5, s6, s7, s8] (cSeq (opC (xMv (gC (.slice none 0 (.known 0)))) s4 <| fEnd) (cSeq (opC (xBuild [(.str []), (.str [])] [⟨0, 1, g0⟩, ⟨1, 1, g1⟩]) s7 <| opC (xBuildSl [(.str []), (.str [])] 1 [⟨0, 2, g7⟩]) s8 <| opC (xMv g8) s4 <| fEnd) (cExit 0))) [xMv g4]
-- lightwell/reply.Whole
def F11 : Go.Abs.F.Fn := mkFn [s0, s1, s2, s3, s4, s5, s6, s7, s8, s9, s10, s11] (cSeq (opC (xMv (gC (.slice none 0 (.known 0)))) s6 <| opC (xMv (gC (.int .i64 (.ofNat 0)))) s7 <| fEnd) (cSeq (opC (xCall 21 [g0, g1]) s13 <| opC (xV1 (fExt 0) g13) s14 <| opC (xV1 (fExt 1) g13) s15 <| opC (xMv g14) s8 <| opC (xMv g15) s9 <| fEnd) (cSeq (cSeq (opC (xV2 fNeq g9 (gC (.int .i64 (.ofNat 0)))) s17 <| fEnd) (cIf g17 (cSeq (opC (xMv (gC (.slice none 0 (.known 0)))) s6 <| opC (xMv g9) s7 <| fEnd) (cExit 0)) fEnd)) (cSeq (opC (xV1 (fLen false) g2) s21 <| opC (xCall 24 [g21]) s22 <| opC (xV2 fAdd (gC (.str [67, 111, 110, 116, 101, 110, 116, 45, 76, 101, 110, 103, 116, 104, 58, 32])) g22) s23 <| opC (xBuildSl [(.str []), (.str [])] 2 [⟨0, 1, g23⟩, ⟨1, 1, (gC (.str []))⟩]) s24 <| opC (xCall 22 [g8, g24]) s25 <| opC (xMv g25) s8 <| fEnd) (cSeq (opC (xApp 1 1 g8 g2) s28 <| opC (xMv g28) s6 <| opC (xMv (gC (.int .i64 (.ofNat 0)))) s7 <| fEnd) (cExit 0)))))) [xMv g6, xMv g7]
-- lightwell/reply.End
def F12 : Go.Abs.F.Fn := mkFn [s0, s1, s2, s3, s4, s5, s6, s7, s8, s9, s10, s11] (cSeq (opC (xMv (gC (.slice none 0 (.known 0)))) s2 <| opC (xMv (gC (.int .i64 (.ofNat 0)))) s3 <| fEnd) (cSeq (cSeq (opC (xCall 25 [g0]) s6 <| opC (xMv g6) s4 <| fEnd) (cSeq (opC (xV2 fNeq g4 (gC (.int .i64 (.ofNat 0)))) s8 <| fEnd) (cIf g8 (cSeq (opC (xMv (gC (.slice none 0 (.known 0)))) s2 <| opC (xMv g4) s3 <| fEnd) (cExit 0)) fEnd))) (cSeq (opC (xBuildSl [(.str [])] 1 [⟨0, 1, (gC (.str [48]))⟩]) s10 <| opC (xCall 22 [(gC (.slice none 0 (.known 0))), g10]) s11 <| opC (xCall 26 [g11, g0]) s13 <| opC (xBuildSl [(.str [])] 1 [⟨0, 1, (gC (.str []))⟩]) s14 <| opC (xCall 22 [g13, g14]) s15 <| opC (xMv g15) s2 <| opC (xMv (gC (.int .i64 (.ofNat 0)))) s3 <| fEnd) (cExit 0)))) [xMv g2, xMv g3]
-- lightwell/lightwelllaw28.is
def F14 : Go.Abs.F.Fn := mkFn [s0, s1, s2, s3, s4, s5, s6, s7, s8, s9, s10, s11] (cSeq (opC (xMv (gC (.bool false))) s6 <| fEnd) (cSeq (opC (xV2 fEql g1 (gC (.int .i64 (.ofNat 0)))) s8 <| opC (xGt g8 (xBS g0)) s11 <| opC (xGt g8 (xV2 fEql g11 g2)) s13 <| opC (xPick g8 g13 (gC (.bool false))) s14 <| opC (xMv g14) s6 <| fEnd) (cExit 0))) [xMv g6]
-- lightwell/reply.Chunk
def F15 : Go.Abs.F.Fn := mkFn [s0, s1, s2, s3, s4, s5, s6, s7, s8, s9, s10, s11] (cSeq (opC (xMv (gC (.slice none 0 (.known 0)))) s2 <| fEnd) (cSeq (cSeq (opC (xV1 (fLen false) g0) s5 <| opC (xV2 fEql g5 (gC (.int .i64 (.ofNat 0)))) s6 <| fEnd) (cIf g6 (cSeq (opC (xMv (gC (.slice none 0 (.known 0)))) s2 <| fEnd) (cExit 0)) fEnd)) (cSeq (opC (xV1 (fLen false) g0) s8 <| opC (xCall 27 [g8, (gC (.int .i64 (.ofNat 16)))]) s9 <| opC (xBuildSl [(.str [])] 1 [⟨0, 1, g9⟩]) s10 <| opC (xCall 22 [(gC (.slice none 0 (.known 0))), g10]) s11 <| opC (xMv g11) s3 <| fEnd) (cSeq (opC (xApp 1 1 g3 g0) s14 <| opC (xMv g14) s3 <| fEnd) (cSeq (opC (xBuildSl [(.str [])] 1 [⟨0, 1, (gC (.str []))⟩]) s16 <| opC (xCall 22 [g3, g16]) s17 <| opC (xMv g17) s2 <| fEnd) (cExit 0)))))) [xMv g2]
-- strconv.FormatInt
def F27 : Go.Abs.F.Fn := mkFn [s0, s1, s2, s3, s4, s5, s6, s7] (cSeq (opC (xMv (gC (.str []))) s4 <| fEnd) (cSeq (opC (xCall 33 [g0, g1]) s7 <| opC (xMv g7) s4 <| fEnd) (cExit 0))) [xMv g4]
-- lightwell/lightwelllaw28.awake
def F16 : Go.Abs.F.Fn := mkFn [s0, s1, s2, s3, s4, s5, s6, s7, s8, s9, s10, s11] (cSeq (opC (xMv (gC (.bool false))) s0 <| fEnd) (cSeq (opC (xCall 13 [(gC (.str [88, 45, 83, 101, 113])), (gC (.str [49]))]) s8 <| opC (xBuildSl [(.int .u8 (.ofNat 0)), (.int .u8 (.ofNat 0))] 2 [⟨0, 1, (gC (.int .u8 (.ofNat 104)))⟩, ⟨1, 1, (gC (.int .u8 (.ofNat 105)))⟩]) s9 <| opC (xHf .mark [g9]) s10 <| opC (xCall 11 [(gC (.int .i64 (.ofNat 200))), g8, g10]) s11 <| opC (xV1 (fExt 0) g11) s12 <| opC (xV1 (fExt 1) g11) s13 <| opC (xMv g12) s1 <| opC (xMv g13) s2 <| fEnd) (cSeq (opC (xCall 13 [(gC (.str [88])), (gC (.str [121]))]) s15 <| opC (xCall 12 [g15]) s16 <| opC (xV1 (fExt 0) g16) s17 <| opC (xV1 (fExt 1) g16) s18 <| opC (xMv g17) s3 <| opC (xMv g18) s4 <| fEnd) (cSeq (opC (xCall 11 [(gC (.int .i64 (.ofNat 99))), (gC (.slice none 0 (.known 0))), (gC (.slice none 0 (.known 0)))]) s20 <| opC (xV1 (fExt 0) g20) s21 <| opC (xV1 (fExt 1) g20) s22 <| opC (xMv g22) s6 <| fEnd) (cSeq (opC (xCall 14 [g1, g2, (gC (.str [72, 84, 84, 80, 47, 49, 46, 49, 32, 50, 48, 48, 32, 79, 75, 13, 10, 88, 45, 83, 101, 113, 58, 32, 49, 13, 10, 67, 111, 110, 116, 101, 110, 116, 45, 76, 101, 110, 103, 116, 104, 58, 32, 50, 13, 10, 13, 10, 104, 105]))]) s25 <| opC (xGt g25 (xBuildSl [(.int .u8 (.ofNat 0)), (.int .u8 (.ofNat 0)), (.int .u8 (.ofNat 0)), (.int .u8 (.ofNat 0)), (.int .u8 (.ofNat 0)), (.int .u8 (.ofNat 0)), (.int .u8 (.ofNat 0)), (.int .u8 (.ofNat 0)), (.int .u8 (.ofNat 0)), (.int .u8 (.ofNat 0)), (.int .u8 (.ofNat 0)), (.int .u8 (.ofNat 0)), (.int .u8 (.ofNat 0)), (.int .u8 (.ofNat 0)), (.int .u8 (.ofNat 0)), (.int .u8 (.ofNat 0))] 16 [⟨0, 1, (gC (.int .u8 (.ofNat 48)))⟩, ⟨1, 1, (gC (.int .u8 (.ofNat 49)))⟩, ⟨2, 1, (gC (.int .u8 (.ofNat 50)))⟩, ⟨3, 1, (gC (.int .u8 (.ofNat 51)))⟩, ⟨4, 1, (gC (.int .u8 (.ofNat 52)))⟩, ⟨5, 1, (gC (.int .u8 (.ofNat 53)))⟩, ⟨6, 1, (gC (.int .u8 (.ofNat 54)))⟩, ⟨7, 1, (gC (.int .u8 (.ofNat 55)))⟩, ⟨8, 1, (gC (.int .u8 (.ofNat 56)))⟩, ⟨9, 1, (gC (.int .u8 (.ofNat 57)))⟩, ⟨10, 1, (gC (.int .u8 (.ofNat 97)))⟩, ⟨11, 1, (gC (.int .u8 (.ofNat 98)))⟩, ⟨12, 1, (gC (.int .u8 (.ofNat 99)))⟩, ⟨13, 1, (gC (.int .u8 (.ofNat 100)))⟩, ⟨14, 1, (gC (.int .u8 (.ofNat 101)))⟩, ⟨15, 1, (gC (.int .u8 (.ofNat 102)))⟩])) s27 <| opC (xGt g25 (xHf .mark [g27])) s28 <| opC (xGt g25 (xCall 15 [g28])) s29 <| opC (xGt g25 (xBS g29)) s30 <| opC (xGt g25 (xV2 fEql g30 (gC (.str [49, 48, 13, 10, 48, 49, 50, 51, 52, 53, 54, 55, 56, 57, 97, 98, 99, 100, 101, 102, 13, 10])))) s31 <| opC (xPick g25 g31 (gC (.bool false))) s32 <| opC (xGt g32 (xCall 14 [g3, g4, (gC (.str [48, 13, 10, 88, 58, 32, 121, 13, 10, 13, 10]))])) s36 <| opC (xPick g32 g36 (gC (.bool false))) s37 <| opC (xGt g37 (xV2 fEql g6 (gC (.int .i64 (.ofNat 2))))) s40 <| opC (xPick g37 g40 (gC (.bool false))) s41 <| opC (xGt g41 (xCall 10 [(gC (.str [97, 32, 98])), (gC (.str [99]))])) s43 <| opC (xPick g41 g43 (gC (.bool false))) s44 <| opC (xMv g44) s0 <| fEnd) (cExit 0)))))) [xMv g0]
theorem k3 : cF Go.Proofs.Tryd.prog 45223527168077678002421288516438969111552 3 = some F3 := by kernel_rfl
theorem k5 : cF Go.Proofs.Tryd.prog 214784 5 = some F5 := by kernel_rfl
theorem k21 : cF Go.Proofs.Tryd.prog 814566656 21 = some F21 := by kernel_rfl
theorem k25 : cF Go.Proofs.Tryd.prog 262176 25 = some F25 := by kernel_rfl
theorem k31 : cF Go.Proofs.Tryd.prog 108752 31 = some F31 := by kernel_rfl
theorem k35 : cF Go.Proofs.Tryd.prog 15424 35 = some F35 := by kernel_rfl
theorem k36 : cF Go.Proofs.Tryd.prog 422857936 36 = some F36 := by kernel_rfl
theorem k46 : cF Go.Proofs.Tryd.prog 96 46 = some F46 := by kernel_rfl
theorem k62 : cF Go.Proofs.Tryd.prog 96 62 = some F62 := by kernel_rfl
theorem k32 : cF Go.Proofs.Tryd.prog 57768 32 = some F32 := by kernel_rfl
theorem k38 : cF Go.Proofs.Tryd.prog 616 38 = some F38 := by kernel_rfl
theorem k39 : cF Go.Proofs.Tryd.prog 104 39 = some F39 := by kernel_rfl
theorem k24 : cF Go.Proofs.Tryd.prog 8 24 = some F24 := by kernel_rfl
theorem k30 : cF Go.Proofs.Tryd.prog 8 30 = some F30 := by kernel_rfl
theorem k33 : cF Go.Proofs.Tryd.prog 9483367604344064 33 = some F33 := by kernel_rfl
theorem k40 : cF Go.Proofs.Tryd.prog 2664 40 = some F40 := by kernel_rfl
theorem k41 : cF Go.Proofs.Tryd.prog 912 41 = some F41 := by kernel_rfl
theorem k54 : cF Go.Proofs.Tryd.prog 1747624 54 = some F54 := by kernel_rfl
theorem k53 : cF Go.Proofs.Tryd.prog 8 53 = some F53 := by kernel_rfl
theorem k55 : cF Go.Proofs.Tryd.prog 0 55 = some F55 := by kernel_rfl
theorem k42 : cF Go.Proofs.Tryd.prog 19391804379487474209699470182581994721460297007104 42 = some F42 := by kernel_rfl
theorem k43 : cF Go.Proofs.Tryd.prog 758988099329957886502875168768 43 = some F43 := by kernel_rfl
theorem k56 : cF Go.Proofs.Tryd.prog 24 56 = some F56 := by kernel_rfl
theorem k57 : cF Go.Proofs.Tryd.prog 72 57 = some F57 := by kernel_rfl
theorem k70 : cF Go.Proofs.Tryd.prog 104 70 = some F70 := by kernel_rfl
theorem k71 : cF Go.Proofs.Tryd.prog 104 71 = some F71 := by kernel_rfl
theorem k7 : cF Go.Proofs.Tryd.prog 0 7 = some F7 := by kernel_rfl
theorem k22 : cF Go.Proofs.Tryd.prog 614400 22 = some F22 := by kernel_rfl
theorem k26 : cF Go.Proofs.Tryd.prog 8396800 26 = some F26 := by kernel_rfl
theorem k6 : cF Go.Proofs.Tryd.prog 214784 6 = some F6 := by kernel_rfl
theorem k23 : cF Go.Proofs.Tryd.prog 680054016 23 = some F23 := by kernel_rfl
theorem k29 : cF Go.Proofs.Tryd.prog 70344877632 29 = some F29 := by kernel_rfl
theorem k34 : cF Go.Proofs.Tryd.prog 3589437318005760 34 = some F34 := by kernel_rfl
theorem k44 : cF Go.Proofs.Tryd.prog 277088 44 = some F44 := by kernel_rfl
theorem k58 : cF Go.Proofs.Tryd.prog 2664 58 = some F58 := by kernel_rfl
theorem k45 : cF Go.Proofs.Tryd.prog 163648140096 45 = some F45 := by kernel_rfl
theorem k59 : cF Go.Proofs.Tryd.prog 439488 59 = some F59 := by kernel_rfl
theorem k60 : cF Go.Proofs.Tryd.prog 11609211325389132544 60 = some F60 := by kernel_rfl
theorem k72 : cF Go.Proofs.Tryd.prog 104 72 = some F72 := by kernel_rfl
theorem k73 : cF Go.Proofs.Tryd.prog 50336160 73 = some F73 := by kernel_rfl
theorem k61 : cF Go.Proofs.Tryd.prog 4811988994248 61 = some F61 := by kernel_rfl
theorem k28 : cF Go.Proofs.Tryd.prog 5483710144 28 = some F28 := by kernel_rfl
theorem k8 : cF Go.Proofs.Tryd.prog 3461888 8 = some F8 := by kernel_rfl
theorem k9 : cF Go.Proofs.Tryd.prog 160 9 = some F9 := by kernel_rfl
theorem k10 : cF Go.Proofs.Tryd.prog 27422821888 10 = some F10 := by kernel_rfl
theorem k13 : cF Go.Proofs.Tryd.prog 96 13 = some F13 := by kernel_rfl
theorem k11 : cF Go.Proofs.Tryd.prog 203234304 11 = some F11 := by kernel_rfl
theorem k12 : cF Go.Proofs.Tryd.prog 4768 12 = some F12 := by kernel_rfl
theorem k14 : cF Go.Proofs.Tryd.prog 5760 14 = some F14 := by kernel_rfl
theorem k15 : cF Go.Proofs.Tryd.prog 45200 15 = some F15 := by kernel_rfl
theorem k27 : cF Go.Proofs.Tryd.prog 96 27 = some F27 := by kernel_rfl
theorem k16 : cF Go.Proofs.Tryd.prog 5282902589600 16 = some F16 := by kernel_rfl
def t0_0 : Option Go.Abs.F.Fn := none
def t0_1 : N8 (Option Go.Abs.F.Fn) := .mk t0_0 t0_0 t0_0 t0_0 t0_0 t0_0 t0_0 t0_0
def t0_2 : N8 (N8 (Option Go.Abs.F.Fn)) := .mk t0_1 t0_1 t0_1 t0_1 t0_1 t0_1 t0_1 t0_1
def t0_3 : N8 (N8 (N8 (Option Go.Abs.F.Fn))) := .mk t0_2 t0_2 t0_2 t0_2 t0_2 t0_2 t0_2 t0_2
def t0_4 : N8 (N8 (N8 (N8 (Option Go.Abs.F.Fn)))) := .mk t0_3 t0_3 t0_3 t0_3 t0_3 t0_3 t0_3 t0_3
def tabT : N8 (N8 (N8 (N8 (Option Go.Abs.F.Fn)))) := (.mk (.mk (.mk (.mk t0_0 t0_0 t0_0 (some F3) t0_0 (some F5) (some F6) (some F7)) (.mk (some F8) (some F9) (some F10) (some F11) (some F12) (some F13) (some F14) (some F15)) (.mk (some F16) t0_0 t0_0 t0_0 t0_0 (some F21) (some F22) (some F23)) (.mk (some F24) (some F25) (some F26) (some F27) (some F28) (some F29) (some F30) (some F31)) (.mk (some F32) (some F33) (some F34) (some F35) (some F36) (some fLower) (some F38) (some F39)) (.mk (some F40) (some F41) (some F42) (some F43) (some F44) (some F45) (some F46) t0_0) (.mk t0_0 t0_0 t0_0 t0_0 t0_0 (some F53) (some F54) (some F55)) (.mk (some F56) (some F57) (some F58) (some F59) (some F60) (some F61) (some F62) t0_0)) (.mk (.mk t0_0 t0_0 t0_0 t0_0 t0_0 t0_0 (some F70) (some F71)) (.mk (some F72) (some F73) t0_0 t0_0 t0_0 t0_0 t0_0 t0_0) t0_1 t0_1 t0_1 t0_1 t0_1 t0_1) t0_2 t0_2 t0_2 t0_2 t0_2 t0_2) t0_3 t0_3 t0_3 t0_3 t0_3 t0_3 t0_3)
def tab : Tab := tabT
theorem tab_ok : TabF Go.Proofs.Tryd.prog Go.Proofs.RNat.nat tab := tabF_of (l := [(3, F3), (5, F5), (21, F21), (25, F25), (31, F31), (35, F35), (36, F36), (46, F46), (62, F62), (32, F32), (38, F38), (39, F39), (24, F24), (30, F30), (33, F33), (40, F40), (41, F41), (54, F54), (53, F53), (55, F55), (42, F42), (43, F43), (56, F56), (57, F57), (70, F70), (71, F71), (7, F7), (22, F22), (26, F26), (6, F6), (23, F23), (29, F29), (34, F34), (44, F44), (58, F58), (45, F45), (59, F59), (60, F60), (72, F72), (73, F73), (61, F61), (28, F28), (8, F8), (9, F9), (10, F10), (13, F13), (11, F11), (12, F12), (14, F14), (15, F15), (27, F27), (16, F16), (37, fLower)]) (tabF_cons (tabF_cons (tabF_cons (tabF_cons (tabF_cons (tabF_cons (tabF_cons (tabF_cons (tabF_cons (tabF_cons (tabF_cons (tabF_cons (tabF_cons (tabF_cons (tabF_cons (tabF_cons (tabF_cons (tabF_cons (tabF_cons (tabF_cons (tabF_cons (tabF_cons (tabF_cons (tabF_cons (tabF_cons (tabF_cons (tabF_cons (tabF_cons (tabF_cons (tabF_cons (tabF_cons (tabF_cons (tabF_cons (tabF_cons (tabF_cons (tabF_cons (tabF_cons (tabF_cons (tabF_cons (tabF_cons (tabF_cons (tabF_cons (tabF_cons (tabF_cons (tabF_cons (tabF_cons (tabF_cons (tabF_cons (tabF_cons (tabF_cons (tabF_cons (tabF_cons (tabF_consN (tabF_nil) rfl Go.Proofs.RNat.nat_F) rfl rfl k16) rfl rfl k27) rfl rfl k15) rfl rfl k14) rfl rfl k12) rfl rfl k11) rfl rfl k13) rfl rfl k10) rfl rfl k9) rfl rfl k8) rfl rfl k28) rfl rfl k61) rfl rfl k73) rfl rfl k72) rfl rfl k60) rfl rfl k59) rfl rfl k45) rfl rfl k58) rfl rfl k44) rfl rfl k34) rfl rfl k29) rfl rfl k23) rfl rfl k6) rfl rfl k26) rfl rfl k22) rfl rfl k7) rfl rfl k71) rfl rfl k70) rfl rfl k57) rfl rfl k56) rfl rfl k43) rfl rfl k42) rfl rfl k55) rfl rfl k53) rfl rfl k54) rfl rfl k41) rfl rfl k40) rfl rfl k33) rfl rfl k30) rfl rfl k24) rfl rfl k39) rfl rfl k38) rfl rfl k32) rfl rfl k62) rfl rfl k46) rfl rfl k36) rfl rfl k35) rfl rfl k31) rfl rfl k25) rfl rfl k21) rfl rfl k5) rfl rfl k3) (by kernel_rfl)
end
end Go.Abs.TReplyNumbers
/- A heap to begin with that holds some package-level variables: what closed runs start from. Plain Lean. -/
namespace Go.Abs
section
variable {P : Program}
def gTr : List (Nat × List AVal) → Tr AObj
  | [] => .e
  | (g, xs) :: r => (gTr r).set g (.cells xs 0 true)
/-- n: more than all their numbers -/
def gHeap (n : Nat) (l : List (Nat × List AVal)) : AHeap := ⟨n, gTr l⟩
/-- the world holds them -/
structure GHolds (W : World) (n : Nat) (l : List (Nat × List AVal)) : Prop where
  size : n ≤ W.heap.size
  rows : ∀ p ∈ l, p.1 < n ∧ ∃ C e fz, W.heap[p.1]? = some (.cells C e fz) ∧ ∀ ρ, VRels ρ p.2 C.toList
theorem gTr_get : ∀ (l : List (Nat × List AVal)) (b : Nat) (o : AObj), (gTr l).get b = some o → ∃ xs, (b, xs) ∈ l ∧ o = .cells xs 0 true
  | [], b, o, h => by cases b <;> simp [gTr, Tr.get] at h
  | (g, xs) :: r, b, o, h => by
    simp only [gTr, Tr.get_set] at h
    split at h
    · rename_i e
      simp only [Option.some.injEq] at h
      exact ⟨xs, by rw [e]; simp, h.symm⟩
    · obtain ⟨ys, h1, h2⟩ := gTr_get r b o h
      exact ⟨ys, by simp [h1], h2⟩
def gPl (H : AHeap) : Pl := fun b l => match H.get b with
  | some (.cells xs _ true) => if l = xs.length then some ⟨b, 0, xs.length, false⟩ else none
  | _ => none
theorem gPl_inv {H : AHeap} {b l : Nat} {L : Loc} (h : gPl H b l = some L) : ∃ xs low, H.get b = some (.cells xs low true) ∧ l = xs.length ∧ L = ⟨b, 0, xs.length, false⟩ := by
  unfold gPl at h
  split at h
  · rename_i xs low hg
    split at h
    · rename_i e
      simp only [Option.some.injEq] at h
      exact ⟨xs, low, hg, e, h.symm⟩
    · simp at h
  · simp at h
theorem rel_gstart {W : World} {n : Nat} {l : List (Nat × List AVal)} (hG : GHolds W n l) : Rel ⟨fun c => c < W.heap.size, fun _ => False⟩ W (gPl (gHeap n l)) (gHeap n l) W := by
  have hget : ∀ b o, (gHeap n l).get b = some o → ∃ xs, (b, xs) ∈ l ∧ o = .cells xs 0 true := fun b o h => gTr_get l b o h
  have hrow : ∀ b xs low ro, (gHeap n l).get b = some (.cells xs low ro) → low = 0 ∧ ro = true ∧ b < n ∧ ∃ C e fz, W.heap[b]? = some (.cells C e fz) ∧ ∀ ρ, VRels ρ xs C.toList := by
    intro b xs low ro h
    obtain ⟨ys, h1, h2⟩ := hget b _ h
    simp only [AObj.cells.injEq] at h2
    obtain ⟨rfl, rfl, rfl⟩ := h2
    obtain ⟨h3, h4⟩ := hG.rows _ h1
    exact ⟨rfl, rfl, h3, h4⟩
  have hrw : ∀ b x, (gHeap n l).get b = some x → x.rw = false := by
    intro b x h
    obtain ⟨ys, _, rfl⟩ := hget b x h
    rfl
  refine ⟨rfl, rfl, rfl, Nat.le_refl _, fun _ hc => ⟨hc, rfl⟩, fun b l' L h => ?_, fun b l' L h => ?_, fun b l' L x _ hx hr => ?_, fun b l' L b' l'' L' x _ _ _ hx hr => ?_, fun _ h => h.elim, fun b l' low h => ?_⟩
  · obtain ⟨xs, low, h1, rfl, rfl⟩ := gPl_inv h
    obtain ⟨_, _, h2, _⟩ := hrow _ _ _ _ h1
    exact ⟨h2, Nat.lt_of_lt_of_le h2 hG.size⟩
  · obtain ⟨xs, low, h1, rfl, rfl⟩ := gPl_inv h
    obtain ⟨rfl, _, _, C, e, ⟨lo, hi⟩, h3, h4⟩ := hrow _ _ _ _ h1
    have hl := (h4 (gPl (gHeap n l))).len
    simp only [Array.length_toList] at hl
    refine ⟨_, _, h1, h3, ?_⟩
    simp only [ORel]
    refine ⟨C, e, lo, hi, rfl, hl.symm, fun h => by simp at h, Nat.le_refl _, fun _ i _ hi => ?_⟩
    have hx : xs[i]? = some (xs[i]'hi) := List.getElem?_eq_getElem hi
    obtain ⟨v, q1, q2⟩ := (h4 (gPl (gHeap n l))).nth _ _ hx
    rw [Array.getElem?_toList] at q1
    exact ⟨_, v, hx, by simpa using q1, q2⟩
  · rw [hrw _ _ hx] at hr; simp at hr
  · rw [hrw _ _ hx] at hr; simp at hr
  · obtain ⟨rfl, _, _, _⟩ := hrow _ _ _ _ h
    refine ⟨⟨b, 0, l'.length, false⟩, ?_, rfl, rfl⟩
    unfold gPl
    rw [h]
    simp
/-- a call that needs some package-level variables and tells a bool -/
theorem gclosed_bool (hfol : P.follows .mixedOrders = true) {N : ANat} (hN : NatOK P N) {tab : Tr AFn} (hT : TabOK P tab) {n m : Nat} {l : List (Nat × List AVal)} {f : FuncId} {args : List AVal} {vs : Array Value} (hv : ∀ ρ, VRels ρ args vs.toList) {b : Bool}
    (h : (match acall N tab n f args (gHeap m l) with | some (.bool b', _) => b' == b | _ => false) = true) {W : World} (hG : GHolds W m l) :
    Calls P f vs W fun e w' => e = .returned (.bool b) ∧ RowKit.Below W.heap.size W w' := by
  split at h
  · rename_i b' H' hr
    refine (acall_ok hfol hN hT n _ _ _ _ _ hr _ W _ W vs (rel_gstart hG) (hv _)).mono fun e w' hx => ?_
    obtain ⟨ρ', u, _, rfl, R, hu⟩ := hx
    simp only [VRel] at hu
    subst hu
    have : b' = b := by simpa using h
    exact ⟨by rw [this], R.below⟩
  · simp at h
end
end Go.Abs
namespace Go.Abs.F
open Go.Abs
noncomputable section
theorem hr_empty (n : Nat) (hn : n ≤ 32768) : HRel ⟨n, e5⟩ (gHeap n []) := ⟨rfl, hn, fun b hb => by
  rw [fget_lt hb]
  have : (FHeap.mk n e5).tr = emp none 5 := rfl
  rw [this, emp_get]
  cases b <;> rfl⟩
/-- one variable laid -/
def gOne (g : Nat) (xs : List AVal) (h : FHeap) (k : FHeap → R) : R := len1 xs (nat_lit 0) fun n => csFit n (nat_lit 8) cs0 fun t => stL xs t (nat_lit 0) fun t n => hS h g (.cells t n (nat_lit 0) true) k
def gStart : List (Nat × List AVal) → FHeap → (FHeap → R) → R := @List.rec (Nat × List AVal) (fun _ => FHeap → (FHeap → R) → R) (fun h k => k h) (fun p _ ih h k => ih h fun h => @Prod.rec Nat (List AVal) (fun _ => R) (fun g xs => gOne g xs h k) p)
theorem gOne_way {h : FHeap} {n : Nat} {l : List (Nat × List AVal)} (Q : HRel h (gHeap n l)) (g : Nat) (xs : List AVal) : (∀ k, gOne g xs h k = .no) ∨ ∃ h', (∀ k, gOne g xs h k = k h') ∧ HRel h' (gHeap n ((g, xs) :: l)) := by
  have hu : ∀ k, gOne g xs h k = csFit xs.length 8 cs0 fun t => stL xs t 0 fun t n => hS h g (.cells t n 0 true) k := fun k => len1_eq _ _ _
  rcases csFit_way xs.length 8 cs0 with q | ⟨t0, q, _⟩
  · exact .inl fun k => (hu k).trans (q _)
  · rcases stL_way xs t0 0 with s | ⟨t', s1, s2⟩
    · exact .inl fun k => (hu k).trans ((q _).trans (s _))
    · rw [Nat.zero_add] at s1
      rcases hS_way Q g (.cells t' xs.length 0 true) (A := .cells xs 0 true) (by simp only [FObj.abs, cellsOf_new s2]) with r | ⟨h', q1, q2⟩
      · exact .inl fun k => (hu k).trans ((q _).trans ((s1 _).trans (r _)))
      · exact .inr ⟨h', fun k => (hu k).trans ((q _).trans ((s1 _).trans (q1 _))), q2⟩
theorem gStart_way {h : FHeap} {n : Nat} (Q : HRel h (gHeap n [])) : ∀ l : List (Nat × List AVal), (∀ k, gStart l h k = .no) ∨ ∃ h', (∀ k, gStart l h k = k h') ∧ HRel h' (gHeap n l)
  | [] => .inr ⟨h, fun _ => rfl, Q⟩
  | (g, xs) :: r => by
    have hu : ∀ k, gStart ((g, xs) :: r) h k = gStart r h fun h => gOne g xs h k := fun k => rfl
    rcases gStart_way Q r with q | ⟨h1, q1, q2⟩
    · exact .inl fun k => (hu k).trans (q _)
    · rcases gOne_way q2 g xs with s | ⟨h2, s1, s2⟩
      · exact .inl fun k => (hu k).trans ((q1 _).trans (s _))
      · exact .inr ⟨h2, fun k => (hu k).trans ((q1 _).trans (s1 _)), s2⟩
/-- a call that needs some package-level variables and tells 'true' -/
theorem g_closed {P : Program} {N : ANat} (hfol : P.follows .mixedOrders = true) (hN : NatOK P N) {tab : Tab} (hT : TabF P N tab) {n m : Nat} {l : List (Nat × List AVal)} {f : FuncId} {args : List AVal} {vs : Array Value} (hv : ∀ ρ, VRels ρ args vs.toList) (hm : Nat.ble m 32768 = true)
    (h : gStart l ⟨m, e5⟩ (fun h0 => fcall tab n f args h0 yesT) = .yes) {W : World} (hG : GHolds W m l) : Calls P f vs W fun e w' => e = .returned (.bool true) ∧ RowKit.Below W.heap.size W w' := by
  obtain ⟨A, hA, hR⟩ := hT
  rcases gStart_way (hr_empty m (Nat.le_of_ble_eq_true hm)) l with q | ⟨h0, q0, Q⟩
  · rw [q] at h; simp at h
  · rw [q0] at h
    rcases fcall_ok hR n f args h0 _ Q with q | ⟨v, h', H', q1, q3, _, q4⟩
    · rw [q] at h; simp at h
    · rw [q4] at h
      refine gclosed_bool hfol hN hA (tab := A) (n := n) hv (b := true) ?_ hG
      rw [q3]
      cases v
      case bool c =>
        cases c with
        | true => rfl
        | false => exact absurd h (by simp [yesT, vBool, ifb])
      all_goals exact absurd h (by simp [yesT, vBool])
end
end Go.Abs.F
/- Symbolic runs of the abstract machine, part 1: what must hold ahead of a piece of code for it to end as asked. Plain Lean. -/
namespace Go.Abs.S
open Go.Abs

/-! ### temporaries as a function -/
abbrev Env := Nat → AVal
def en (T : Tr AVal) : Env := fun i => ev T (.t i)
def up (T : Env) (i : Nat) (v : AVal) : Env := fun j => bif Nat.beq j i then v else T j
def upO (T : Env) : Option Nat → AVal → Env
  | some d, v => up T d v
  | none, _ => T
theorem en_set (T : Tr AVal) (i : Nat) (v : AVal) : en (T.set i v) = up (en T) i v := by
  funext j
  simp only [en, up, ev, Tr.get_set, beq_dec]
  by_cases h : j = i
  · rw [if_pos h, decide_eq_true h]; rfl
  · rw [if_neg h, decide_eq_false h]; rfl
theorem en_put (T : Tr AVal) (d : Option Nat) (v : AVal) : en (aput T d v) = upO (en T) d v := by
  cases d <;> simp only [aput, upO, en_set]
def sX (T : Env) : Opd → AVal
  | .t i => T i
  | .c v => v
  | .f id => .func (.func id) [] []
def sXs (T : Env) : List Opd → List AVal
  | [] => []
  | x :: r => sX T x :: sXs T r
def sXO (T : Env) : Option Opd → Option AVal
  | none => none
  | some x => some (sX T x)
def sXP (T : Env) : List (Nat × Nat × Opd) → List (Nat × Nat × AVal)
  | [] => []
  | (o, n, x) :: r => (o, n, sX T x) :: sXP T r
theorem sX_en (T : Tr AVal) (x : Opd) : sX (en T) x = ev T x := by cases x <;> rfl
theorem sXs_en (T : Tr AVal) : ∀ l : List Opd, sXs (en T) l = evs T l
  | [] => rfl
  | x :: r => by simp only [sXs, evs, sX_en, sXs_en T r]
theorem sXO_en (T : Tr AVal) (x : Option Opd) : sXO (en T) x = evO T x := by cases x <;> simp only [sXO, evO, sX_en]
theorem sXP_en (T : Tr AVal) : ∀ l : List (Nat × Nat × Opd), sXP (en T) l = evP T l
  | [] => rfl
  | (o, n, x) :: r => by simp only [sXP, evP, sX_en, sXP_en T r]
def sGv (b : Bool) : AVal → Bool
  | .bool c => bif b then c else !c
  | _ => false
def sG (T : Env) : Option (Nat × Bool) → Bool
  | none => true
  | some (t, b) => sGv b (T t)
theorem sG_en (T : Tr AVal) (g : Option (Nat × Bool)) : sG (en T) g = gOK T g := by
  cases g with
  | none => rfl
  | some p =>
    obtain ⟨t, b⟩ := p
    simp only [sG, gOK, en, ev]
    cases T.get t with
    | none => rfl
    | some x => cases x <;> rfl

/-! ### what must hold ahead -/
def OptP {α : Type} (o : Option α) (K : α → Prop) : Prop := ∃ v, o = some v ∧ K v
theorem OptP_some {α : Type} (x : α) (K : α → Prop) : OptP (some x) K = K x := by simp [OptP]
theorem OptP.mono {α : Type} {o : Option α} {K K' : α → Prop} (h : OptP o K) (hk : ∀ v, K v → K' v) : OptP o K' := by
  obtain ⟨v, h1, h2⟩ := h; exact ⟨v, h1, hk v h2⟩
abbrev CS := FuncId → List AVal → AHeap → (AVal → AHeap → Prop) → Prop
section
variable (C : CS)
def wOp (T : Env) (H : AHeap) (K : AVal → AHeap → Prop) : AOp → Prop
  | .mv x => K (sX T x) H
  | .pick c a b => ∃ b', sX T c = .bool b' ∧ K (bif b' then sX T a else sX T b) H
  | .new z => K (oNew H z).1 (oNew H z).2
  | .box x => K (oNew H (sX T x).cells).1 (oNew H (sX T x).cells).2
  | .build z ps => OptP (aBuild z (sXP T ps)) fun v => K v H
  | .buildSl n z ps => OptP (aBuildSl n z H (sXP T ps)) fun p => K p.1 p.2
  | .load a n x => OptP (oLoad a n H (sX T x)) fun v => K v H
  | .store n a x => OptP (oStore n H (sX T a) (sX T x)) fun H' => K undefA H'
  | .nilChk x => OptP (aNilChk (sX T x)) fun v => K v H
  | .bin op x y => OptP (aBin op (sX T x) (sX T y)) fun v => K v H
  | .un op x => OptP (aUn op (sX T x)) fun v => K v H
  | .conv k x => OptP (aConv k (sX T x)) fun v => K v H
  | .convSB x => OptP (aSB H (sX T x)) fun p => K p.1 p.2
  | .convBS x => OptP (aBS H (sX T x)) fun v => K v H
  | .mkFunc fn a b => K (.func fn (sXs T a) (sXs T b)) H
  | .mkIface t x => K (.iface t (sX T x)) H
  | .mkSlice b z l c => OptP (aMake b z H (sX T l) (sX T c)) fun p => K p.1 p.2
  | .sl n x lo hi mx => OptP (aSl n (sX T x) (sXO T lo) (sXO T hi) (sXO T mx)) fun v => K v H
  | .slStr x lo hi => OptP (aSlStr (sX T x) (sXO T lo) (sXO T hi)) fun v => K v H
  | .fieldA o x => OptP (aField o (sX T x)) fun v => K v H
  | .field a n o x => OptP (aFieldV a n o (sX T x)) fun v => K v H
  | .idxA n x i => OptP (aIdxA n (sX T x) (sX T i)) fun v => K v H
  | .idxArr m n x i => OptP (aIdxArr m n (sX T x) (sX T i)) fun v => K v H
  | .idx m n a x i => OptP (aIdx m n a (sX T x) (sX T i)) fun v => K v H
  | .idxS x i => OptP (aIdxS (sX T x) (sX T i)) fun v => K v H
  | .extract i x => OptP (aExtract i (sX T x)) fun v => K v H
  | .append n b s x => OptP (aAppend n b H (sX T s) (sX T x)) fun p => K p.1 p.2
  | .len s x => OptP (aLenK s (sX T x)) fun v => K v H
  | .call f args => C f (sXs T args) H K
  | .callv f args => ∃ g a b, sX T f = .func (.func g) a b ∧ C g (a ++ sXs T args ++ b) H K
  | .pf f xs => OptP (aPf f (sXs T xs)) fun v => K v H
  | .hf f xs => OptP (aHf f H (sXs T xs)) fun p => K p.1 p.2
  | .bad => False
  | .claim b z s => OptP (aClaim H b z s) fun v => K v H
  | .slA m n x lo hi mx => OptP (aSlArr m n (sX T x) (sXO T lo) (sXO T hi) (sXO T mx)) fun v => K v H

def wRegs : List AOper → Env → AHeap → (Env → AHeap → Prop) → Prop
  | [], T, H, K => K T H
  | o :: r, T, H, K => bif sG T o.guard then wOp C T H (fun v H' => wRegs r (upO T o.dst v) H' K) o.op else wRegs r (upO T o.dst undefA) H K
/-- the run of a region in the text's order, with all that it told -/
def wTr : List AOper → Env → AHeap → (List (AVal × AHeap) → Env → AHeap → Prop) → Prop
  | [], T, H, K => K [] T H
  | o :: r, T, H, K => bif sG T o.guard then wOp C T H (fun v H' => wTr r (upO T o.dst v) H' fun ss => K ((v, H') :: ss)) o.op else wTr r (upO T o.dst undefA) H fun ss => K ((undefA, H) :: ss)
end
/-- what a load tells there -/
def wLd (T : Env) (H : AHeap) : AOp → Option AVal
  | .load a n x => oLoad a n H (sX T x)
  | .claim b z s => aClaim H b z s
  | _ => none
def wCk (hs : List AHeap) : List AOper → List (List Nat) → List (AVal × AHeap) → Env → Prop
  | o :: os, ps :: pss, (v, _) :: ss, T => (∀ p ∈ ps, ∃ Hp, hs[p]? = some Hp ∧ (sG T o.guard = true → ∃ u, wLd T Hp o.op = some u ∧ aeq u v = true)) ∧ wCk hs os pss ss (upO T o.dst v)
  | _, _, _, _ => True
def wDraw (C : CS) (l : List AOper) (chk : List (List Nat)) (T : Env) (H : AHeap) (K : Env → AHeap → Prop) : Prop := wTr C l T H fun ss T' H' => wCk (H :: ss.map (·.2)) l chk ss T ∧ K T' H'
abbrev Post := AEx → Env → AHeap → Prop
def inBlk (id : Nat) (Q : Post) : Post := fun e T H => match e with
  | .exit j => bif Nat.beq j id then Q .normal T H else Q (.exit j) T H
  | e => Q e T H
def inSeq (Q : Post) (K : Env → AHeap → Prop) : Post := fun e T H => match e with
  | .normal => K T H
  | e => Q e T H
def wp (C : CS) : ACode → Post → Env → AHeap → Prop
  | .skip, Q, T, H => Q .normal T H
  | .reg ops, Q, T, H => wRegs C ops T H (Q .normal)
  | .draw ops chk, Q, T, H => wDraw C (claims H.next ops) chk T (reserves H ops) (Q .normal)
  | .seq a b, Q, T, H => wp C a (inSeq Q (wp C b Q)) T H
  | .cond c a b, Q, T, H => ∃ v, sX T c = .bool v ∧ bif v then wp C a Q T H else wp C b Q T H
  | .block id c, Q, T, H => wp C c (inBlk id Q) T H
  | .loop c, Q, T, H => ∃ (I : Nat → Env → AHeap → Prop), (∃ m, I m T H) ∧ ∀ m T H, I m T H → wp C c (inSeq Q fun T' H' => ∃ m', m' < m ∧ I m' T' H') T H
  | .exit id, Q, T, H => Q (.exit id) T H
  | .ret, Q, T, H => Q .ret T H

/-! ### more fuel, the same run -/
section
variable {tb : FuncId → Bool}
def CLe (c d : FuncId → List AVal → AHeap → Option (AVal × AHeap)) : Prop := ∀ f a H r, c f a H = some r → d f a H = some r
theorem CLe.refl (c) : CLe c c := fun _ _ _ _ h => h
theorem astep_mono {c d} (h : CLe c d) {o : AOper} {T : Tr AVal} {H : AHeap} {r} (e : astep tb c o T H = some r) : astep tb d o T H = some r := by
  unfold astep at e ⊢
  cases hg : gOK T o.guard with
  | false => rw [hg] at e; exact e
  | true =>
    rw [hg] at e
    simp only [cond_true] at e ⊢
    split at e
    · exact e
    · exact h _ _ _ _ e
    · simp at e
theorem aregs_mono {c d} (h : CLe c d) : ∀ (l : List AOper) {T : Tr AVal} {H : AHeap} {r}, aregs tb c l T H = some r → aregs tb d l T H = some r
  | [], _, _, _, e => e
  | o :: l, T, H, r, e => by
    have hs : ∀ c, aregs tb c (o :: l) T H = match astep tb c o T H with | some (v, H') => aregs tb c l (aput T o.dst v) H' | none => none := by
      intro c
      simp only [aregs, astep]
      cases gOK T o.guard with
      | false => rfl
      | true =>
        simp only [cond_true]
        cases aop tb T H o.op with
        | none => rfl
        | some p => obtain ⟨nx, H'⟩ := p; cases nx <;> rfl
    rw [hs] at e ⊢
    split at e
    · rename_i v H' hv
      rw [astep_mono h hv]
      exact aregs_mono h l e
    · simp at e
theorem atrace_mono {c d} (h : CLe c d) : ∀ (l : List AOper) {T : Tr AVal} {H : AHeap} {r}, atrace tb c l T H = some r → atrace tb d l T H = some r
  | [], _, _, _, e => e
  | o :: l, T, H, r, e => by
    simp only [atrace] at e ⊢
    split at e
    · rename_i v H' hv
      rw [astep_mono h hv]
      split at e
      · rename_i s hs
        simp only [atrace_mono h l hs]
        exact e
      · simp at e
    · simp at e
theorem aloop_mono {f g : Tr AVal → AHeap → Option (AEx × Tr AVal × AHeap)} (h : ∀ T H r, f T H = some r → g T H = some r) : ∀ (n m : Nat) (T : Tr AVal) (H : AHeap) (r), n ≤ m → aloop f n T H = some r → aloop g m T H = some r
  | 0, _, _, _, _, _, e => by simp [aloop] at e
  | n + 1, 0, _, _, _, hl, _ => by omega
  | n + 1, m + 1, T, H, r, hl, e => by
    simp only [aloop] at e ⊢
    split at e
    · rename_i T' H' hv
      rw [h _ _ _ hv]
      exact aloop_mono h n m T' H' r (by omega) e
    · rename_i e' T' H' hne hv
      rw [h _ _ _ hv]
      cases e' with
      | normal => exact absurd rfl hne
      | exit i => exact e
      | ret => exact e
    · simp at e
theorem aexec_mono {c d} (h : CLe c d) {k k' : Nat} (hk : k ≤ k') : ∀ (x : ACode) (T : Tr AVal) (H : AHeap) (r), aexec tb c k x T H = some r → aexec tb d k' x T H = some r := by
  intro x
  induction x with
  | skip => intro T H r e; exact e
  | reg l =>
    intro T H r e
    simp only [aexec] at e ⊢
    split at e
    · rename_i T' H' hv; rw [aregs_mono h l hv]; exact e
    · simp at e
  | draw l chk =>
    intro T H r e
    simp only [aexec, adraw] at e ⊢
    split at e
    · rename_i ss hv; rw [atrace_mono h _ hv]; exact e
    · simp at e
  | seq a b iha ihb =>
    intro T H r e
    simp only [aexec] at e ⊢
    split at e
    · rename_i T' H' hv; rw [iha _ _ _ hv]; exact ihb _ _ _ e
    · rename_i e' T' H' hne hv
      rw [iha _ _ _ hv]
      cases e' with
      | normal => exact absurd rfl hne
      | exit i => exact e
      | ret => exact e
    · simp at e
  | cond c a b iha ihb =>
    intro T H r e
    simp only [aexec] at e ⊢
    split at e
    · exact iha _ _ _ e
    · exact ihb _ _ _ e
    · simp at e
  | block id c ih =>
    intro T H r e
    simp only [aexec] at e ⊢
    split at e
    · rename_i j T' H' hv; rw [ih _ _ _ hv]; exact e
    · rename_i e' T' H' hne hv
      rw [ih _ _ _ hv]
      cases e' with
      | exit i => exact absurd rfl (hne i)
      | normal => exact e
      | ret => exact e
    · simp at e
  | loop c ih =>
    intro T H r e
    simp only [aexec] at e ⊢
    exact aloop_mono (fun T H r hr => ih T H r hr) k k' T H r hk e
  | exit id => intro T H r e; exact e
  | ret => intro T H r e; exact e
theorem acall_mono1 {N : ANat} {tab : Tr AFn} : ∀ (n : Nat), CLe (acall N tab n) (acall N tab (n + 1))
  | 0 => fun f a H r e => by simp [acall] at e
  | n + 1 => fun f a H r e => by
    have ih := acall_mono1 (N := N) (tab := tab) n
    rw [acall] at e ⊢
    cases hn : N.is f with
    | true => rw [hn] at e; exact e
    | false =>
      rw [hn] at e
      simp only [cond_false] at e ⊢
      split at e
      · rename_i fn hf
        cases hb : Nat.ble a.length fn.nt with
        | false => rw [hb] at e; simp at e
        | true =>
          rw [hb] at e
          simp only [cond_true] at e ⊢
          split at e
          · simp at e
          · rename_i e' T' H' hne hv
            rw [aexec_mono ih (Nat.le_succ n) _ _ _ _ hv]
            cases e' with
            | exit i => exact (hne i rfl).elim
            | normal => exact e
            | ret => exact e
          · simp at e
      · simp at e
theorem acall_mono {N : ANat} {tab : Tr AFn} {n m : Nat} (h : n ≤ m) : CLe (acall N tab n) (acall N tab m) := by
  induction m with
  | zero => obtain rfl : n = 0 := by omega
            exact CLe.refl _
  | succ m ih =>
    by_cases e : n = m + 1
    · subst e; exact CLe.refl _
    · exact fun f a H r hr => acall_mono1 m _ _ _ _ (ih (by omega) _ _ _ _ hr)
end
end Go.Abs.S
