/- Part of a proof (TAwk27 S12 S15 S13 S16); no condition. -/
import Derived.Test.YthdkgakoogjoaaaProg
import Derived.KernelRfl
import Derived.ChangeArms
import Derived.ChangeSame
import Derived.Test.YthdkgakoogjoaaaP6
import Derived.Test.YthdkgakoogjoaaaP11
set_option linter.unusedSimpArgs false
set_option linter.unusedVariables false
set_option linter.unnecessarySimpa false
/- A table of functions for the fast machine, each compiled of the program's own. Printed by program. -/
namespace Go.Abs.TAwk27
open Go.Abs Go.Abs.F
noncomputable section
-- lightwell/lightwelllaw27.fed
def F19 : Go.Abs.F.Fn := mkFn [s0, s1, s2, s3, s4, s5, s6, s7, s8, s9, s10, s11] (cSeq (opC (xMv (gC (.int .i64 (.ofNat 0)))) s2 <| opC (xMv (gC (.slice none 0 (.known 0)))) s3 <| fEnd) (cSeq (opC (xCall 7 []) s10 <| opC (xMv g10) s4 <| fEnd) (cSeq (opC (xSB g0) s13 <| opC (xCall 8 [g4, g13]) s14 <| opC (xMv g14) s5 <| fEnd) (cSeq (opC (xMv (gC (.slice none 0 (.known 0)))) s6 <| fEnd) (cSeq (cSeq (opC (xMv (gC (.int .i64 (.ofNat 0)))) s7 <| fEnd) (cBlk (cLoop (cSeq (cSeq (opC (xV1 (fLen true) g0) s17 <| opC (xV2 fLeq g7 g17) s18 <| fEnd) (cIf g18 fEnd (cExit 0))) (cSeq (cBlk (cSeq (opC (xCall 12 [g4]) s23 <| opC (xV1 (fExt 0) g23) s24 <| opC (xV1 (fExt 1) g23) s25 <| opC (xNew [(.str []), (.str []), (.slice none 0 (.known 0)), (.slice none 0 (.known 0)), (.bool false)]) s8 <| op0 (xSt 5 g8 g24) <| opC (xMv g25) s9 <| fEnd) (cSeq (cSeq (opC (xV1 fNot g9) s27 <| fEnd) (cIf g27 (cExit 1) fEnd)) (opC (xLdA 5 g8) s29 <| opC (xBuildSl [(.str []), (.str []), (.slice none 0 (.known 0)), (.slice none 0 (.known 0)), (.bool false)] 1 [⟨0, 5, g29⟩]) s30 <| opC (xApp 5 88 g6 g30) s31 <| opC (xMv g31) s6 <| fEnd)))) (opC (xV2 fAdd g7 (gC (.int .i64 (.ofNat 1)))) s20 <| opC (xMv g20) s7 <| fEnd)))))) (cSeq (opC (xMv g5) s2 <| opC (xMv g6) s3 <| fEnd) (cExit 0))))))) [xMv g2, xMv g3]
-- lightwell/http.New
def F7 : Go.Abs.F.Fn := mkFn [s0, s1, s2, s3, s4, s5, s6, s7, s8] (cSeq (opC (xMv (gC (.ptr none))) s0 <| fEnd) (cSeq (opC (xBuild [(.ptr none), (.int .i64 (.ofNat 0)), (.int .i64 (.ofNat 0)), (.slice none 0 (.known 0)), (.bool false), (.str []), (.str []), (.slice none 0 (.known 0)), (.slice none 0 (.known 0)), (.bool false), (.int .i64 (.ofNat 0)), (.int .i64 (.ofNat 0)), (.int .i64 (.ofNat 0)), (.slice none 0 (.known 0)), (.int .i64 (.ofNat 0))] []) s2 <| opC (xBox g2) s3 <| opC (xMv g3) s1 <| fEnd) (cSeq (opC (xV1 vNil g1) s6 <| opC (xV1 (fFld 0) g6) s7 <| op0 (xSt 1 g7 g1) <| fEnd) (cSeq (opC (xMv g1) s0 <| fEnd) (cExit 0))))) [xMv g0]
-- (*lightwell/http.Parser).Feed
def F8 : Go.Abs.F.Fn := mkFn [s0, s1, s2, s3, s4, s5, s6, s7, s8, s9, s10, s11] (cSeq (opC (xMv (gC (.int .i64 (.ofNat 0)))) s4 <| fEnd) (cSeq (cSeq (opC (xCall 20 [g0]) s9 <| opC (xV1 fNot g9) s10 <| fEnd) (cIf g10 (cSeq (opC (xMv (gC (.int .i64 (.ofNat 1)))) s4 <| fEnd) (cExit 0)) fEnd)) (cSeq (cSeq (opC (xMv g1) s11 <| opC (xV1 (fLen false) g11) s12 <| opC (xMv (gC (.int .i64 (.ofNat 0)))) s13 <| fEnd) (cBlk (cLoop (cSeq (opC (xV2 fLss g13 g12) s14 <| fEnd) (cSeq (cIf g14 fEnd (cExit 0)) (cSeq (cBlk (cSeq (opC (xV2 (fIdxA 1) g11 g13) s15 <| opC (xLd g15) s16 <| opC (xMv g16) s6 <| fEnd) (cSeq (cSeq (opC (xV1 vNil g0) s18 <| opC (xV1 (fFld 1) g18) s19 <| opC (xLd g19) s20 <| opC (xV2 fEql g20 (gC (.int .i64 (.ofNat 8)))) s21 <| fEnd) (cIf g21 (cExit 1) fEnd)) (cSeq (opC (xV1 vNil g0) s23 <| opC (xV1 (fFld 12) g23) s24 <| opC (xLd g24) s25 <| opC (xV2 fAdd g25 (gC (.int .i64 (.ofNat 1)))) s26 <| opC (xV1 vNil g0) s27 <| opC (xV1 (fFld 12) g27) s28 <| op0 (xSt 1 g28 g26) <| fEnd) (cSeq (opC (xCall 21 [g0, g6]) s31 <| opC (xMv g31) s7 <| fEnd) (cSeq (opC (xV2 fNeq g7 (gC (.int .i64 (.ofNat 0)))) s33 <| fEnd) (cIf g33 (cSeq (opC (xV1 vNil g0) s36 <| opC (xV1 (fFld 2) g36) s37 <| op0 (xSt 1 g37 g7) <| fEnd) (opC (xCall 22 [g0, (gC (.int .i64 (.ofNat 8)))]) s39 <| fEnd)) fEnd))))))) (opC (xV2 fAdd g13 (gC (.int .i64 (.ofNat 1)))) s40 <| opC (xMv g40) s13 <| fEnd))))))) (cSeq (opC (xV1 vNil g0) s42 <| opC (xV1 (fFld 2) g42) s43 <| opC (xLd g43) s44 <| opC (xMv g44) s4 <| fEnd) (cExit 0))))) [xMv g4]
-- (*lightwell/http.Parser).made
def F20 : Go.Abs.F.Fn := mkFn [s0, s1, s2, s3, s4, s5, s6, s7, s8, s9, s10, s11] (cSeq (opC (xMv (gC (.bool false))) s2 <| fEnd) (cSeq (opC (xVN (fPf (.eqv true .ptr)) [g0, (gC (.ptr none))]) s4 <| opC (xGt g4 (xV1 vNil g0)) s7 <| opC (xGt g4 (xV1 (fFld 0) g7)) s8 <| opC (xGt g4 (xLd g8)) s9 <| opC (xGt g4 (xVN (fPf (.eqv false .ptr)) [g9, g0])) s11 <| opC (xPick g4 g11 (gC (.bool false))) s12 <| opC (xMv g12) s2 <| fEnd) (cExit 0))) [xMv g2]
-- (*lightwell/http.Parser).take
def F21 : Go.Abs.F.Fn := mkFn [s0, s1, s2, s3, s4, s5, s6, s7, s8, s9, s10, s11] (cSeq (opC (xMv (gC (.int .i64 (.ofNat 0)))) s4 <| fEnd) (cSeq (cSeq (opC (xV1 vNil g0) s6 <| opC (xV1 (fFld 1) g6) s7 <| opC (xLd g7) s8 <| fEnd) (cBlk (cSeq (cSeq (opC (xV2 fEql g8 (gC (.int .i64 (.ofNat 2)))) s10 <| opC (xMv g10) s9 <| fEnd) (cIf g9 fEnd (opC (xV2 fEql g8 (gC (.int .i64 (.ofNat 4)))) s11 <| opC (xMv g11) s9 <| fEnd))) (cIf g9 (cSeq (opC (xV1 vNil g0) s14 <| opC (xV1 (fFld 5) g14) s15 <| opC (xV1 (fFld 3) g15) s16 <| opC (xLd g16) s17 <| opC (xBuildSl [(.int .u8 (.ofNat 0))] 1 [⟨0, 1, g1⟩]) s19 <| opC (xApp 1 1 g17 g19) s20 <| opC (xV1 vNil g0) s21 <| opC (xV1 (fFld 5) g21) s22 <| opC (xV1 (fFld 3) g22) s23 <| op0 (xSt 1 g23 g20) <| fEnd) (cSeq (opC (xV1 vNil g0) s25 <| opC (xV1 (fFld 10) g25) s26 <| opC (xLd g26) s27 <| opC (xV2 fSub g27 (gC (.int .i64 (.ofNat 1)))) s28 <| opC (xV1 vNil g0) s29 <| opC (xV1 (fFld 10) g29) s30 <| op0 (xSt 1 g30 g28) <| fEnd) (cSeq (cSeq (opC (xV1 vNil g0) s32 <| opC (xV1 (fFld 10) g32) s33 <| opC (xLd g33) s34 <| opC (xV2 fGtr g34 (gC (.int .i64 (.ofNat 0)))) s35 <| fEnd) (cIf g35 (cSeq (opC (xMv (gC (.int .i64 (.ofNat 0)))) s4 <| fEnd) (cExit 1)) fEnd)) (cSeq (cSeq (opC (xV1 vNil g0) s37 <| opC (xV1 (fFld 1) g37) s38 <| opC (xLd g38) s39 <| opC (xV2 fEql g39 (gC (.int .i64 (.ofNat 2)))) s40 <| fEnd) (cIf g40 (opC (xCall 31 [g0]) s42 <| fEnd) (opC (xV1 vNil g0) s44 <| opC (xV1 (fFld 1) g44) s45 <| op0 (xSt 1 g45 (gC (.int .i64 (.ofNat 5)))) <| fEnd))) (cSeq (opC (xMv (gC (.int .i64 (.ofNat 0)))) s4 <| fEnd) (cExit 1)))))) (cSeq (opC (xV2 fEql g8 (gC (.int .i64 (.ofNat 5)))) s47 <| opC (xMv g47) s46 <| fEnd) (cIf g46 (cSeq (cSeq (opC (xV2 fNeq g1 (gC (.int .u8 (.ofNat 13)))) s49 <| fEnd) (cIf g49 (cSeq (opC (xMv (gC (.int .i64 (.ofNat 22)))) s4 <| fEnd) (cExit 1)) fEnd)) (cSeq (opC (xV1 vNil g0) s51 <| opC (xV1 (fFld 1) g51) s52 <| op0 (xSt 1 g52 (gC (.int .i64 (.ofNat 6)))) <| fEnd) (cSeq (opC (xMv (gC (.int .i64 (.ofNat 0)))) s4 <| fEnd) (cExit 1)))) (cSeq (opC (xV2 fEql g8 (gC (.int .i64 (.ofNat 6)))) s54 <| opC (xMv g54) s53 <| fEnd) (cIf g53 (cSeq (cSeq (opC (xV2 fNeq g1 (gC (.int .u8 (.ofNat 10)))) s56 <| fEnd) (cIf g56 (cSeq (opC (xMv (gC (.int .i64 (.ofNat 22)))) s4 <| fEnd) (cExit 1)) fEnd)) (cSeq (opC (xV1 vNil g0) s58 <| opC (xV1 (fFld 1) g58) s59 <| op0 (xSt 1 g59 (gC (.int .i64 (.ofNat 3)))) <| fEnd) (cSeq (opC (xMv (gC (.int .i64 (.ofNat 0)))) s4 <| fEnd) (cExit 1)))) fEnd)))))))) (cSeq (cSeq (opC (xV2 fEql g1 (gC (.int .u8 (.ofNat 10)))) s61 <| fEnd) (cIf g61 (cSeq (opC (xCall 32 [g0]) s63 <| opC (xMv g63) s4 <| fEnd) (cExit 0)) fEnd)) (cSeq (opC (xV1 vNil g0) s66 <| opC (xV1 (fFld 3) g66) s67 <| opC (xLd g67) s68 <| opC (xBuildSl [(.int .u8 (.ofNat 0))] 1 [⟨0, 1, g1⟩]) s70 <| opC (xApp 1 1 g68 g70) s71 <| opC (xV1 vNil g0) s72 <| opC (xV1 (fFld 3) g72) s73 <| op0 (xSt 1 g73 g71) <| fEnd) (cSeq (cSeq (opC (xV1 vNil g0) s75 <| opC (xV1 (fFld 3) g75) s76 <| opC (xLd g76) s77 <| opC (xV1 (fLen false) g77) s78 <| opC (xV2 fGtr g78 (gC (.int .i64 (.ofNat 2001)))) s79 <| fEnd) (cIf g79 (cSeq (opC (xMv (gC (.int .i64 (.ofNat 3)))) s4 <| fEnd) (cExit 0)) fEnd)) (cSeq (opC (xMv (gC (.int .i64 (.ofNat 0)))) s4 <| fEnd) (cExit 0))))))) [xMv g4]
-- (*lightwell/http.Parser).whole
def F31 : Go.Abs.F.Fn := mkFn [s0, s1, s2, s3, s4, s5, s6, s7, s8, s9, s10, s11] (cSeq (cTr [⟨(xMv g0), (some s2), some []⟩, ⟨(xMv g0), (some s3), some []⟩, ⟨(xV1 vNil g3), (some s4), some []⟩, ⟨(xV1 (fFld 13) g4), (some s5), some []⟩, ⟨(xLd g5), (some s6), some [10]⟩, ⟨(xMv g0), (some s7), some []⟩, ⟨(xV1 vNil g7), (some s8), some []⟩, ⟨(xV1 (fFld 5) g8), (some s9), some []⟩, ⟨(xLdA 5 g9), (some s10), some []⟩, ⟨(xBuildSl [(.str []), (.str []), (.slice none 0 (.known 0)), (.slice none 0 (.known 0)), (.bool false)] 1 [⟨0, 5, g10⟩]), (some s11), some []⟩, ⟨(xApp 5 88 g6 g11), (some s12), some []⟩, ⟨(xV1 vNil g2), (some s13), some []⟩, ⟨(xV1 (fFld 13) g13), (some s14), some []⟩, ⟨(xSt 1 g14 g12), none, some []⟩]) (cSeq (cTr [⟨(xMv g0), (some s15), some []⟩, ⟨(xV1 vNil g15), (some s16), some []⟩, ⟨(xV1 (fFld 14) g16), (some s17), some []⟩, ⟨(xLd g17), (some s18), some [12]⟩, ⟨(xMv g0), (some s19), some []⟩, ⟨(xV1 vNil g19), (some s20), some []⟩, ⟨(xV1 (fFld 5) g20), (some s21), some []⟩, ⟨(xLdA 5 g21), (some s22), some []⟩, ⟨(xCall 23 [g22]), (some s23), some []⟩, ⟨(xV2 fAdd g18 g23), (some s24), some []⟩, ⟨(xV1 vNil g15), (some s25), some []⟩, ⟨(xV1 (fFld 14) g25), (some s26), some []⟩, ⟨(xSt 1 g26 g24), none, some []⟩]) (cSeq (opC (xV1 vNil g0) s28 <| opC (xV1 (fFld 5) g28) s29 <| opC (xV1 (fFld 4) g29) s30 <| opC (xLd g30) s31 <| fEnd) (cIf g31 (opC (xCall 22 [g0, (gC (.int .i64 (.ofNat 8)))]) s33 <| fEnd) (opC (xCall 22 [g0, (gC (.int .i64 (.ofNat 0)))]) s35 <| fEnd))))) []
-- lightwell/http.size
def F23 : Go.Abs.F.Fn := mkFn [s0, s1, s2, s3, s4, s5, s6, s7, s8, s9, s10, s11] (cSeq (opC (xBox g0) s1 <| opC (xMv (gC (.int .i64 (.ofNat 0)))) s2 <| fEnd) (cSeq (opC (xV1 (fFld 0) g1) s6 <| opC (xLd g6) s7 <| opC (xV1 (fLen true) g7) s8 <| opC (xV1 (fFld 1) g1) s9 <| opC (xLd g9) s10 <| opC (xV1 (fLen true) g10) s11 <| opC (xV2 fAdd g8 g11) s12 <| opC (xV1 (fFld 3) g1) s13 <| opC (xLd g13) s14 <| opC (xV1 (fLen false) g14) s15 <| opC (xV2 fAdd g12 g15) s16 <| opC (xMv g16) s3 <| fEnd) (cSeq (cSeq (opC (xV1 (fFld 2) g1) s17 <| opC (xLd g17) s18 <| opC (xV1 (fLen false) g18) s19 <| opC (xMv (gC (.int .i64 (.ofNat 0)))) s20 <| fEnd) (cBlk (cLoop (cSeq (opC (xV2 fLss g20 g19) s21 <| fEnd) (cSeq (cIf g21 fEnd (cExit 0)) (cSeq (cBlk (cSeq (opC (xV2 (fIdxA 2) g18 g20) s22 <| opC (xLdA 2 g22) s23 <| opC (xNew [(.str []), (.str [])]) s5 <| op0 (xSt 2 g5 g23) <| fEnd) (opC (xV1 (fFld 0) g5) s25 <| opC (xLd g25) s26 <| opC (xV1 (fLen true) g26) s27 <| opC (xV1 (fFld 1) g5) s28 <| opC (xLd g28) s29 <| opC (xV1 (fLen true) g29) s30 <| opC (xV2 fAdd g27 g30) s31 <| opC (xV2 fAdd g3 g31) s32 <| opC (xMv g32) s3 <| fEnd))) (opC (xV2 fAdd g20 (gC (.int .i64 (.ofNat 1)))) s33 <| opC (xMv g33) s20 <| fEnd))))))) (cSeq (opC (xMv g3) s2 <| fEnd) (cExit 0))))) [xMv g2]
-- (*lightwell/http.Parser).reset
def F22 : Go.Abs.F.Fn := mkFn [s0, s1, s2, s3, s4, s5, s6, s7, s8, s9, s10, s11] (cSeq (opC (xV1 vNil g0) s6 <| opC (xV1 (fFld 1) g6) s7 <| op0 (xSt 1 g7 g1) <| fEnd) (cSeq (opC (xV1 vNil g0) s9 <| opC (xV1 (fFld 3) g9) s10 <| op0 (xSt 1 g10 (gC (.slice none 0 (.known 0)))) <| fEnd) (cSeq (opC (xV1 vNil g0) s12 <| opC (xV1 (fFld 4) g12) s13 <| op0 (xSt 1 g13 (gC (.bool false))) <| fEnd) (cSeq (opC (xBuild [(.str []), (.str []), (.slice none 0 (.known 0)), (.slice none 0 (.known 0)), (.bool false)] []) s15 <| opC (xV1 vNil g0) s16 <| opC (xV1 (fFld 5) g16) s17 <| op0 (xSt 5 g17 g15) <| fEnd) (opC (xV1 vNil g0) s21 <| opC (xV1 (fFld 10) g21) s22 <| op0 (xSt 1 g22 (gC (.int .i64 (.ofNat 0)))) <| opC (xV1 vNil g0) s23 <| opC (xV1 (fFld 11) g23) s24 <| op0 (xSt 1 g24 (gC (.int .i64 (.ofNat 0)))) <| opC (xV1 vNil g0) s25 <| opC (xV1 (fFld 12) g25) s26 <| op0 (xSt 1 g26 (gC (.int .i64 (.ofNat 0)))) <| fEnd))))) []
-- (*lightwell/http.Parser).ended
def F32 : Go.Abs.F.Fn := mkFn [s0, s1, s2, s3, s4, s5, s6, s7, s8, s9, s10, s11] (cSeq (opC (xMv (gC (.int .i64 (.ofNat 0)))) s2 <| fEnd) (cSeq (opC (xV1 vNil g0) s8 <| opC (xV1 (fFld 3) g8) s9 <| opC (xLd g9) s10 <| opC (xMv g10) s3 <| fEnd) (cSeq (opC (xV1 vNil g0) s13 <| opC (xV1 (fFld 3) g13) s14 <| opC (xLd g14) s15 <| opC (xSl 1 g15 none (some (gC (.int .i64 (.ofNat 0)))) none) s16 <| opC (xV1 vNil g0) s17 <| opC (xV1 (fFld 3) g17) s18 <| op0 (xSt 1 g18 g16) <| fEnd) (cSeq (opC (xV1 (fLen false) g3) s20 <| opC (xV2 fGtr g20 (gC (.int .i64 (.ofNat 0)))) s21 <| opC (xGt g21 (xV1 (fLen false) g3)) s25 <| opC (xGt g21 (xV2 fSub g25 (gC (.int .i64 (.ofNat 1))))) s26 <| opC (xGt g21 (xV2 (fIdxA 1) g3 g26)) s27 <| opC (xGt g21 (xLd g27)) s28 <| opC (xGt g21 (xV2 fEql g28 (gC (.int .u8 (.ofNat 13))))) s29 <| opC (xPick g21 g29 (gC (.bool false))) s30 <| opC (xMv g30) s4 <| fEnd) (cSeq (cSeq (opC (xMv g4) s31 <| fEnd) (cIf g31 (opC (xV1 (fLen false) g3) s34 <| opC (xV2 fSub g34 (gC (.int .i64 (.ofNat 1)))) s35 <| opC (xSl 1 g3 none (some g35) none) s36 <| opC (xMv g36) s3 <| fEnd) fEnd)) (cSeq (cSeq (opC (xV1 (fLen false) g3) s38 <| opC (xV2 fGtr g38 (gC (.int .i64 (.ofNat 2000)))) s39 <| fEnd) (cIf g39 (cSeq (opC (xMv (gC (.int .i64 (.ofNat 3)))) s2 <| fEnd) (cExit 0)) fEnd)) (cSeq (cSeq (opC (xV1 fNot g4) s41 <| fEnd) (cIf g41 (cSeq (opC (xCall 38 [g0]) s43 <| opC (xMv g43) s2 <| fEnd) (cExit 0)) fEnd)) (cSeq (opC (xBS g3) s45 <| opC (xMv g45) s5 <| fEnd) (cSeq (opC (xCall 39 [g5, (gC (.func (.func 40) [] []))]) s47 <| opC (xMv g47) s6 <| fEnd) (cSeq (cSeq (opC (xV1 vNil g0) s49 <| opC (xV1 (fFld 1) g49) s50 <| opC (xLd g50) s51 <| fEnd) (cBlk (cSeq (opC (xV2 fEql g51 (gC (.int .i64 (.ofNat 0)))) s53 <| opC (xMv g53) s52 <| fEnd) (cIf g52 (cSeq (opC (xCall 41 [g0, g5, g6]) s57 <| opC (xMv g57) s2 <| fEnd) (cExit 1)) (cSeq (opC (xV2 fEql g51 (gC (.int .i64 (.ofNat 1)))) s59 <| opC (xMv g59) s58 <| fEnd) (cIf g58 (cSeq (opC (xCall 42 [g0, g5, g6]) s63 <| opC (xMv g63) s2 <| fEnd) (cExit 1)) (cSeq (opC (xV2 fEql g51 (gC (.int .i64 (.ofNat 3)))) s65 <| opC (xMv g65) s64 <| fEnd) (cIf g64 (cSeq (opC (xCall 43 [g0, g5, g6]) s69 <| opC (xMv g69) s2 <| fEnd) (cExit 1)) fEnd)))))))) (cSeq (opC (xCall 44 [g0, g5, g6]) s73 <| opC (xMv g73) s2 <| fEnd) (cExit 0)))))))))))) [xMv g2]
-- (*lightwell/http.Parser).wanting
def F38 : Go.Abs.F.Fn := mkFn [s0, s1, s2, s3, s4, s5, s6, s7, s8, s9, s10] (cSeq (opC (xMv (gC (.int .i64 (.ofNat 0)))) s2 <| fEnd) (cSeq (cSeq (opC (xV1 vNil g0) s4 <| opC (xV1 (fFld 1) g4) s5 <| opC (xLd g5) s6 <| fEnd) (cBlk (cSeq (opC (xV2 fEql g6 (gC (.int .i64 (.ofNat 0)))) s8 <| opC (xMv g8) s7 <| fEnd) (cIf g7 (cSeq (opC (xMv (gC (.int .i64 (.ofNat 20)))) s2 <| fEnd) (cExit 1)) (cSeq (opC (xV2 fEql g6 (gC (.int .i64 (.ofNat 3)))) s10 <| opC (xMv g10) s9 <| fEnd) (cIf g9 (cSeq (opC (xMv (gC (.int .i64 (.ofNat 22)))) s2 <| fEnd) (cExit 1)) fEnd)))))) (cSeq (opC (xMv (gC (.int .i64 (.ofNat 21)))) s2 <| fEnd) (cExit 0)))) [xMv g2]
-- lightwell/http.all
def F39 : Go.Abs.F.Fn := mkFn [s0, s1, s2, s3, s4, s5, s6, s7, s8, s9, s10, s11] (cSeq (opC (xMv (gC (.bool false))) s4 <| fEnd) (cSeq (cSeq (opC (xV1 (fLen true) g0) s7 <| opC (xMv (gC (.int .i64 (.ofNat 0)))) s8 <| fEnd) (cBlk (cLoop (cSeq (opC (xV2 fLss g8 g7) s9 <| fEnd) (cSeq (cIf g9 fEnd (cExit 0)) (cSeq (cBlk (cSeq (opC (xMv g8) s5 <| fEnd) (cSeq (opC (xV2 fIdxS g0 g5) s14 <| opC (xCallV g1 [g14]) s15 <| opC (xV1 fNot g15) s16 <| fEnd) (cIf g16 (cSeq (opC (xMv (gC (.bool false))) s4 <| fEnd) (cExit 2)) fEnd)))) (opC (xV2 fAdd g8 (gC (.int .i64 (.ofNat 1)))) s17 <| opC (xMv g17) s8 <| fEnd))))))) (cSeq (opC (xMv (gC (.bool true))) s4 <| fEnd) (cExit 0)))) [xMv g4]
-- (*lightwell/http.Parser).ended$1
def F40 : Go.Abs.F.Fn := mkFn [s0, s1, s2, s3, s4] (cSeq (opC (xMv (gC (.bool false))) s2 <| fEnd) (cSeq (opC (xV2 fNeq g0 (gC (.int .u8 (.ofNat 13)))) s4 <| opC (xMv g4) s2 <| fEnd) (cExit 0))) [xMv g2]
-- (*lightwell/http.Parser).requestLine
def F41 : Go.Abs.F.Fn := mkFn [s0, s1, s2, s3, s4, s5, s6, s7, s8, s9, s10, s11] (cSeq (opC (xMv (gC (.int .i64 (.ofNat 0)))) s6 <| fEnd) (cSeq (cSeq (opC (xV1 fNot g2) s13 <| fEnd) (cIf g13 (cSeq (opC (xMv (gC (.int .i64 (.ofNat 20)))) s6 <| fEnd) (cExit 0)) fEnd)) (cSeq (cSeq (opC (xV2 fEql g1 (gC (.str []))) s15 <| fEnd) (cIf g15 (cSeq (cSeq (opC (xV1 vNil g0) s17 <| opC (xV1 (fFld 4) g17) s18 <| opC (xLd g18) s19 <| fEnd) (cIf g19 (cSeq (opC (xMv (gC (.int .i64 (.ofNat 20)))) s6 <| fEnd) (cExit 0)) fEnd)) (cSeq (opC (xV1 vNil g0) s21 <| opC (xV1 (fFld 4) g21) s22 <| op0 (xSt 1 g22 (gC (.bool true))) <| fEnd) (cSeq (opC (xMv (gC (.int .i64 (.ofNat 0)))) s6 <| fEnd) (cExit 0)))) fEnd)) (cSeq (opC (xCall 47 [g1, (gC (.int .u8 (.ofNat 32)))]) s25 <| opC (xV1 (fExt 0) g25) s26 <| opC (xV1 (fExt 1) g25) s27 <| opC (xV1 (fExt 2) g25) s28 <| opC (xMv g26) s7 <| opC (xMv g27) s8 <| opC (xMv g28) s9 <| fEnd) (cSeq (cSeq (opC (xV1 fNot g9) s30 <| opC (xGf g30 (xCall 48 [g7])) s33 <| opC (xGf g30 (xV1 fNot g33)) s34 <| opC (xPick g30 (gC (.bool true)) g34) s35 <| fEnd) (cIf g35 (cSeq (opC (xMv (gC (.int .i64 (.ofNat 20)))) s6 <| fEnd) (cExit 0)) fEnd)) (cSeq (opC (xCall 47 [g8, (gC (.int .u8 (.ofNat 32)))]) s38 <| opC (xV1 (fExt 0) g38) s39 <| opC (xV1 (fExt 1) g38) s40 <| opC (xV1 (fExt 2) g38) s41 <| opC (xMv g39) s10 <| opC (xMv g40) s11 <| opC (xMv g41) s9 <| fEnd) (cSeq (cSeq (opC (xV1 fNot g9) s43 <| opC (xGf g43 (xV2 fNeq g11 (gC (.str [72, 84, 84, 80, 47, 49, 46, 49])))) s46 <| opC (xPick g43 (gC (.bool true)) g46) s47 <| opC (xGf g47 (xV2 fEql g10 (gC (.str [])))) s50 <| opC (xPick g47 (gC (.bool true)) g50) s51 <| opC (xGf g51 (xV2 fIdxS g10 (gC (.int .i64 (.ofNat 0))))) s54 <| opC (xGf g51 (xV2 fNeq g54 (gC (.int .u8 (.ofNat 47))))) s55 <| opC (xPick g51 (gC (.bool true)) g55) s56 <| fEnd) (cIf g56 (cSeq (opC (xMv (gC (.int .i64 (.ofNat 20)))) s6 <| fEnd) (cExit 0)) fEnd)) (cSeq (cSeq (opC (xCall 39 [g10, (gC (.func (.func 49) [] []))]) s58 <| opC (xV1 fNot g58) s59 <| fEnd) (cIf g59 (cSeq (opC (xMv (gC (.int .i64 (.ofNat 20)))) s6 <| fEnd) (cExit 0)) fEnd)) (cSeq (opC (xV1 vNil g0) s64 <| opC (xV1 (fFld 5) g64) s65 <| opC (xV1 (fFld 0) g65) s66 <| op0 (xSt 1 g66 g7) <| opC (xV1 vNil g0) s67 <| opC (xV1 (fFld 5) g67) s68 <| opC (xV1 (fFld 1) g68) s69 <| op0 (xSt 1 g69 g10) <| fEnd) (cSeq (opC (xV1 vNil g0) s71 <| opC (xV1 (fFld 1) g71) s72 <| op0 (xSt 1 g72 (gC (.int .i64 (.ofNat 1)))) <| fEnd) (cSeq (opC (xMv (gC (.int .i64 (.ofNat 0)))) s6 <| fEnd) (cExit 0)))))))))))) [xMv g6]
-- lightwell/http.cut
def F47 : Go.Abs.F.Fn := mkFn [s0, s1, s2, s3, s4, s5, s6, s7, s8, s9, s10, s11] (cSeq (opC (xMv (gC (.str []))) s4 <| opC (xMv (gC (.str []))) s5 <| opC (xMv (gC (.bool false))) s6 <| fEnd) (cSeq (opC (xCall 55 [g0, g1]) s10 <| opC (xMv g10) s7 <| fEnd) (cSeq (cSeq (opC (xV2 fLss g7 (gC (.int .i64 (.ofNat 0)))) s12 <| fEnd) (cIf g12 (cSeq (opC (xMv g0) s4 <| opC (xMv (gC (.str []))) s5 <| opC (xMv (gC (.bool false))) s6 <| fEnd) (cExit 0)) fEnd)) (cSeq (opC (xSlS g0 none (some g7)) s16 <| opC (xV2 fAdd g7 (gC (.int .i64 (.ofNat 1)))) s19 <| opC (xSlS g0 (some g19) none) s20 <| opC (xMv g16) s4 <| opC (xMv g20) s5 <| opC (xMv (gC (.bool true))) s6 <| fEnd) (cExit 0))))) [xMv g4, xMv g5, xMv g6]
-- strings.IndexByte
def F55 : Go.Abs.F.Fn := mkFn [s0, s1, s2, s3, s4, s5, s6, s7] (cSeq (opC (xMv (gC (.int .i64 (.ofNat 0)))) s4 <| fEnd) (cSeq (opC (xCall 63 [g0, g1]) s7 <| opC (xMv g7) s4 <| fEnd) (cExit 0))) [xMv g4]
-- internal/stringslite.IndexByte
def F63 : Go.Abs.F.Fn := mkFn [s0, s1, s2, s3, s4, s5, s6, s7] (cSeq (opC (xMv (gC (.int .i64 (.ofNat 0)))) s4 <| fEnd) (cSeq (opC (xVN (fPf .ibs) [g0, g1]) s7 <| opC (xMv g7) s4 <| fEnd) (cExit 0))) [xMv g4]
-- lightwell/http.isToken
def F48 : Go.Abs.F.Fn := mkFn [s0, s1, s2, s3, s4, s5, s6, s7, s8] (cSeq (opC (xMv (gC (.bool false))) s2 <| fEnd) (cSeq (opC (xV2 fNeq g0 (gC (.str []))) s4 <| opC (xGt g4 (xCall 39 [g0, (gC (.func (.func 56) [] []))])) s7 <| opC (xPick g4 g7 (gC (.bool false))) s8 <| opC (xMv g8) s2 <| fEnd) (cExit 0))) [xMv g2]
-- lightwell/http.isTchar
def F56 : Go.Abs.F.Fn := mkFn [s0, s1, s2, s3, s4, s5, s6, s7, s8, s9, s10, s11] (cSeq (opC (xMv (gC (.bool false))) s2 <| fEnd) (cSeq (opC (xV2 fGeq g0 (gC (.int .u8 (.ofNat 97)))) s5 <| opC (xGt g5 (xV2 fLeq g0 (gC (.int .u8 (.ofNat 122))))) s8 <| opC (xPick g5 g8 (gC (.bool false))) s9 <| opC (xGf g9 (xV2 fGeq g0 (gC (.int .u8 (.ofNat 65))))) s12 <| opC (xGf g9 (xMv g12)) s13 <| opC (xGt g13 (xV2 fLeq g0 (gC (.int .u8 (.ofNat 90))))) s15 <| opC (xGf g9 (xPick g13 g15 (gC (.bool false)))) s16 <| opC (xPick g9 (gC (.bool true)) g16) s17 <| opC (xMv g17) s3 <| fEnd) (cSeq (opC (xCall 62 [g0]) s19 <| opC (xGf g19 (xMv g3)) s21 <| opC (xPick g19 (gC (.bool true)) g21) s22 <| opC (xGf g22 (xCall 55 [(gC (.str [33, 35, 36, 37, 38, 39, 42, 43, 45, 46, 94, 95, 96, 124, 126])), g0])) s25 <| opC (xGf g22 (xV2 fGeq g25 (gC (.int .i64 (.ofNat 0))))) s26 <| opC (xPick g22 (gC (.bool true)) g26) s27 <| opC (xMv g27) s2 <| fEnd) (cExit 0)))) [xMv g2]
-- lightwell/http.isDigit
def F62 : Go.Abs.F.Fn := mkFn [s0, s1, s2, s3, s4, s5, s6, s7, s8] (cSeq (opC (xMv (gC (.bool false))) s2 <| fEnd) (cSeq (opC (xV2 fGeq g0 (gC (.int .u8 (.ofNat 48)))) s4 <| opC (xGt g4 (xV2 fLeq g0 (gC (.int .u8 (.ofNat 57))))) s7 <| opC (xPick g4 g7 (gC (.bool false))) s8 <| opC (xMv g8) s2 <| fEnd) (cExit 0))) [xMv g2]
-- (*lightwell/http.Parser).requestLine$1
def F49 : Go.Abs.F.Fn := mkFn [s0, s1, s2, s3, s4, s5, s6, s7, s8] (cSeq (opC (xMv (gC (.bool false))) s2 <| fEnd) (cSeq (opC (xV2 fGeq g0 (gC (.int .u8 (.ofNat 33)))) s4 <| opC (xGt g4 (xV2 fLeq g0 (gC (.int .u8 (.ofNat 126))))) s7 <| opC (xPick g4 g7 (gC (.bool false))) s8 <| opC (xMv g8) s2 <| fEnd) (cExit 0))) [xMv g2]
-- (*lightwell/http.Parser).headerLine
def F42 : Go.Abs.F.Fn := mkFn [s0, s1, s2, s3, s4, s5, s6, s7, s8, s9, s10, s11] (cSeq (opC (xMv (gC (.int .i64 (.ofNat 0)))) s6 <| fEnd) (cSeq (cSeq (opC (xV2 fNeq g1 (gC (.str []))) s10 <| opC (xGt g10 (xV1 vNil g0)) s13 <| opC (xGt g10 (xV1 (fFld 5) g13)) s14 <| opC (xGt g10 (xV1 (fFld 2) g14)) s15 <| opC (xGt g10 (xLd g15)) s16 <| opC (xGt g10 (xV1 (fLen false) g16)) s17 <| opC (xGt g10 (xV2 fGeq g17 (gC (.int .i64 (.ofNat 40))))) s18 <| opC (xPick g10 g18 (gC (.bool false))) s19 <| fEnd) (cIf g19 (cSeq (opC (xMv (gC (.int .i64 (.ofNat 3)))) s6 <| fEnd) (cExit 0)) fEnd)) (cSeq (cSeq (opC (xV1 fNot g2) s21 <| fEnd) (cIf g21 (cSeq (opC (xMv (gC (.int .i64 (.ofNat 21)))) s6 <| fEnd) (cExit 0)) fEnd)) (cSeq (cSeq (opC (xV2 fEql g1 (gC (.str []))) s23 <| fEnd) (cIf g23 (cSeq (opC (xCall 50 [g0]) s25 <| opC (xMv g25) s6 <| fEnd) (cExit 0)) fEnd)) (cSeq (opC (xCall 51 [g1]) s28 <| opC (xV1 (fExt 0) g28) s29 <| opC (xV1 (fExt 1) g28) s30 <| opC (xNew [(.str []), (.str [])]) s7 <| op0 (xSt 2 g7 g29) <| opC (xMv g30) s8 <| fEnd) (cSeq (cSeq (opC (xV1 fNot g8) s32 <| fEnd) (cIf g32 (cSeq (opC (xMv (gC (.int .i64 (.ofNat 21)))) s6 <| fEnd) (cExit 0)) fEnd)) (cSeq (cTr [⟨(xMv g0), (some s33), some []⟩, ⟨(xMv g0), (some s34), some []⟩, ⟨(xV1 vNil g34), (some s35), some []⟩, ⟨(xV1 (fFld 5) g35), (some s36), some []⟩, ⟨(xV1 (fFld 2) g36), (some s37), some []⟩, ⟨(xLd g37), (some s38), some [8]⟩, ⟨(xLdA 2 g7), (some s39), some []⟩, ⟨(xBuildSl [(.str []), (.str [])] 1 [⟨0, 2, g39⟩]), (some s40), some []⟩, ⟨(xApp 2 32 g38 g40), (some s41), some []⟩, ⟨(xV1 vNil g33), (some s42), some []⟩, ⟨(xV1 (fFld 5) g42), (some s43), some []⟩, ⟨(xV1 (fFld 2) g43), (some s44), some []⟩, ⟨(xSt 1 g44 g41), none, some []⟩]) (cSeq (opC (xMv (gC (.int .i64 (.ofNat 0)))) s6 <| fEnd) (cExit 0))))))))) [xMv g6]
-- (*lightwell/http.Parser).headersEnd
def F50 : Go.Abs.F.Fn := mkFn [s0, s1, s2, s3, s4, s5, s6, s7, s8, s9, s10, s11] (cSeq (opC (xMv (gC (.int .i64 (.ofNat 0)))) s2 <| fEnd) (cSeq (opC (xCall 57 [g0, (gC (.str [99, 111, 110, 116, 101, 110, 116, 45, 108, 101, 110, 103, 116, 104]))]) s11 <| opC (xCall 57 [g0, (gC (.str [116, 114, 97, 110, 115, 102, 101, 114, 45, 101, 110, 99, 111, 100, 105, 110, 103]))]) s13 <| opC (xMv g11) s3 <| opC (xMv g13) s4 <| fEnd) (cSeq (cSeq (opC (xCall 57 [g0, (gC (.str [104, 111, 115, 116]))]) s15 <| opC (xV1 (fLen false) g15) s16 <| opC (xV2 fNeq g16 (gC (.int .i64 (.ofNat 1)))) s17 <| opC (xGf g17 (xV1 (fLen false) g3)) s20 <| opC (xGf g17 (xV1 (fLen false) g4)) s22 <| opC (xGf g17 (xV2 fAdd g20 g22)) s23 <| opC (xGf g17 (xV2 fGtr g23 (gC (.int .i64 (.ofNat 1))))) s24 <| opC (xPick g17 (gC (.bool true)) g24) s25 <| fEnd) (cIf g25 (cSeq (opC (xMv (gC (.int .i64 (.ofNat 21)))) s2 <| fEnd) (cExit 0)) fEnd)) (cSeq (cSeq (opC (xV1 (fLen false) g4) s27 <| opC (xV2 fEql g27 (gC (.int .i64 (.ofNat 1)))) s28 <| opC (xGt g28 (xV2 (fIdxA 1) g4 (gC (.int .i64 (.ofNat 0))))) s31 <| opC (xGt g28 (xLd g31)) s32 <| opC (xGt g28 (xCall 58 [g32])) s33 <| opC (xGt g28 (xV2 fNeq g33 (gC (.str [99, 104, 117, 110, 107, 101, 100])))) s34 <| opC (xPick g28 g34 (gC (.bool false))) s35 <| fEnd) (cIf g35 (cSeq (opC (xMv (gC (.int .i64 (.ofNat 21)))) s2 <| fEnd) (cExit 0)) fEnd)) (cSeq (opC (xMv (gC (.int .i64 (.ofNat 0)))) s5 <| fEnd) (cSeq (cSeq (opC (xV1 (fLen false) g3) s37 <| opC (xV2 fEql g37 (gC (.int .i64 (.ofNat 1)))) s38 <| fEnd) (cIf g38 (cSeq (opC (xV2 (fIdxA 1) g3 (gC (.int .i64 (.ofNat 0)))) s41 <| opC (xLd g41) s42 <| opC (xCall 59 [g42]) s43 <| opC (xV1 (fExt 0) g43) s44 <| opC (xV1 (fExt 1) g43) s45 <| opC (xMv g44) s6 <| opC (xMv g45) s7 <| fEnd) (cSeq (cSeq (opC (xV1 fNot g7) s47 <| fEnd) (cIf g47 (cSeq (opC (xMv (gC (.int .i64 (.ofNat 21)))) s2 <| fEnd) (cExit 0)) fEnd)) (cSeq (cSeq (opC (xV2 fGtr g6 (gC (.int .i64 (.ofNat 65536)))) s49 <| fEnd) (cIf g49 (cSeq (opC (xMv (gC (.int .i64 (.ofNat 3)))) s2 <| fEnd) (cExit 0)) fEnd)) (opC (xMv g6) s5 <| fEnd)))) fEnd)) (cSeq (cSeq (opC (xCall 57 [g0, (gC (.str [99, 111, 110, 110, 101, 99, 116, 105, 111, 110]))]) s52 <| opC (xV1 (fLen false) g52) s53 <| opC (xMv (gC (.int .i64 (.ofNat 0)))) s54 <| fEnd) (cBlk (cLoop (cSeq (opC (xV2 fLss g54 g53) s55 <| fEnd) (cSeq (cIf g55 fEnd (cExit 0)) (cSeq (cBlk (cSeq (opC (xV2 (fIdxA 1) g52 g54) s56 <| opC (xLd g56) s57 <| opC (xMv g57) s9 <| fEnd) (opC (xV1 vNil g0) s60 <| opC (xV1 (fFld 5) g60) s61 <| opC (xV1 (fFld 4) g61) s62 <| opC (xLd g62) s63 <| opC (xGf g63 (xCall 60 [g9])) s66 <| opC (xPick g63 (gC (.bool true)) g66) s67 <| opC (xV1 vNil g0) s68 <| opC (xV1 (fFld 5) g68) s69 <| opC (xV1 (fFld 4) g69) s70 <| op0 (xSt 1 g70 g67) <| fEnd))) (opC (xV2 fAdd g54 (gC (.int .i64 (.ofNat 1)))) s71 <| opC (xMv g71) s54 <| fEnd))))))) (cSeq (opC (xV1 vNil g0) s74 <| opC (xV1 (fFld 10) g74) s75 <| op0 (xSt 1 g75 g5) <| fEnd) (cSeq (cBlk (cSeq (opC (xV1 (fLen false) g4) s80 <| opC (xV2 fEql g80 (gC (.int .i64 (.ofNat 1)))) s81 <| opC (xMv g81) s78 <| fEnd) (cIf g78 (opC (xV1 vNil g0) s83 <| opC (xV1 (fFld 1) g83) s84 <| op0 (xSt 1 g84 (gC (.int .i64 (.ofNat 3)))) <| fEnd) (cSeq (opC (xV2 fGtr g5 (gC (.int .i64 (.ofNat 0)))) s87 <| opC (xMv g87) s85 <| fEnd) (cIf g85 (opC (xV1 vNil g0) s89 <| opC (xV1 (fFld 1) g89) s90 <| op0 (xSt 1 g90 (gC (.int .i64 (.ofNat 2)))) <| fEnd) (opC (xCall 31 [g0]) s77 <| fEnd)))))) (cSeq (opC (xMv (gC (.int .i64 (.ofNat 0)))) s2 <| fEnd) (cExit 0))))))))))) [xMv g2]
-- (*lightwell/http.Parser).values
def F57 : Go.Abs.F.Fn := mkFn [s0, s1, s2, s3, s4, s5, s6, s7, s8, s9, s10, s11] (cSeq (opC (xMv (gC (.slice none 0 (.known 0)))) s4 <| fEnd) (cSeq (opC (xMv (gC (.slice none 0 (.known 0)))) s5 <| fEnd) (cSeq (cSeq (opC (xV1 vNil g0) s9 <| opC (xV1 (fFld 5) g9) s10 <| opC (xV1 (fFld 2) g10) s11 <| opC (xLd g11) s12 <| opC (xV1 (fLen false) g12) s13 <| opC (xMv (gC (.int .i64 (.ofNat 0)))) s14 <| fEnd) (cBlk (cLoop (cSeq (opC (xV2 fLss g14 g13) s15 <| fEnd) (cSeq (cIf g15 fEnd (cExit 0)) (cSeq (cBlk (cSeq (opC (xV2 (fIdxA 2) g12 g14) s16 <| opC (xLdA 2 g16) s17 <| opC (xNew [(.str []), (.str [])]) s7 <| op0 (xSt 2 g7 g17) <| fEnd) (cSeq (opC (xV1 (fFld 0) g7) s18 <| opC (xLd g18) s19 <| opC (xV2 fEql g19 g1) s21 <| fEnd) (cIf g21 (opC (xV1 (fFld 1) g7) s23 <| opC (xLd g23) s24 <| opC (xBuildSl [(.str [])] 1 [⟨0, 1, g24⟩]) s25 <| opC (xApp 1 16 g5 g25) s26 <| opC (xMv g26) s5 <| fEnd) fEnd)))) (opC (xV2 fAdd g14 (gC (.int .i64 (.ofNat 1)))) s27 <| opC (xMv g27) s14 <| fEnd))))))) (cSeq (opC (xMv g5) s4 <| fEnd) (cExit 0))))) [xMv g4]
-- lightwell/http.lower
def F58 : Go.Abs.F.Fn := mkFn [s0, s1, s2, s3, s4, s5, s6, s7, s8, s9, s10, s11] (cSeq (opC (xMv (gC (.str []))) s2 <| fEnd) (cSeq (opC (xSB g0) s7 <| opC (xMv g7) s3 <| fEnd) (cSeq (cSeq (opC (xMv g3) s8 <| opC (xV1 (fLen false) g8) s9 <| opC (xMv (gC (.int .i64 (.ofNat 0)))) s10 <| fEnd) (cBlk (cLoop (cSeq (opC (xV2 fLss g10 g9) s11 <| fEnd) (cSeq (cIf g11 fEnd (cExit 0)) (cSeq (cBlk (cSeq (opC (xV2 (fIdxA 1) g8 g10) s13 <| opC (xLd g13) s14 <| opC (xMv g10) s4 <| opC (xMv g14) s5 <| fEnd) (cSeq (opC (xV2 fGeq g5 (gC (.int .u8 (.ofNat 65)))) s16 <| opC (xGt g16 (xV2 fLeq g5 (gC (.int .u8 (.ofNat 90))))) s19 <| opC (xPick g16 g19 (gC (.bool false))) s20 <| fEnd) (cIf g20 (opC (xV2 fAdd g5 (gC (.int .u8 (.ofNat 32)))) s24 <| opC (xV2 (fIdxA 1) g3 g4) s25 <| op0 (xSt 1 g25 g24) <| fEnd) fEnd)))) (opC (xV2 fAdd g10 (gC (.int .i64 (.ofNat 1)))) s26 <| opC (xMv g26) s10 <| fEnd))))))) (cSeq (opC (xBS g3) s28 <| opC (xMv g28) s2 <| fEnd) (cExit 0))))) [xMv g2]
-- lightwell/http.number
def F59 : Go.Abs.F.Fn := mkFn [s0, s1, s2, s3, s4, s5, s6, s7, s8, s9, s10, s11] (cSeq (opC (xMv (gC (.int .i64 (.ofNat 0)))) s2 <| opC (xMv (gC (.bool false))) s3 <| fEnd) (cSeq (cSeq (opC (xV1 (fLen true) g0) s7 <| opC (xV2 fLss g7 (gC (.int .i64 (.ofNat 1)))) s8 <| opC (xGf g8 (xV1 (fLen true) g0)) s11 <| opC (xGf g8 (xV2 fGtr g11 (gC (.int .i64 (.ofNat 9))))) s12 <| opC (xPick g8 (gC (.bool true)) g12) s13 <| opC (xGf g13 (xCall 39 [g0, (gC (.func (.func 62) [] []))])) s16 <| opC (xGf g13 (xV1 fNot g16)) s17 <| opC (xPick g13 (gC (.bool true)) g17) s18 <| fEnd) (cIf g18 (cSeq (opC (xMv (gC (.int .i64 (.ofNat 0)))) s2 <| opC (xMv (gC (.bool false))) s3 <| fEnd) (cExit 0)) fEnd)) (cSeq (opC (xMv (gC (.int .i64 (.ofNat 0)))) s4 <| fEnd) (cSeq (cSeq (opC (xV1 (fLen true) g0) s20 <| opC (xMv (gC (.int .i64 (.ofNat 0)))) s21 <| fEnd) (cBlk (cLoop (cSeq (opC (xV2 fLss g21 g20) s22 <| fEnd) (cSeq (cIf g22 fEnd (cExit 0)) (cSeq (cBlk (cSeq (opC (xMv g21) s5 <| fEnd) (opC (xV2 fMul g4 (gC (.int .i64 (.ofNat 10)))) s25 <| opC (xV2 fIdxS g0 g5) s28 <| opC (xV2 fSub g28 (gC (.int .u8 (.ofNat 48)))) s29 <| opC (xV1 (fConv .i64) g29) s30 <| opC (xV2 fAdd g25 g30) s31 <| opC (xMv g31) s4 <| fEnd))) (opC (xV2 fAdd g21 (gC (.int .i64 (.ofNat 1)))) s32 <| opC (xMv g32) s21 <| fEnd))))))) (cSeq (opC (xMv g4) s2 <| opC (xMv (gC (.bool true))) s3 <| fEnd) (cExit 0)))))) [xMv g2, xMv g3]
-- lightwell/http.closes
def F60 : Go.Abs.F.Fn := mkFn [s0, s1, s2, s3, s4, s5, s6, s7, s8, s9, s10, s11] (cSeq (opC (xMv (gC (.bool false))) s2 <| fEnd) (cSeq (opC (xCall 64 [g0, (gC (.func (.func 65) [] []))]) s7 <| opC (xMv g7) s3 <| fEnd) (cSeq (cSeq (opC (xMv g3) s8 <| opC (xV1 (fLen false) g8) s9 <| opC (xMv (gC (.int .i64 (.ofNat 0)))) s10 <| fEnd) (cBlk (cLoop (cSeq (opC (xV2 fLss g10 g9) s11 <| fEnd) (cSeq (cIf g11 fEnd (cExit 0)) (cSeq (cBlk (cSeq (opC (xV2 (fIdxA 1) g8 g10) s12 <| opC (xLd g12) s13 <| opC (xMv g13) s5 <| fEnd) (cSeq (opC (xCall 58 [g5]) s15 <| opC (xV2 fEql g15 (gC (.str [99, 108, 111, 115, 101]))) s16 <| fEnd) (cIf g16 (cSeq (opC (xMv (gC (.bool true))) s2 <| fEnd) (cExit 2)) fEnd)))) (opC (xV2 fAdd g10 (gC (.int .i64 (.ofNat 1)))) s17 <| opC (xMv g17) s10 <| fEnd))))))) (cSeq (opC (xMv (gC (.bool false))) s2 <| fEnd) (cExit 0))))) [xMv g2]
-- strings.FieldsFunc
def F64 : Go.Abs.F.Fn := mkFn [s0, s1, s2, s3, s4, s5, s6, s7, s8, s9, s10, s11] (cSeq (opC (xMv (gC (.slice none 0 (.known 0)))) s4 <| fEnd) (cSeq (opC (xMk 16 [(.int .i64 (.ofNat 0)), (.int .i64 (.ofNat 0))] (gC (.int .i64 (.ofNat 0))) (gC (.int .i64 (.ofNat 32)))) s12 <| opC (xMv g12) s5 <| fEnd) (cSeq (opC (xMv (gC (.int .i64 (.negSucc 0)))) s6 <| fEnd) (cSeq (cSeq (opC (xHf .strRange [g0]) s14 <| fEnd) (cBlk (cLoop (cSeq (opC (xHf .strNext [g14]) s15 <| opC (xV1 (fExt 0) g15) s16 <| fEnd) (cSeq (cIf g16 fEnd (cExit 0)) (cBlk (cSeq (opC (xV1 (fExt 1) g15) s17 <| opC (xV1 (fExt 2) g15) s18 <| opC (xMv g17) s7 <| opC (xMv g18) s8 <| fEnd) (cSeq (opC (xCallV g1 [g8]) s21 <| fEnd) (cIf g21 (cSeq (opC (xV2 fGeq g6 (gC (.int .i64 (.ofNat 0)))) s23 <| fEnd) (cIf g23 (cSeq (opC (xBuild [(.int .i64 (.ofNat 0)), (.int .i64 (.ofNat 0))] [⟨0, 1, g6⟩, ⟨1, 1, g7⟩]) s27 <| opC (xBuildSl [(.int .i64 (.ofNat 0)), (.int .i64 (.ofNat 0))] 1 [⟨0, 2, g27⟩]) s28 <| opC (xApp 2 16 g5 g28) s29 <| opC (xMv g29) s5 <| fEnd) (opC (xV1 (fUn .xor) g6) s31 <| opC (xMv g31) s6 <| fEnd)) fEnd)) (cSeq (opC (xV2 fLss g6 (gC (.int .i64 (.ofNat 0)))) s33 <| fEnd) (cIf g33 (opC (xMv g7) s6 <| fEnd) fEnd))))))))))) (cSeq (cSeq (opC (xV2 fGeq g6 (gC (.int .i64 (.ofNat 0)))) s36 <| fEnd) (cIf g36 (opC (xV1 (fLen true) g0) s40 <| opC (xBuild [(.int .i64 (.ofNat 0)), (.int .i64 (.ofNat 0))] [⟨0, 1, g6⟩, ⟨1, 1, g40⟩]) s41 <| opC (xBuildSl [(.int .i64 (.ofNat 0)), (.int .i64 (.ofNat 0))] 1 [⟨0, 2, g41⟩]) s42 <| opC (xApp 2 16 g5 g42) s43 <| opC (xMv g43) s5 <| fEnd) fEnd)) (cSeq (opC (xV1 (fLen false) g5) s45 <| opC (xMk 16 [(.str [])] g45 g45) s46 <| opC (xMv g46) s9 <| fEnd) (cSeq (cSeq (opC (xMv g5) s47 <| opC (xV1 (fLen false) g47) s48 <| opC (xMv (gC (.int .i64 (.ofNat 0)))) s49 <| fEnd) (cBlk (cLoop (cSeq (opC (xV2 fLss g49 g48) s50 <| fEnd) (cSeq (cIf g50 fEnd (cExit 0)) (cSeq (cBlk (cSeq (opC (xV2 (fIdxA 2) g47 g49) s52 <| opC (xLdA 2 g52) s53 <| opC (xNew [(.int .i64 (.ofNat 0)), (.int .i64 (.ofNat 0))]) s11 <| opC (xMv g49) s10 <| op0 (xSt 2 g11 g53) <| fEnd) (opC (xV1 (fFld 0) g11) s57 <| opC (xLd g57) s58 <| opC (xV1 (fFld 1) g11) s59 <| opC (xLd g59) s60 <| opC (xSlS g0 (some g58) (some g60)) s61 <| opC (xV2 (fIdxA 1) g9 g10) s62 <| op0 (xSt 1 g62 g61) <| fEnd))) (opC (xV2 fAdd g49 (gC (.int .i64 (.ofNat 1)))) s63 <| opC (xMv g63) s49 <| fEnd))))))) (cSeq (opC (xMv g9) s4 <| fEnd) (cExit 0))))))))) [xMv g4]
-- lightwell/http.closes$1
def F65 : Go.Abs.F.Fn := mkFn [s0, s1, s2, s3, s4, s5, s6, s7, s8, s9, s10, s11] (cSeq (opC (xMv (gC (.bool false))) s2 <| fEnd) (cSeq (opC (xV2 fEql g0 (gC (.int .i32 (.ofNat 44)))) s4 <| opC (xGf g4 (xV2 fEql g0 (gC (.int .i32 (.ofNat 32))))) s7 <| opC (xPick g4 (gC (.bool true)) g7) s8 <| opC (xGf g8 (xV2 fEql g0 (gC (.int .i32 (.ofNat 9))))) s11 <| opC (xPick g8 (gC (.bool true)) g11) s12 <| opC (xMv g12) s2 <| fEnd) (cExit 0))) [xMv g2]
-- lightwell/http.header
def F51 : Go.Abs.F.Fn := mkFn [s0, s1, s2, s3, s4, s5, s6, s7, s8, s9, s10, s11] (cSeq (opC (xNew [(.str []), (.str [])]) s2 <| opC (xMv (gC (.bool false))) s3 <| fEnd) (cSeq (opC (xCall 47 [g0, (gC (.int .u8 (.ofNat 58)))]) s9 <| opC (xV1 (fExt 0) g9) s10 <| opC (xV1 (fExt 1) g9) s11 <| opC (xV1 (fExt 2) g9) s12 <| opC (xMv g10) s4 <| opC (xMv g11) s5 <| opC (xMv g12) s6 <| fEnd) (cSeq (cSeq (opC (xV1 fNot g6) s14 <| opC (xGf g14 (xCall 48 [g4])) s17 <| opC (xGf g14 (xV1 fNot g17)) s18 <| opC (xPick g14 (gC (.bool true)) g18) s19 <| fEnd) (cIf g19 (cSeq (opC (xBuild [(.str []), (.str [])] []) s20 <| op0 (xSt 2 g2 g20) <| opC (xMv (gC (.bool false))) s3 <| fEnd) (cExit 0)) fEnd)) (cSeq (opC (xCall 61 [g5]) s22 <| opC (xMv g22) s5 <| fEnd) (cSeq (cSeq (opC (xCall 39 [g5, (gC (.func (.func 53) [] []))]) s24 <| opC (xV1 fNot g24) s25 <| fEnd) (cIf g25 (cSeq (opC (xBuild [(.str []), (.str [])] []) s26 <| op0 (xSt 2 g2 g26) <| opC (xMv (gC (.bool false))) s3 <| fEnd) (cExit 0)) fEnd)) (cSeq (opC (xCall 58 [g4]) s28 <| opC (xBuild [(.str []), (.str [])] [⟨0, 1, g28⟩, ⟨1, 1, g5⟩]) s30 <| op0 (xSt 2 g2 g30) <| opC (xMv (gC (.bool true))) s3 <| fEnd) (cExit 0))))))) [xLdA 2 g2, xMv g3]
-- lightwell/http.trim
def F61 : Go.Abs.F.Fn := mkFn [s0, s1, s2, s3, s4, s5, s6, s7, s8, s9, s10, s11] (cSeq (opC (xMv (gC (.str []))) s2 <| fEnd) (cSeq (cBlk (cLoop (cSeq (cSeq (opC (xV2 fNeq g0 (gC (.str []))) s4 <| opC (xGt g4 (xV2 fIdxS g0 (gC (.int .i64 (.ofNat 0))))) s7 <| opC (xGt g4 (xCall 66 [g7])) s8 <| opC (xPick g4 g8 (gC (.bool false))) s9 <| fEnd) (cIf g9 fEnd (cExit 0))) (cBlk (opC (xSlS g0 (some (gC (.int .i64 (.ofNat 1)))) none) s11 <| opC (xMv g11) s0 <| fEnd))))) (cSeq (cBlk (cLoop (cSeq (cSeq (opC (xV2 fNeq g0 (gC (.str []))) s13 <| opC (xGt g13 (xV1 (fLen true) g0)) s17 <| opC (xGt g13 (xV2 fSub g17 (gC (.int .i64 (.ofNat 1))))) s18 <| opC (xGt g13 (xV2 fIdxS g0 g18)) s19 <| opC (xGt g13 (xCall 66 [g19])) s20 <| opC (xPick g13 g20 (gC (.bool false))) s21 <| fEnd) (cIf g21 fEnd (cExit 0))) (cBlk (opC (xV1 (fLen true) g0) s24 <| opC (xV2 fSub g24 (gC (.int .i64 (.ofNat 1)))) s25 <| opC (xSlS g0 none (some g25)) s26 <| opC (xMv g26) s0 <| fEnd))))) (cSeq (opC (xMv g0) s2 <| fEnd) (cExit 0))))) [xMv g2]
-- lightwell/http.isBlank
def F66 : Go.Abs.F.Fn := mkFn [s0, s1, s2, s3, s4, s5, s6, s7, s8] (cSeq (opC (xMv (gC (.bool false))) s2 <| fEnd) (cSeq (opC (xV2 fEql g0 (gC (.int .u8 (.ofNat 32)))) s4 <| opC (xGf g4 (xV2 fEql g0 (gC (.int .u8 (.ofNat 9))))) s7 <| opC (xPick g4 (gC (.bool true)) g7) s8 <| opC (xMv g8) s2 <| fEnd) (cExit 0))) [xMv g2]
-- lightwell/http.isValue
def F53 : Go.Abs.F.Fn := mkFn [s0, s1, s2, s3, s4, s5, s6, s7, s8, s9, s10, s11] (cSeq (opC (xMv (gC (.bool false))) s2 <| fEnd) (cSeq (opC (xV2 fEql g0 (gC (.int .u8 (.ofNat 9)))) s4 <| opC (xGf g4 (xV2 fGeq g0 (gC (.int .u8 (.ofNat 32))))) s7 <| opC (xGf g4 (xMv g7)) s8 <| opC (xGt g8 (xV2 fNeq g0 (gC (.int .u8 (.ofNat 127))))) s10 <| opC (xGf g4 (xPick g8 g10 (gC (.bool false)))) s11 <| opC (xPick g4 (gC (.bool true)) g11) s12 <| opC (xMv g12) s2 <| fEnd) (cExit 0))) [xMv g2]
-- (*lightwell/http.Parser).chunkLine
def F43 : Go.Abs.F.Fn := mkFn [s0, s1, s2, s3, s4, s5, s6, s7, s8, s9, s10, s11] (cSeq (opC (xMv (gC (.int .i64 (.ofNat 0)))) s6 <| fEnd) (cSeq (cSeq (opC (xV1 fNot g2) s13 <| fEnd) (cIf g13 (cSeq (opC (xMv (gC (.int .i64 (.ofNat 22)))) s6 <| fEnd) (cExit 0)) fEnd)) (cSeq (opC (xCall 47 [g1, (gC (.int .u8 (.ofNat 59)))]) s16 <| opC (xV1 (fExt 0) g16) s17 <| opC (xV1 (fExt 1) g16) s18 <| opC (xV1 (fExt 2) g16) s19 <| opC (xMv g17) s7 <| opC (xMv g18) s8 <| fEnd) (cSeq (cSeq (opC (xV1 (fLen true) g7) s21 <| opC (xV2 fLss g21 (gC (.int .i64 (.ofNat 1)))) s22 <| opC (xGf g22 (xV1 (fLen true) g7)) s25 <| opC (xGf g22 (xV2 fGtr g25 (gC (.int .i64 (.ofNat 7))))) s26 <| opC (xPick g22 (gC (.bool true)) g26) s27 <| opC (xGf g27 (xCall 39 [g7, (gC (.func (.func 52) [] []))])) s30 <| opC (xGf g27 (xV1 fNot g30)) s31 <| opC (xPick g27 (gC (.bool true)) g31) s32 <| opC (xGf g32 (xCall 39 [g8, (gC (.func (.func 53) [] []))])) s35 <| opC (xGf g32 (xV1 fNot g35)) s36 <| opC (xPick g32 (gC (.bool true)) g36) s37 <| fEnd) (cIf g37 (cSeq (opC (xMv (gC (.int .i64 (.ofNat 22)))) s6 <| fEnd) (cExit 0)) fEnd)) (cSeq (opC (xMv (gC (.int .i64 (.ofNat 0)))) s10 <| fEnd) (cSeq (cSeq (opC (xV1 (fLen true) g7) s39 <| opC (xMv (gC (.int .i64 (.ofNat 0)))) s40 <| fEnd) (cBlk (cLoop (cSeq (opC (xV2 fLss g40 g39) s41 <| fEnd) (cSeq (cIf g41 fEnd (cExit 0)) (cSeq (cBlk (cSeq (opC (xMv g40) s11 <| fEnd) (opC (xV2 fMul g10 (gC (.int .i64 (.ofNat 16)))) s44 <| opC (xV2 fIdxS g7 g11) s47 <| opC (xCall 54 [g47]) s48 <| opC (xV2 fAdd g44 g48) s49 <| opC (xMv g49) s10 <| fEnd))) (opC (xV2 fAdd g40 (gC (.int .i64 (.ofNat 1)))) s50 <| opC (xMv g50) s40 <| fEnd))))))) (cSeq (cSeq (opC (xV2 fEql g10 (gC (.int .i64 (.ofNat 0)))) s52 <| fEnd) (cIf g52 (cSeq (opC (xV1 vNil g0) s54 <| opC (xV1 (fFld 1) g54) s55 <| op0 (xSt 1 g55 (gC (.int .i64 (.ofNat 7)))) <| fEnd) (cSeq (opC (xMv (gC (.int .i64 (.ofNat 0)))) s6 <| fEnd) (cExit 0))) fEnd)) (cSeq (cSeq (opC (xV1 vNil g0) s57 <| opC (xV1 (fFld 5) g57) s58 <| opC (xV1 (fFld 3) g58) s59 <| opC (xLd g59) s60 <| opC (xV1 (fLen false) g60) s61 <| opC (xV2 fAdd g61 g10) s63 <| opC (xV2 fGtr g63 (gC (.int .i64 (.ofNat 65536)))) s64 <| fEnd) (cIf g64 (cSeq (opC (xMv (gC (.int .i64 (.ofNat 3)))) s6 <| fEnd) (cExit 0)) fEnd)) (cSeq (opC (xV1 vNil g0) s67 <| opC (xV1 (fFld 10) g67) s68 <| op0 (xSt 1 g68 g10) <| fEnd) (cSeq (opC (xV1 vNil g0) s70 <| opC (xV1 (fFld 1) g70) s71 <| op0 (xSt 1 g71 (gC (.int .i64 (.ofNat 4)))) <| fEnd) (cSeq (opC (xMv (gC (.int .i64 (.ofNat 0)))) s6 <| fEnd) (cExit 0)))))))))))) [xMv g6]
-- lightwell/http.isHex
def F52 : Go.Abs.F.Fn := mkFn [s0, s1, s2, s3, s4, s5, s6, s7, s8, s9, s10, s11] (cSeq (opC (xMv (gC (.bool false))) s2 <| fEnd) (cSeq (opC (xCall 62 [g0]) s4 <| opC (xGf g4 (xV2 fGeq g0 (gC (.int .u8 (.ofNat 97))))) s7 <| opC (xGf g4 (xMv g7)) s8 <| opC (xGt g8 (xV2 fLeq g0 (gC (.int .u8 (.ofNat 102))))) s10 <| opC (xGf g4 (xPick g8 g10 (gC (.bool false)))) s11 <| opC (xPick g4 (gC (.bool true)) g11) s12 <| opC (xGf g12 (xV2 fGeq g0 (gC (.int .u8 (.ofNat 65))))) s15 <| opC (xGf g12 (xMv g15)) s16 <| opC (xGt g16 (xV2 fLeq g0 (gC (.int .u8 (.ofNat 70))))) s18 <| opC (xGf g12 (xPick g16 g18 (gC (.bool false)))) s19 <| opC (xPick g12 (gC (.bool true)) g19) s20 <| opC (xMv g20) s2 <| fEnd) (cExit 0))) [xMv g2]
-- lightwell/http.hexWorth
def F54 : Go.Abs.F.Fn := mkFn [s0, s1, s2, s3, s4, s5, s6, s7, s8, s9, s10, s11] (cSeq (opC (xMv (gC (.int .i64 (.ofNat 0)))) s2 <| fEnd) (cSeq (cBlk (cSeq (opC (xCall 62 [g0]) s5 <| opC (xMv g5) s3 <| fEnd) (cIf g3 (cSeq (opC (xV2 fSub g0 (gC (.int .u8 (.ofNat 48)))) s7 <| opC (xV1 (fConv .i64) g7) s8 <| opC (xMv g8) s2 <| fEnd) (cExit 1)) (cSeq (opC (xV2 fGeq g0 (gC (.int .u8 (.ofNat 97)))) s11 <| opC (xMv g11) s9 <| fEnd) (cIf g9 (cSeq (opC (xV2 fSub g0 (gC (.int .u8 (.ofNat 97)))) s13 <| opC (xV1 (fConv .i64) g13) s14 <| opC (xV2 fAdd g14 (gC (.int .i64 (.ofNat 10)))) s15 <| opC (xMv g15) s2 <| fEnd) (cExit 1)) fEnd))))) (cSeq (opC (xV2 fSub g0 (gC (.int .u8 (.ofNat 65)))) s17 <| opC (xV1 (fConv .i64) g17) s18 <| opC (xV2 fAdd g18 (gC (.int .i64 (.ofNat 10)))) s19 <| opC (xMv g19) s2 <| fEnd) (cExit 0)))) [xMv g2]
-- (*lightwell/http.Parser).trailerLine
def F44 : Go.Abs.F.Fn := mkFn [s0, s1, s2, s3, s4, s5, s6, s7, s8, s9, s10, s11] (cSeq (opC (xMv (gC (.int .i64 (.ofNat 0)))) s6 <| fEnd) (cSeq (cSeq (opC (xV2 fNeq g1 (gC (.str []))) s10 <| opC (xGt g10 (xV1 vNil g0)) s13 <| opC (xGt g10 (xV1 (fFld 11) g13)) s14 <| opC (xGt g10 (xLd g14)) s15 <| opC (xGt g10 (xV2 fGeq g15 (gC (.int .i64 (.ofNat 40))))) s16 <| opC (xPick g10 g16 (gC (.bool false))) s17 <| fEnd) (cIf g17 (cSeq (opC (xMv (gC (.int .i64 (.ofNat 3)))) s6 <| fEnd) (cExit 0)) fEnd)) (cSeq (cSeq (opC (xV1 fNot g2) s19 <| fEnd) (cIf g19 (cSeq (opC (xMv (gC (.int .i64 (.ofNat 21)))) s6 <| fEnd) (cExit 0)) fEnd)) (cSeq (cSeq (opC (xV2 fEql g1 (gC (.str []))) s21 <| fEnd) (cIf g21 (cSeq (opC (xCall 31 [g0]) s23 <| fEnd) (cSeq (opC (xMv (gC (.int .i64 (.ofNat 0)))) s6 <| fEnd) (cExit 0))) fEnd)) (cSeq (cSeq (opC (xCall 51 [g1]) s26 <| opC (xV1 (fExt 0) g26) s27 <| opC (xV1 (fExt 1) g26) s28 <| opC (xNew [(.str []), (.str [])]) s7 <| op0 (xSt 2 g7 g27) <| opC (xMv g28) s8 <| fEnd) (cSeq (opC (xV1 fNot g8) s30 <| fEnd) (cIf g30 (cSeq (opC (xMv (gC (.int .i64 (.ofNat 21)))) s6 <| fEnd) (cExit 0)) fEnd))) (cSeq (opC (xV1 vNil g0) s32 <| opC (xV1 (fFld 11) g32) s33 <| opC (xLd g33) s34 <| opC (xV2 fAdd g34 (gC (.int .i64 (.ofNat 1)))) s35 <| opC (xV1 vNil g0) s36 <| opC (xV1 (fFld 11) g36) s37 <| op0 (xSt 1 g37 g35) <| fEnd) (cSeq (opC (xMv (gC (.int .i64 (.ofNat 0)))) s6 <| fEnd) (cExit 0)))))))) [xMv g6]
-- (*lightwell/http.Parser).Next
def F12 : Go.Abs.F.Fn := mkFn [s0, s1, s2, s3, s4, s5, s6, s7, s8, s9, s10, s11] (cSeq (opC (xNew [(.str []), (.str []), (.slice none 0 (.known 0)), (.slice none 0 (.known 0)), (.bool false)]) s2 <| opC (xMv (gC (.bool false))) s3 <| fEnd) (cSeq (cSeq (opC (xCall 20 [g0]) s6 <| opC (xV1 fNot g6) s7 <| opC (xGf g7 (xV1 vNil g0)) s10 <| opC (xGf g7 (xV1 (fFld 13) g10)) s11 <| opC (xGf g7 (xLd g11)) s12 <| opC (xGf g7 (xV1 (fLen false) g12)) s13 <| opC (xGf g7 (xV2 fEql g13 (gC (.int .i64 (.ofNat 0))))) s14 <| opC (xPick g7 (gC (.bool true)) g14) s15 <| fEnd) (cIf g15 (cSeq (opC (xBuild [(.str []), (.str []), (.slice none 0 (.known 0)), (.slice none 0 (.known 0)), (.bool false)] []) s16 <| op0 (xSt 5 g2 g16) <| opC (xMv (gC (.bool false))) s3 <| fEnd) (cExit 0)) fEnd)) (cSeq (opC (xV1 vNil g0) s18 <| opC (xV1 (fFld 13) g18) s19 <| opC (xLd g19) s20 <| opC (xV2 (fIdxA 5) g20 (gC (.int .i64 (.ofNat 0)))) s21 <| opC (xLdA 5 g21) s22 <| opC (xNew [(.str []), (.str []), (.slice none 0 (.known 0)), (.slice none 0 (.known 0)), (.bool false)]) s4 <| op0 (xSt 5 g4 g22) <| fEnd) (cSeq (opC (xV1 vNil g0) s24 <| opC (xV1 (fFld 13) g24) s25 <| opC (xLd g25) s26 <| opC (xBuild [(.str []), (.str []), (.slice none 0 (.known 0)), (.slice none 0 (.known 0)), (.bool false)] []) s27 <| opC (xV2 (fIdxA 5) g26 (gC (.int .i64 (.ofNat 0)))) s28 <| op0 (xSt 5 g28 g27) <| fEnd) (cSeq (opC (xV1 vNil g0) s31 <| opC (xV1 (fFld 13) g31) s32 <| opC (xLd g32) s33 <| opC (xSl 5 g33 (some (gC (.int .i64 (.ofNat 1)))) none none) s34 <| opC (xV1 vNil g0) s35 <| opC (xV1 (fFld 13) g35) s36 <| op0 (xSt 1 g36 g34) <| fEnd) (cSeq (cTr [⟨(xMv g0), (some s37), some []⟩, ⟨(xV1 vNil g37), (some s38), some []⟩, ⟨(xV1 (fFld 14) g38), (some s39), some []⟩, ⟨(xLd g39), (some s40), some [9]⟩, ⟨(xLdA 5 g4), (some s41), some []⟩, ⟨(xCall 23 [g41]), (some s42), some []⟩, ⟨(xV2 fSub g40 g42), (some s43), some []⟩, ⟨(xV1 vNil g37), (some s44), some []⟩, ⟨(xV1 (fFld 14) g44), (some s45), some []⟩, ⟨(xSt 1 g45 g43), none, some []⟩]) (cSeq (opC (xLdA 5 g4) s46 <| op0 (xSt 5 g2 g46) <| opC (xMv (gC (.bool true))) s3 <| fEnd) (cExit 0)))))))) [xLdA 5 g2, xMv g3]
-- lightwell/lightwelllaw27.one
def F17 : Go.Abs.F.Fn := mkFn [s0, s1, s2, s3, s4, s5, s6, s7, s8, s9, s10, s11] (cSeq (opC (xMv (gC (.bool false))) s4 <| fEnd) (cSeq (opC (xCall 19 [g0]) s9 <| opC (xV1 (fExt 0) g9) s10 <| opC (xV1 (fExt 1) g9) s11 <| opC (xMv g10) s5 <| opC (xMv g11) s6 <| fEnd) (cSeq (opC (xV2 fEql g5 (gC (.int .i64 (.ofNat 0)))) s13 <| opC (xGt g13 (xV1 (fLen false) g6)) s16 <| opC (xGt g13 (xV2 fEql g16 (gC (.int .i64 (.ofNat 1))))) s17 <| opC (xPick g13 g17 (gC (.bool false))) s18 <| opC (xGt g18 (xV2 (fIdxA 5) g6 (gC (.int .i64 (.ofNat 0))))) s21 <| opC (xGt g18 (xV1 (fFld 3) g21)) s22 <| opC (xGt g18 (xLd g22)) s23 <| opC (xGt g18 (xBS g23)) s24 <| opC (xGt g18 (xV2 fEql g24 g1)) s26 <| opC (xPick g18 g26 (gC (.bool false))) s27 <| opC (xMv g27) s4 <| fEnd) (cExit 0)))) [xMv g4]
-- lightwell/lightwelllaw27.wrong
def F15 : Go.Abs.F.Fn := mkFn [s0, s1, s2, s3, s4, s5, s6, s7, s8, s9, s10, s11] (cSeq (opC (xMv (gC (.bool false))) s4 <| fEnd) (cSeq (opC (xCall 19 [g0]) s9 <| opC (xV1 (fExt 0) g9) s10 <| opC (xV1 (fExt 1) g9) s11 <| opC (xMv g10) s5 <| opC (xMv g11) s6 <| fEnd) (cSeq (opC (xV2 fEql g5 g1) s14 <| opC (xGt g14 (xV1 (fLen false) g6)) s17 <| opC (xGt g14 (xV2 fEql g17 (gC (.int .i64 (.ofNat 0))))) s18 <| opC (xPick g14 g18 (gC (.bool false))) s19 <| opC (xMv g19) s4 <| fEnd) (cExit 0)))) [xMv g4]
-- lightwell/lightwelllaw27.awake
def c6 (X0 : ACode) : AFn := ⟨67, (.seq (.reg [⟨(some 0), .mv (.c (.bool false)), none⟩]) (.seq (.reg [⟨(some 4), .call 19 [(.c (.str [71, 69, 84, 32, 47, 32, 72, 84, 84, 80, 47, 49, 46, 49, 13, 10, 72, 111, 115, 116, 58, 32, 97, 13, 10, 13, 10]))], none⟩, ⟨(some 3), .mv (.t 4), none⟩, ⟨(some 5), .extract 0 (.t 3), none⟩, ⟨(some 6), .extract 1 (.t 3), none⟩, ⟨(some 1), .mv (.t 5), none⟩, ⟨(some 2), .mv (.t 6), none⟩]) (.seq X0 .ret))), [.t 0]⟩
def G6 (Y0 : K) : Go.Abs.F.Fn := mkFn [s0, s1, s2, s3, s4, s5, s6, s7, s8, s9, s10, s11] (cSeq (opC (xMv (gC (.bool false))) s0 <| fEnd) (cSeq (opC (xCall 19 [(gC (.str [71, 69, 84, 32, 47, 32, 72, 84, 84, 80, 47, 49, 46, 49, 13, 10, 72, 111, 115, 116, 58, 32, 97, 13, 10, 13, 10]))]) s4 <| opC (xV1 (fExt 0) g4) s5 <| opC (xV1 (fExt 1) g4) s6 <| opC (xMv g5) s1 <| opC (xMv g6) s2 <| fEnd) (cSeq Y0 (cExit 0)))) [xMv g0]
def x6_0 : ACode := (.reg [⟨(some 7), .mv (.t 1), none⟩, ⟨(some 8), .bin .eql (.t 7) (.c (.int .i64 (.ofNat 0))), none⟩, ⟨(some 9), .mv (.t 8), none⟩, ⟨(some 10), .mv (.t 2), (some (9, true))⟩, ⟨(some 11), .len false (.t 10), (some (9, true))⟩, ⟨(some 12), .bin .eql (.t 11) (.c (.int .i64 (.ofNat 1))), (some (9, true))⟩, ⟨(some 13), .pick (.t 9) (.t 12) (.c (.bool false)), none⟩, ⟨(some 14), .mv (.t 13), none⟩, ⟨(some 15), .mv (.t 2), (some (14, true))⟩, ⟨(some 16), .idxA 5 (.t 15) (.c (.int .i64 (.ofNat 0))), (some (14, true))⟩, ⟨(some 17), .fieldA 0 (.t 16), (some (14, true))⟩, ⟨(some 18), .load false 1 (.t 17), (some (14, true))⟩, ⟨(some 19), .bin .eql (.t 18) (.c (.str [71, 69, 84])), (some (14, true))⟩, ⟨(some 20), .pick (.t 14) (.t 19) (.c (.bool false)), none⟩, ⟨(some 21), .mv (.t 20), none⟩, ⟨(some 22), .mv (.t 2), (some (21, true))⟩, ⟨(some 23), .idxA 5 (.t 22) (.c (.int .i64 (.ofNat 0))), (some (21, true))⟩, ⟨(some 24), .fieldA 1 (.t 23), (some (21, true))⟩, ⟨(some 25), .load false 1 (.t 24), (some (21, true))⟩, ⟨(some 26), .bin .eql (.t 25) (.c (.str [47])), (some (21, true))⟩, ⟨(some 27), .pick (.t 21) (.t 26) (.c (.bool false)), none⟩, ⟨(some 28), .mv (.t 27), none⟩, ⟨(some 29), .mv (.t 2), (some (28, true))⟩, ⟨(some 30), .idxA 5 (.t 29) (.c (.int .i64 (.ofNat 0))), (some (28, true))⟩, ⟨(some 31), .fieldA 2 (.t 30), (some (28, true))⟩, ⟨(some 32), .load false 1 (.t 31), (some (28, true))⟩, ⟨(some 33), .len false (.t 32), (some (28, true))⟩, ⟨(some 34), .bin .eql (.t 33) (.c (.int .i64 (.ofNat 1))), (some (28, true))⟩, ⟨(some 35), .pick (.t 28) (.t 34) (.c (.bool false)), none⟩, ⟨(some 36), .mv (.t 35), none⟩, ⟨(some 37), .mv (.t 2), (some (36, true))⟩, ⟨(some 38), .idxA 5 (.t 37) (.c (.int .i64 (.ofNat 0))), (some (36, true))⟩, ⟨(some 39), .fieldA 2 (.t 38), (some (36, true))⟩, ⟨(some 40), .load false 1 (.t 39), (some (36, true))⟩, ⟨(some 41), .idxA 2 (.t 40) (.c (.int .i64 (.ofNat 0))), (some (36, true))⟩, ⟨(some 42), .load true 2 (.t 41), (some (36, true))⟩, ⟨(some 43), .build [(.str []), (.str [])] [(0, 1, (.c (.str [104, 111, 115, 116]))), (1, 1, (.c (.str [97])))], (some (36, true))⟩, ⟨(some 44), .pf (.eqS false [(0, .str), (1, .str)]) [(.t 42), (.t 43)], (some (36, true))⟩, ⟨(some 45), .pick (.t 36) (.t 44) (.c (.bool false)), none⟩, ⟨(some 46), .mv (.t 45), none⟩, ⟨(some 47), .call 17 [(.c (.str [71, 69, 84, 32, 47, 32, 72, 84, 84, 80, 47, 49, 46, 49, 13, 10, 72, 111, 115, 116, 58, 32, 97, 13, 10, 67, 111, 110, 116, 101, 110, 116, 45, 76, 101, 110, 103, 116, 104, 58, 32, 51, 13, 10, 13, 10, 97, 98, 99])), (.c (.str [97, 98, 99]))], (some (46, true))⟩, ⟨(some 48), .pick (.t 46) (.t 47) (.c (.bool false)), none⟩, ⟨(some 49), .mv (.t 48), none⟩, ⟨(some 50), .call 17 [(.c (.str [71, 69, 84, 32, 47, 32, 72, 84, 84, 80, 47, 49, 46, 49, 13, 10, 72, 111, 115, 116, 58, 32, 97, 13, 10, 84, 114, 97, 110, 115, 102, 101, 114, 45, 69, 110, 99, 111, 100, 105, 110, 103, 58, 32, 99, 104, 117, 110, 107, 101, 100, 13, 10, 13, 10, 50, 13, 10, 97, 98, 13, 10, 49, 59, 120, 61, 121, 13, 10, 99, 13, 10, 48, 13, 10, 13, 10])), (.c (.str [97, 98, 99]))], (some (49, true))⟩, ⟨(some 51), .pick (.t 49) (.t 50) (.c (.bool false)), none⟩, ⟨(some 52), .mv (.t 51), none⟩, ⟨(some 53), .call 15 [(.c (.str [71, 69, 84, 32, 47, 13, 10])), (.c (.int .i64 (.ofNat 20)))], (some (52, true))⟩, ⟨(some 54), .pick (.t 52) (.t 53) (.c (.bool false)), none⟩, ⟨(some 55), .mv (.t 54), none⟩, ⟨(some 56), .call 15 [(.c (.str [71, 69, 84, 32, 47, 32, 72, 84, 84, 80, 47, 49, 46, 49, 13, 10, 13, 10])), (.c (.int .i64 (.ofNat 21)))], (some (55, true))⟩, ⟨(some 57), .pick (.t 55) (.t 56) (.c (.bool false)), none⟩, ⟨(some 58), .mv (.t 57), none⟩, ⟨(some 59), .call 15 [(.c (.str [71, 69, 84, 32, 47, 32, 72, 84, 84, 80, 47, 49, 46, 49, 10])), (.c (.int .i64 (.ofNat 20)))], (some (58, true))⟩, ⟨(some 60), .pick (.t 58) (.t 59) (.c (.bool false)), none⟩, ⟨(some 61), .mv (.t 60), none⟩, ⟨(some 62), .call 15 [(.c (.str [71, 69, 84, 32, 47, 32, 72, 84, 84, 80, 47, 49, 46, 49, 13, 10, 72, 111, 115, 116, 58, 32, 97, 13, 10, 97, 32, 98, 58, 32, 99, 13, 10])), (.c (.int .i64 (.ofNat 21)))], (some (61, true))⟩, ⟨(some 63), .pick (.t 61) (.t 62) (.c (.bool false)), none⟩, ⟨(some 64), .mv (.t 63), none⟩, ⟨(some 65), .call 15 [(.c (.str [71, 69, 84, 32, 47, 32, 72, 84, 84, 80, 47, 49, 46, 49, 13, 10, 72, 111, 115, 116, 58, 32, 97, 13, 10, 84, 114, 97, 110, 115, 102, 101, 114, 45, 69, 110, 99, 111, 100, 105, 110, 103, 58, 32, 99, 104, 117, 110, 107, 101, 100, 13, 10, 13, 10, 53, 32, 13, 10])), (.c (.int .i64 (.ofNat 22)))], (some (64, true))⟩, ⟨(some 66), .pick (.t 64) (.t 65) (.c (.bool false)), none⟩, ⟨(some 0), .mv (.t 66), none⟩])
def y6_0 : K := opC (xV2 fEql g1 (gC (.int .i64 (.ofNat 0)))) s8 <| opC (xGt g8 (xV1 (fLen false) g2)) s11 <| opC (xGt g8 (xV2 fEql g11 (gC (.int .i64 (.ofNat 1))))) s12 <| opC (xPick g8 g12 (gC (.bool false))) s13 <| opC (xGt g13 (xV2 (fIdxA 5) g2 (gC (.int .i64 (.ofNat 0))))) s16 <| opC (xGt g13 (xV1 (fFld 0) g16)) s17 <| opC (xGt g13 (xLd g17)) s18 <| opC (xGt g13 (xV2 fEql g18 (gC (.str [71, 69, 84])))) s19 <| opC (xPick g13 g19 (gC (.bool false))) s20 <| opC (xGt g20 (xV2 (fIdxA 5) g2 (gC (.int .i64 (.ofNat 0))))) s23 <| opC (xGt g20 (xV1 (fFld 1) g23)) s24 <| opC (xGt g20 (xLd g24)) s25 <| opC (xGt g20 (xV2 fEql g25 (gC (.str [47])))) s26 <| opC (xPick g20 g26 (gC (.bool false))) s27 <| opC (xGt g27 (xV2 (fIdxA 5) g2 (gC (.int .i64 (.ofNat 0))))) s30 <| opC (xGt g27 (xV1 (fFld 2) g30)) s31 <| opC (xGt g27 (xLd g31)) s32 <| opC (xGt g27 (xV1 (fLen false) g32)) s33 <| opC (xGt g27 (xV2 fEql g33 (gC (.int .i64 (.ofNat 1))))) s34 <| opC (xPick g27 g34 (gC (.bool false))) s35 <| opC (xGt g35 (xV2 (fIdxA 5) g2 (gC (.int .i64 (.ofNat 0))))) s38 <| opC (xGt g35 (xV1 (fFld 2) g38)) s39 <| opC (xGt g35 (xLd g39)) s40 <| opC (xGt g35 (xV2 (fIdxA 2) g40 (gC (.int .i64 (.ofNat 0))))) s41 <| opC (xGt g35 (xLdA 2 g41)) s42 <| opC (xGt g35 (xBuild [(.str []), (.str [])] [⟨0, 1, (gC (.str [104, 111, 115, 116]))⟩, ⟨1, 1, (gC (.str [97]))⟩])) s43 <| opC (xGt g35 (xVN (fPf (.eqS false [(0, .str), (1, .str)])) [g42, g43])) s44 <| opC (xPick g35 g44 (gC (.bool false))) s45 <| opC (xGt g45 (xCall 17 [(gC (.str [71, 69, 84, 32, 47, 32, 72, 84, 84, 80, 47, 49, 46, 49, 13, 10, 72, 111, 115, 116, 58, 32, 97, 13, 10, 67, 111, 110, 116, 101, 110, 116, 45, 76, 101, 110, 103, 116, 104, 58, 32, 51, 13, 10, 13, 10, 97, 98, 99])), (gC (.str [97, 98, 99]))])) s47 <| opC (xPick g45 g47 (gC (.bool false))) s48 <| opC (xGt g48 (xCall 17 [(gC (.str [71, 69, 84, 32, 47, 32, 72, 84, 84, 80, 47, 49, 46, 49, 13, 10, 72, 111, 115, 116, 58, 32, 97, 13, 10, 84, 114, 97, 110, 115, 102, 101, 114, 45, 69, 110, 99, 111, 100, 105, 110, 103, 58, 32, 99, 104, 117, 110, 107, 101, 100, 13, 10, 13, 10, 50, 13, 10, 97, 98, 13, 10, 49, 59, 120, 61, 121, 13, 10, 99, 13, 10, 48, 13, 10, 13, 10])), (gC (.str [97, 98, 99]))])) s50 <| opC (xPick g48 g50 (gC (.bool false))) s51 <| opC (xGt g51 (xCall 15 [(gC (.str [71, 69, 84, 32, 47, 13, 10])), (gC (.int .i64 (.ofNat 20)))])) s53 <| opC (xPick g51 g53 (gC (.bool false))) s54 <| opC (xGt g54 (xCall 15 [(gC (.str [71, 69, 84, 32, 47, 32, 72, 84, 84, 80, 47, 49, 46, 49, 13, 10, 13, 10])), (gC (.int .i64 (.ofNat 21)))])) s56 <| opC (xPick g54 g56 (gC (.bool false))) s57 <| opC (xGt g57 (xCall 15 [(gC (.str [71, 69, 84, 32, 47, 32, 72, 84, 84, 80, 47, 49, 46, 49, 10])), (gC (.int .i64 (.ofNat 20)))])) s59 <| opC (xPick g57 g59 (gC (.bool false))) s60 <| opC (xGt g60 (xCall 15 [(gC (.str [71, 69, 84, 32, 47, 32, 72, 84, 84, 80, 47, 49, 46, 49, 13, 10, 72, 111, 115, 116, 58, 32, 97, 13, 10, 97, 32, 98, 58, 32, 99, 13, 10])), (gC (.int .i64 (.ofNat 21)))])) s62 <| opC (xPick g60 g62 (gC (.bool false))) s63 <| opC (xGt g63 (xCall 15 [(gC (.str [71, 69, 84, 32, 47, 32, 72, 84, 84, 80, 47, 49, 46, 49, 13, 10, 72, 111, 115, 116, 58, 32, 97, 13, 10, 84, 114, 97, 110, 115, 102, 101, 114, 45, 69, 110, 99, 111, 100, 105, 110, 103, 58, 32, 99, 104, 117, 110, 107, 101, 100, 13, 10, 13, 10, 53, 32, 13, 10])), (gC (.int .i64 (.ofNat 22)))])) s65 <| opC (xPick g63 g65 (gC (.bool false))) s66 <| opC (xMv g66) s0 <| fEnd
theorem zl6_0 : resL (dOf 21081983381388969608) [⟨(some 7), .mv (.t 1), none⟩, ⟨(some 8), .bin .eql (.t 7) (.c (.int .i64 (.ofNat 0))), none⟩, ⟨(some 9), .mv (.t 8), none⟩, ⟨(some 10), .mv (.t 2), (some (9, true))⟩, ⟨(some 11), .len false (.t 10), (some (9, true))⟩, ⟨(some 12), .bin .eql (.t 11) (.c (.int .i64 (.ofNat 1))), (some (9, true))⟩, ⟨(some 13), .pick (.t 9) (.t 12) (.c (.bool false)), none⟩, ⟨(some 14), .mv (.t 13), none⟩, ⟨(some 15), .mv (.t 2), (some (14, true))⟩, ⟨(some 16), .idxA 5 (.t 15) (.c (.int .i64 (.ofNat 0))), (some (14, true))⟩, ⟨(some 17), .fieldA 0 (.t 16), (some (14, true))⟩, ⟨(some 18), .load false 1 (.t 17), (some (14, true))⟩, ⟨(some 19), .bin .eql (.t 18) (.c (.str [71, 69, 84])), (some (14, true))⟩, ⟨(some 20), .pick (.t 14) (.t 19) (.c (.bool false)), none⟩, ⟨(some 21), .mv (.t 20), none⟩, ⟨(some 22), .mv (.t 2), (some (21, true))⟩, ⟨(some 23), .idxA 5 (.t 22) (.c (.int .i64 (.ofNat 0))), (some (21, true))⟩, ⟨(some 24), .fieldA 1 (.t 23), (some (21, true))⟩, ⟨(some 25), .load false 1 (.t 24), (some (21, true))⟩, ⟨(some 26), .bin .eql (.t 25) (.c (.str [47])), (some (21, true))⟩, ⟨(some 27), .pick (.t 21) (.t 26) (.c (.bool false)), none⟩, ⟨(some 28), .mv (.t 27), none⟩, ⟨(some 29), .mv (.t 2), (some (28, true))⟩, ⟨(some 30), .idxA 5 (.t 29) (.c (.int .i64 (.ofNat 0))), (some (28, true))⟩, ⟨(some 31), .fieldA 2 (.t 30), (some (28, true))⟩, ⟨(some 32), .load false 1 (.t 31), (some (28, true))⟩, ⟨(some 33), .len false (.t 32), (some (28, true))⟩, ⟨(some 34), .bin .eql (.t 33) (.c (.int .i64 (.ofNat 1))), (some (28, true))⟩, ⟨(some 35), .pick (.t 28) (.t 34) (.c (.bool false)), none⟩, ⟨(some 36), .mv (.t 35), none⟩, ⟨(some 37), .mv (.t 2), (some (36, true))⟩, ⟨(some 38), .idxA 5 (.t 37) (.c (.int .i64 (.ofNat 0))), (some (36, true))⟩, ⟨(some 39), .fieldA 2 (.t 38), (some (36, true))⟩, ⟨(some 40), .load false 1 (.t 39), (some (36, true))⟩, ⟨(some 41), .idxA 2 (.t 40) (.c (.int .i64 (.ofNat 0))), (some (36, true))⟩, ⟨(some 42), .load true 2 (.t 41), (some (36, true))⟩, ⟨(some 43), .build [(.str []), (.str [])] [(0, 1, (.c (.str [104, 111, 115, 116]))), (1, 1, (.c (.str [97])))], (some (36, true))⟩, ⟨(some 44), .pf (.eqS false [(0, .str), (1, .str)]) [(.t 42), (.t 43)], (some (36, true))⟩, ⟨(some 45), .pick (.t 36) (.t 44) (.c (.bool false)), none⟩, ⟨(some 46), .mv (.t 45), none⟩, ⟨(some 47), .call 17 [(.c (.str [71, 69, 84, 32, 47, 32, 72, 84, 84, 80, 47, 49, 46, 49, 13, 10, 72, 111, 115, 116, 58, 32, 97, 13, 10, 67, 111, 110, 116, 101, 110, 116, 45, 76, 101, 110, 103, 116, 104, 58, 32, 51, 13, 10, 13, 10, 97, 98, 99])), (.c (.str [97, 98, 99]))], (some (46, true))⟩, ⟨(some 48), .pick (.t 46) (.t 47) (.c (.bool false)), none⟩, ⟨(some 49), .mv (.t 48), none⟩, ⟨(some 50), .call 17 [(.c (.str [71, 69, 84, 32, 47, 32, 72, 84, 84, 80, 47, 49, 46, 49, 13, 10, 72, 111, 115, 116, 58, 32, 97, 13, 10, 84, 114, 97, 110, 115, 102, 101, 114, 45, 69, 110, 99, 111, 100, 105, 110, 103, 58, 32, 99, 104, 117, 110, 107, 101, 100, 13, 10, 13, 10, 50, 13, 10, 97, 98, 13, 10, 49, 59, 120, 61, 121, 13, 10, 99, 13, 10, 48, 13, 10, 13, 10])), (.c (.str [97, 98, 99]))], (some (49, true))⟩, ⟨(some 51), .pick (.t 49) (.t 50) (.c (.bool false)), none⟩, ⟨(some 52), .mv (.t 51), none⟩, ⟨(some 53), .call 15 [(.c (.str [71, 69, 84, 32, 47, 13, 10])), (.c (.int .i64 (.ofNat 20)))], (some (52, true))⟩, ⟨(some 54), .pick (.t 52) (.t 53) (.c (.bool false)), none⟩, ⟨(some 55), .mv (.t 54), none⟩, ⟨(some 56), .call 15 [(.c (.str [71, 69, 84, 32, 47, 32, 72, 84, 84, 80, 47, 49, 46, 49, 13, 10, 13, 10])), (.c (.int .i64 (.ofNat 21)))], (some (55, true))⟩, ⟨(some 57), .pick (.t 55) (.t 56) (.c (.bool false)), none⟩, ⟨(some 58), .mv (.t 57), none⟩, ⟨(some 59), .call 15 [(.c (.str [71, 69, 84, 32, 47, 32, 72, 84, 84, 80, 47, 49, 46, 49, 10])), (.c (.int .i64 (.ofNat 20)))], (some (58, true))⟩, ⟨(some 60), .pick (.t 58) (.t 59) (.c (.bool false)), none⟩, ⟨(some 61), .mv (.t 60), none⟩, ⟨(some 62), .call 15 [(.c (.str [71, 69, 84, 32, 47, 32, 72, 84, 84, 80, 47, 49, 46, 49, 13, 10, 72, 111, 115, 116, 58, 32, 97, 13, 10, 97, 32, 98, 58, 32, 99, 13, 10])), (.c (.int .i64 (.ofNat 21)))], (some (61, true))⟩, ⟨(some 63), .pick (.t 61) (.t 62) (.c (.bool false)), none⟩, ⟨(some 64), .mv (.t 63), none⟩, ⟨(some 65), .call 15 [(.c (.str [71, 69, 84, 32, 47, 32, 72, 84, 84, 80, 47, 49, 46, 49, 13, 10, 72, 111, 115, 116, 58, 32, 97, 13, 10, 84, 114, 97, 110, 115, 102, 101, 114, 45, 69, 110, 99, 111, 100, 105, 110, 103, 58, 32, 99, 104, 117, 110, 107, 101, 100, 13, 10, 13, 10, 53, 32, 13, 10])), (.c (.int .i64 (.ofNat 22)))], (some (64, true))⟩, ⟨(some 66), .pick (.t 64) (.t 65) (.c (.bool false)), none⟩, ⟨(some 0), .mv (.t 66), none⟩] [] = [⟨.bin .eql (.t 1) (.c (.int .i64 (.ofNat 0))), none, (some 8)⟩, ⟨.len false (.t 2), (some (8, true)), (some 11)⟩, ⟨.bin .eql (.t 11) (.c (.int .i64 (.ofNat 1))), (some (8, true)), (some 12)⟩, ⟨.pick (.t 8) (.t 12) (.c (.bool false)), none, (some 13)⟩, ⟨.idxA 5 (.t 2) (.c (.int .i64 (.ofNat 0))), (some (13, true)), (some 16)⟩, ⟨.fieldA 0 (.t 16), (some (13, true)), (some 17)⟩, ⟨.load false 1 (.t 17), (some (13, true)), (some 18)⟩, ⟨.bin .eql (.t 18) (.c (.str [71, 69, 84])), (some (13, true)), (some 19)⟩, ⟨.pick (.t 13) (.t 19) (.c (.bool false)), none, (some 20)⟩, ⟨.idxA 5 (.t 2) (.c (.int .i64 (.ofNat 0))), (some (20, true)), (some 23)⟩, ⟨.fieldA 1 (.t 23), (some (20, true)), (some 24)⟩, ⟨.load false 1 (.t 24), (some (20, true)), (some 25)⟩, ⟨.bin .eql (.t 25) (.c (.str [47])), (some (20, true)), (some 26)⟩, ⟨.pick (.t 20) (.t 26) (.c (.bool false)), none, (some 27)⟩, ⟨.idxA 5 (.t 2) (.c (.int .i64 (.ofNat 0))), (some (27, true)), (some 30)⟩, ⟨.fieldA 2 (.t 30), (some (27, true)), (some 31)⟩, ⟨.load false 1 (.t 31), (some (27, true)), (some 32)⟩, ⟨.len false (.t 32), (some (27, true)), (some 33)⟩, ⟨.bin .eql (.t 33) (.c (.int .i64 (.ofNat 1))), (some (27, true)), (some 34)⟩, ⟨.pick (.t 27) (.t 34) (.c (.bool false)), none, (some 35)⟩, ⟨.idxA 5 (.t 2) (.c (.int .i64 (.ofNat 0))), (some (35, true)), (some 38)⟩, ⟨.fieldA 2 (.t 38), (some (35, true)), (some 39)⟩, ⟨.load false 1 (.t 39), (some (35, true)), (some 40)⟩, ⟨.idxA 2 (.t 40) (.c (.int .i64 (.ofNat 0))), (some (35, true)), (some 41)⟩, ⟨.load true 2 (.t 41), (some (35, true)), (some 42)⟩, ⟨.build [(.str []), (.str [])] [(0, 1, (.c (.str [104, 111, 115, 116]))), (1, 1, (.c (.str [97])))], (some (35, true)), (some 43)⟩, ⟨.pf (.eqS false [(0, .str), (1, .str)]) [(.t 42), (.t 43)], (some (35, true)), (some 44)⟩, ⟨.pick (.t 35) (.t 44) (.c (.bool false)), none, (some 45)⟩, ⟨.call 17 [(.c (.str [71, 69, 84, 32, 47, 32, 72, 84, 84, 80, 47, 49, 46, 49, 13, 10, 72, 111, 115, 116, 58, 32, 97, 13, 10, 67, 111, 110, 116, 101, 110, 116, 45, 76, 101, 110, 103, 116, 104, 58, 32, 51, 13, 10, 13, 10, 97, 98, 99])), (.c (.str [97, 98, 99]))], (some (45, true)), (some 47)⟩, ⟨.pick (.t 45) (.t 47) (.c (.bool false)), none, (some 48)⟩, ⟨.call 17 [(.c (.str [71, 69, 84, 32, 47, 32, 72, 84, 84, 80, 47, 49, 46, 49, 13, 10, 72, 111, 115, 116, 58, 32, 97, 13, 10, 84, 114, 97, 110, 115, 102, 101, 114, 45, 69, 110, 99, 111, 100, 105, 110, 103, 58, 32, 99, 104, 117, 110, 107, 101, 100, 13, 10, 13, 10, 50, 13, 10, 97, 98, 13, 10, 49, 59, 120, 61, 121, 13, 10, 99, 13, 10, 48, 13, 10, 13, 10])), (.c (.str [97, 98, 99]))], (some (48, true)), (some 50)⟩, ⟨.pick (.t 48) (.t 50) (.c (.bool false)), none, (some 51)⟩, ⟨.call 15 [(.c (.str [71, 69, 84, 32, 47, 13, 10])), (.c (.int .i64 (.ofNat 20)))], (some (51, true)), (some 53)⟩, ⟨.pick (.t 51) (.t 53) (.c (.bool false)), none, (some 54)⟩, ⟨.call 15 [(.c (.str [71, 69, 84, 32, 47, 32, 72, 84, 84, 80, 47, 49, 46, 49, 13, 10, 13, 10])), (.c (.int .i64 (.ofNat 21)))], (some (54, true)), (some 56)⟩, ⟨.pick (.t 54) (.t 56) (.c (.bool false)), none, (some 57)⟩, ⟨.call 15 [(.c (.str [71, 69, 84, 32, 47, 32, 72, 84, 84, 80, 47, 49, 46, 49, 10])), (.c (.int .i64 (.ofNat 20)))], (some (57, true)), (some 59)⟩, ⟨.pick (.t 57) (.t 59) (.c (.bool false)), none, (some 60)⟩, ⟨.call 15 [(.c (.str [71, 69, 84, 32, 47, 32, 72, 84, 84, 80, 47, 49, 46, 49, 13, 10, 72, 111, 115, 116, 58, 32, 97, 13, 10, 97, 32, 98, 58, 32, 99, 13, 10])), (.c (.int .i64 (.ofNat 21)))], (some (60, true)), (some 62)⟩, ⟨.pick (.t 60) (.t 62) (.c (.bool false)), none, (some 63)⟩, ⟨.call 15 [(.c (.str [71, 69, 84, 32, 47, 32, 72, 84, 84, 80, 47, 49, 46, 49, 13, 10, 72, 111, 115, 116, 58, 32, 97, 13, 10, 84, 114, 97, 110, 115, 102, 101, 114, 45, 69, 110, 99, 111, 100, 105, 110, 103, 58, 32, 99, 104, 117, 110, 107, 101, 100, 13, 10, 13, 10, 53, 32, 13, 10])), (.c (.int .i64 (.ofNat 22)))], (some (63, true)), (some 65)⟩, ⟨.pick (.t 63) (.t 65) (.c (.bool false)), none, (some 66)⟩, ⟨.mv (.t 66), none, (some 0)⟩] := by kernel_rfl
theorem zh6_0 : fCode (dOf 21081983381388969608) [] x6_0 = y6_0 := hv_reg zl6_0 (by kernel_rfl)
def F6 : Go.Abs.F.Fn := G6 y6_0
theorem za6 : cFn Go.Proofs.Try.prog 6 = some (c6 x6_0) := by kernel_rfl
theorem zg6 (X0 : ACode) : fFn (dOf 21081983381388969608) (c6 X0) = G6 (fCode (dOf 21081983381388969608) [] X0) := by kernel_rfl
theorem k6 : cF Go.Proofs.Try.prog 21081983381388969608 6 = some F6 := cF_of za6 ((zg6 x6_0).trans (by rw [zh6_0]; rfl))
theorem k19 : cF Go.Proofs.Try.prog 13227366400 19 = some F19 := by kernel_rfl
theorem k7 : cF Go.Proofs.Try.prog 304 7 = some F7 := by kernel_rfl
theorem k8 : cF Go.Proofs.Try.prog 2531350675712 8 = some F8 := by kernel_rfl
theorem k20 : cF Go.Proofs.Try.prog 1128 20 = some F20 := by kernel_rfl
theorem k21 : cF Go.Proofs.Try.prog 19541048144007428059168 21 = some F21 := by kernel_rfl
theorem k31 : cF Go.Proofs.Try.prog 21609054208 31 = some F31 := by kernel_rfl
theorem k23 : cF Go.Proofs.Try.prog 17196646400 23 = some F23 := by kernel_rfl
theorem k22 : cF Go.Proofs.Try.prog 1853744 22 = some F22 := by kernel_rfl
theorem k32 : cF Go.Proofs.Try.prog 8788847105491379689600 32 = some F32 := by kernel_rfl
theorem k38 : cF Go.Proofs.Try.prog 8 38 = some F38 := by kernel_rfl
theorem k39 : cF Go.Proofs.Try.prog 15424 39 = some F39 := by kernel_rfl
theorem k40 : cF Go.Proofs.Try.prog 8 40 = some F40 := by kernel_rfl
theorem k41 : cF Go.Proofs.Try.prog 1198043971086170804224 41 = some F41 := by kernel_rfl
theorem k47 : cF Go.Proofs.Try.prog 453376 47 = some F47 := by kernel_rfl
theorem k55 : cF Go.Proofs.Try.prog 96 55 = some F55 := by kernel_rfl
theorem k63 : cF Go.Proofs.Try.prog 96 63 = some F63 := by kernel_rfl
theorem k48 : cF Go.Proofs.Try.prog 104 48 = some F48 := by kernel_rfl
theorem k56 : cF Go.Proofs.Try.prog 26496208 56 = some F56 := by kernel_rfl
theorem k62 : cF Go.Proofs.Try.prog 104 62 = some F62 := by kernel_rfl
theorem k49 : cF Go.Proofs.Try.prog 104 49 = some F49 := by kernel_rfl
theorem k42 : cF Go.Proofs.Try.prog 2370836992 42 = some F42 := by kernel_rfl
theorem k50 : cF Go.Proofs.Try.prog 392386209636776303143965696 50 = some F50 := by kernel_rfl
theorem k57 : cF Go.Proofs.Try.prog 273678592 57 = some F57 := by kernel_rfl
theorem k58 : cF Go.Proofs.Try.prog 149327936 58 = some F58 := by kernel_rfl
theorem k59 : cF Go.Proofs.Try.prog 8817002048 59 = some F59 := by kernel_rfl
theorem k60 : cF Go.Proofs.Try.prog 16448 60 = some F60 := by kernel_rfl
theorem k64 : cF Go.Proofs.Try.prog 18575115274379862016 64 = some F64 := by kernel_rfl
theorem k65 : cF Go.Proofs.Try.prog 1640 65 = some F65 := by kernel_rfl
theorem k51 : cF Go.Proofs.Try.prog 681681280 51 = some F51 := by kernel_rfl
theorem k61 : cF Go.Proofs.Try.prog 146920552 61 = some F61 := by kernel_rfl
theorem k66 : cF Go.Proofs.Try.prog 104 66 = some F66 := by kernel_rfl
theorem k53 : cF Go.Proofs.Try.prog 616 53 = some F53 := by kernel_rfl
theorem k43 : cF Go.Proofs.Try.prog 705671396461231788544 43 = some F43 := by kernel_rfl
theorem k52 : cF Go.Proofs.Try.prog 156264 52 = some F52 := by kernel_rfl
theorem k54 : cF Go.Proofs.Try.prog 70736 54 = some F54 := by kernel_rfl
theorem k44 : cF Go.Proofs.Try.prog 2740197888 44 = some F44 := by kernel_rfl
theorem k12 : cF Go.Proofs.Try.prog 1619133216 12 = some F12 := by kernel_rfl
theorem k17 : cF Go.Proofs.Try.prog 35180928 17 = some F17 := by kernel_rfl
theorem k15 : cF Go.Proofs.Try.prog 110976 15 = some F15 := by kernel_rfl
def t0_0 : Option Go.Abs.F.Fn := none
def t0_1 : N8 (Option Go.Abs.F.Fn) := .mk t0_0 t0_0 t0_0 t0_0 t0_0 t0_0 t0_0 t0_0
def t0_2 : N8 (N8 (Option Go.Abs.F.Fn)) := .mk t0_1 t0_1 t0_1 t0_1 t0_1 t0_1 t0_1 t0_1
def t0_3 : N8 (N8 (N8 (Option Go.Abs.F.Fn))) := .mk t0_2 t0_2 t0_2 t0_2 t0_2 t0_2 t0_2 t0_2
def t0_4 : N8 (N8 (N8 (N8 (Option Go.Abs.F.Fn)))) := .mk t0_3 t0_3 t0_3 t0_3 t0_3 t0_3 t0_3 t0_3
def tabT : N8 (N8 (N8 (N8 (Option Go.Abs.F.Fn)))) := (.mk (.mk (.mk (.mk t0_0 t0_0 t0_0 t0_0 t0_0 t0_0 (some F6) (some F7)) (.mk (some F8) t0_0 t0_0 t0_0 (some F12) t0_0 t0_0 (some F15)) (.mk t0_0 (some F17) t0_0 (some F19) (some F20) (some F21) (some F22) (some F23)) (.mk t0_0 t0_0 t0_0 t0_0 t0_0 t0_0 t0_0 (some F31)) (.mk (some F32) t0_0 t0_0 t0_0 t0_0 t0_0 (some F38) (some F39)) (.mk (some F40) (some F41) (some F42) (some F43) (some F44) t0_0 t0_0 (some F47)) (.mk (some F48) (some F49) (some F50) (some F51) (some F52) (some F53) (some F54) (some F55)) (.mk (some F56) (some F57) (some F58) (some F59) (some F60) (some F61) (some F62) (some F63))) (.mk (.mk (some F64) (some F65) (some F66) t0_0 t0_0 t0_0 t0_0 t0_0) t0_1 t0_1 t0_1 t0_1 t0_1 t0_1 t0_1) t0_2 t0_2 t0_2 t0_2 t0_2 t0_2) t0_3 t0_3 t0_3 t0_3 t0_3 t0_3 t0_3)
def tab : Tab := tabT
theorem tab_ok : TabF Go.Proofs.Try.prog noNat tab := tabF_of (l := [(6, F6), (19, F19), (7, F7), (8, F8), (20, F20), (21, F21), (31, F31), (23, F23), (22, F22), (32, F32), (38, F38), (39, F39), (40, F40), (41, F41), (47, F47), (55, F55), (63, F63), (48, F48), (56, F56), (62, F62), (49, F49), (42, F42), (50, F50), (57, F57), (58, F58), (59, F59), (60, F60), (64, F64), (65, F65), (51, F51), (61, F61), (66, F66), (53, F53), (43, F43), (52, F52), (54, F54), (44, F44), (12, F12), (17, F17), (15, F15)]) (tabF_cons (tabF_cons (tabF_cons (tabF_cons (tabF_cons (tabF_cons (tabF_cons (tabF_cons (tabF_cons (tabF_cons (tabF_cons (tabF_cons (tabF_cons (tabF_cons (tabF_cons (tabF_cons (tabF_cons (tabF_cons (tabF_cons (tabF_cons (tabF_cons (tabF_cons (tabF_cons (tabF_cons (tabF_cons (tabF_cons (tabF_cons (tabF_cons (tabF_cons (tabF_cons (tabF_cons (tabF_cons (tabF_cons (tabF_cons (tabF_cons (tabF_cons (tabF_cons (tabF_cons (tabF_cons (tabF_cons (tabF_nil) rfl rfl k15) rfl rfl k17) rfl rfl k12) rfl rfl k44) rfl rfl k54) rfl rfl k52) rfl rfl k43) rfl rfl k53) rfl rfl k66) rfl rfl k61) rfl rfl k51) rfl rfl k65) rfl rfl k64) rfl rfl k60) rfl rfl k59) rfl rfl k58) rfl rfl k57) rfl rfl k50) rfl rfl k42) rfl rfl k49) rfl rfl k62) rfl rfl k56) rfl rfl k48) rfl rfl k63) rfl rfl k55) rfl rfl k47) rfl rfl k41) rfl rfl k40) rfl rfl k39) rfl rfl k38) rfl rfl k32) rfl rfl k22) rfl rfl k23) rfl rfl k31) rfl rfl k21) rfl rfl k20) rfl rfl k8) rfl rfl k7) rfl rfl k19) rfl rfl k6) (by kernel_rfl)
end
end Go.Abs.TAwk27
/- Symbolic runs of the abstract machine, part 12: rows of bytes with room; small whole numbers. Plain Lean. -/
namespace Go.Abs.S
open Go.Abs
theorem wrapU32 {a : Int} (h1 : 0 ≤ a) (h2 : a < 4294967296) : IntKind.u32.wrap a = a := by
  rw [IntKind.wrap_u32]; omega
theorem wrapU64' {a : Int} (h1 : 0 ≤ a) (h2 : a < 18446744073709551616) : IntKind.u64.wrap a = a := by
  rw [IntKind.wrap_u64]; omega
theorem quoU32 {a : Nat} (b : Nat) (h : 0 < b) (ha : a < 4294967296) : aBin .quo (.int .u32 (a : Int)) (.int .u32 (b : Int)) = some (.int .u32 ((a / b : Nat) : Int)) := by
  rw [bin_quo _ _ _ (by omega)]
  have : (a : Int).tdiv b = ((a / b : Nat) : Int) := rfl
  have h2 := Nat.div_le_self a b
  rw [this, wrapU32 (Int.natCast_nonneg _) (by generalize a / b = q at *; omega)]
theorem remU32 {a : Nat} (b : Nat) (h : 0 < b) : aBin .rem (.int .u32 (a : Int)) (.int .u32 (b : Int)) = some (.int .u32 ((a % b : Nat) : Int)) := by
  rw [bin_rem _ _ _ (by omega)]; rfl
theorem quoU64 {a : Nat} (b : Nat) (h : 0 < b) (ha : a < 18446744073709551616) : aBin .quo (.int .u64 (a : Int)) (.int .u64 (b : Int)) = some (.int .u64 ((a / b : Nat) : Int)) := by
  rw [bin_quo _ _ _ (by omega)]
  have : (a : Int).tdiv b = ((a / b : Nat) : Int) := rfl
  have h2 := Nat.div_le_self a b
  rw [this, wrapU64' (Int.natCast_nonneg _) (by generalize a / b = q at *; omega)]
theorem remU64 {a : Nat} (b : Nat) (h : 0 < b) : aBin .rem (.int .u64 (a : Int)) (.int .u64 (b : Int)) = some (.int .u64 ((a % b : Nat) : Int)) := by
  rw [bin_rem _ _ _ (by omega)]; rfl
theorem shrN (k k' : IntKind) (a : Nat) {b : Nat} (hb : b ≤ k.bits) : aBin .shr (.int k (a : Int)) (.int k' (b : Int)) = some (.int k ((a / 2 ^ b : Nat) : Int)) := by
  rw [bin_shr, Nat.min_eq_left hb]
  congr 2
  have : ((2 : Int) ^ b) = ((2 ^ b : Nat) : Int) := by simp
  rw [this, Int.fdiv_eq_ediv_of_nonneg _ (Int.natCast_nonneg _)]
  rfl
theorem bin_andU64 {a b : Nat} (ha : a < 2 ^ 64) (hb : b < 2 ^ 64) : aBin .and (.int .u64 (a : Int)) (.int .u64 (b : Int)) = some (.int .u64 ((a &&& b : Nat) : Int)) := by
  have e : (BitVec.ofInt IntKind.u64.bits (a : Int) &&& BitVec.ofInt IntKind.u64.bits (b : Int)).toNat = a &&& b := by
    rw [BitVec.toNat_and, ofInt_nat, ofInt_nat]
    have h1 : a % 2 ^ IntKind.u64.bits = a := Nat.mod_eq_of_lt (by simp only [IntKind.bits]; omega)
    have h2 : b % 2 ^ IntKind.u64.bits = b := Nat.mod_eq_of_lt (by simp only [IntKind.bits]; omega)
    rw [h1, h2]
  simp only [aBin, isShift, cond_false, if_true, aIntF_eq, aInt, e]
  have h3 := Nat.and_lt_two_pow a hb
  rw [wrapU64' (by omega) (by omega)]
/-- bytes as cells -/
def byts (s : List UInt8) : List AVal := s.map fun b => .int .u8 (b.toNat : Int)
theorem byts_len (s : List UInt8) : (byts s).length = s.length := by simp [byts]
theorem byts_append (s t : List UInt8) : byts (s ++ t) = byts s ++ byts t := by simp [byts]
theorem byts_one (s : List UInt8) : (byts s).all AVal.one = true := by simp [byts, AVal.one]
theorem byts_get {s : List UInt8} {i : Nat} {b : UInt8} (h : s[i]? = some b) : (byts s)[i]? = some (.int .u8 (b.toNat : Int)) := by simp [byts, h]
theorem bytesOf_byts : ∀ s : List UInt8, bytesOf (byts s) = some s
  | [] => rfl
  | b :: s => by
    have h := bytesOf_byts s
    show (match bytesOf (byts s) with | some l => some (UInt8.ofNat (Int.toNat (b.toNat : Int)) :: l) | none => none) = _
    rw [h]
    simp
theorem src_str (H : AHeap) (s : List UInt8) : aSrc 1 H (.str s) = some (s.length, byts s) := _root_.id rfl
/-- so many bytes of a row, with room up to its end -/
def bufS (b cap n : Nat) : AVal := .slice (some ⟨b, cap, 0⟩) n (.known cap)
def Buf (H : AHeap) (b cap : Nat) (s : List UInt8) : Prop := ∃ l, Row H b l ∧ l.length = cap ∧ l.take s.length = byts s
theorem bufS_one (b cap n : Nat) : (bufS b cap n).one = true := rfl
theorem buf_len (b cap n : Nat) : aLenK false (bufS b cap n) = some (.int .i64 (n : Int)) := _root_.id rfl
theorem buf_idx {b cap n : Nat} (k : IntKind) {i : Nat} (h : i < n) : aIdxA 1 (bufS b cap n) (.int k (i : Int)) = some (cellR b cap i) := by
  show (bif Nat.blt i n then some (AVal.ptr (some ⟨b, cap, 0 + i * 1⟩)) else none) = _
  have : Nat.blt i n = true := by simpa [Nat.blt_eq] using h
  rw [this, Nat.zero_add, Nat.mul_one]; rfl
theorem rep_one (z : AVal) : ∀ k, rep [z] k = List.replicate k z
  | 0 => rfl
  | k + 1 => by simp only [rep, rep_one z k, List.replicate_succ]; rfl
theorem buf_make {H : AHeap} (z : AVal) (cap : Nat) (hc : cap ≤ 1000000) : ∃ H', aMake 1 [z] H (.int .i64 (0 : Int)) (.int .i64 (cap : Int)) = some (bufS H.next cap 0, H') ∧ Buf H' H.next cap [] ∧ H'.next = H.next + 1 ∧ ∀ c, c ≠ H.next → H'.get c = H.get c := by
  refine ⟨H.push (.cells (List.replicate cap z) 0 false), ?_, ⟨_, row_push _ _, by simp, by simp [byts]⟩, rfl, fun c hc => by rw [AHeap.get_push, if_neg hc]⟩
  have h0 : natOf (.int .i64 (0 : Int)) = some 0 := rfl
  have h1 : natOf (.int .i64 (cap : Int)) = some cap := by
    show natOf (.int .i64 (Int.ofNat cap)) = some cap
    simp only [natOf, Nat.ble_eq_true_of_le (show cap ≤ 9223372036854775807 by omega), cond_true]
  simp only [aMake, h0, h1, rep_one, Nat.ble_eq_true_of_le (Nat.zero_le _), Nat.ble_eq_true_of_le (show 1 * cap ≤ 281474976710656 by omega), Bool.and_self, cond_true, List.length_replicate]
  rfl
theorem ap_buf {H : AHeap} {b cap : Nat} {s x : List UInt8} (hb : Buf H b cap s) {t : AVal} (hs : aSrc 1 H t = some (x.length, byts x)) (hx : x ≠ []) (hf : s.length + x.length ≤ cap) (hc : cap ≤ 1000000) :
    ∃ H', aAppend 1 1 H (bufS b cap s.length) t = some (bufS b cap (s ++ x).length, H') ∧ Buf H' b cap (s ++ x) ∧ H'.next = H.next ∧ ∀ c, c ≠ b → H'.get c = H.get c := by
  obtain ⟨l, ⟨low, h1, h2⟩, h3, h4⟩ := hb
  have hl : 0 < x.length := List.length_pos_iff.2 hx
  have e0 : Nat.beq x.length 0 = false := by rw [beq_dec]; exact decide_eq_false (by omega)
  refine ⟨H.set b (.cells (l.take s.length ++ (byts x ++ l.drop (s.length + x.length))) cap false), ?_, ⟨_, ⟨cap, by rw [AHeap.get_set, if_pos rfl], ?_⟩, ?_, ?_⟩, rfl, fun c hc => by rw [AHeap.get_set, if_neg hc]⟩
  · have hw : wrCells H ⟨b, cap, 0 + s.length * 1⟩ (byts x) = some (H.set b (.cells (l.take s.length ++ (byts x ++ l.drop (s.length + x.length))) cap false)) := by
      unfold wrCells
      simp only [h1, Nat.zero_add, Nat.mul_one, Nat.ble_eq_true_of_le (show low ≤ cap by omega), byts_len, Nat.ble_eq_true_of_le hf, byts_one, h3, Nat.beq_refl, Bool.and_self, cond_true]
    simp only [aAppend, hs, e0, cond_false, bufS, Nat.add_zero, Nat.mul_one, Nat.ble_eq_true_of_le (show 2 * (s.length + x.length) ≤ 281474976710656 by omega), Nat.ble_eq_true_of_le (show s.length + x.length ≤ 9223372036854775807 by omega), byts_len, Nat.beq_refl, byts_one, Bool.and_self, show Nat.blt 0 1 = true from rfl, cond_true, Nat.ble_eq_true_of_le hf, List.length_append]
    rw [Nat.mul_one] at hw
    rw [hw]
  · simp [byts]; omega
  · simp [byts]; omega
  · rw [byts_append, ← h4, ← List.append_assoc]
    have e : (List.take s.length l ++ byts x).length = (s ++ x).length := by simp [byts]; omega
    rw [← e, List.take_left]
theorem bs_buf {H : AHeap} {b cap : Nat} {s : List UInt8} (hb : Buf H b cap s) (hf : s.length ≤ cap) : aBS H (bufS b cap s.length) = some (.str s) := by
  obtain ⟨l, ⟨low, h1, h2⟩, h3, h4⟩ := hb
  have hr : rdCells H ⟨b, cap, 0⟩ s.length = some (byts s) := by
    unfold rdCells
    simp only [h1, Nat.ble_eq_true_of_le (show low ≤ cap by omega), Nat.ble_eq_true_of_le (show cap ≤ l.length by omega), Nat.zero_add, Nat.ble_eq_true_of_le hf, Bool.and_self, cond_true, List.drop_zero, h4]
  simp only [aBS, bufS, hr, bytesOf_byts]
theorem buf_src {H : AHeap} {b cap : Nat} {s : List UInt8} (hb : Buf H b cap s) (hf : s.length ≤ cap) : aSrc 1 H (bufS b cap s.length) = some (s.length, byts s) := by
  obtain ⟨l, ⟨low, h1, h2⟩, h3, h4⟩ := hb
  have hr : rdCells H ⟨b, cap, 0⟩ s.length = some (byts s) := by
    unfold rdCells
    simp only [h1, Nat.ble_eq_true_of_le (show low ≤ cap by omega), Nat.ble_eq_true_of_le (show cap ≤ l.length by omega), Nat.zero_add, Nat.ble_eq_true_of_le hf, Bool.and_self, cond_true, List.drop_zero, h4]
  simp only [aSrc, bufS, Nat.mul_one, hr]
theorem Buf.same {H H' : AHeap} {b cap : Nat} {s : List UInt8} (h : Buf H b cap s) (e : H'.get b = H.get b) : Buf H' b cap s := by
  obtain ⟨l, h1, h2⟩ := h
  exact ⟨l, h1.same e, h2⟩
theorem slA_buf {b cap k : Nat} (h : k ≤ cap) (hc : 0 < cap) : aSlArr cap 1 (cellR b cap 0) none (some (.int .i64 (k : Int))) none = some (bufS b cap k) := by
  have e : Nat.beq cap 0 = false := by rw [beq_dec]; exact decide_eq_false (by omega)
  simp only [aSlArr, cellR, aBnd, bdO, bd_nat h, Option.getD_none, e, cond_false, Nat.zero_mul, Nat.add_zero, Nat.sub_zero, bufS]
/-- a row that is only read: global g -/
def Glo (H : AHeap) (g : Nat) (l : List AVal) : Prop := H.get g = some (.cells l 0 true)
theorem gl_idx {H : AHeap} {g n : Nat} {l : List AVal} (h : Glo H g l) (hn : l.length = n) {i : Nat} (hi : i < n) (k : IntKind) : aHf (.gIdx g n 1) H [.int k (i : Int)] = some (cellR g n i, H) := by
  have : gPtr H g = some (cellR g n 0) := by
    unfold gPtr
    rw [h, ← hn]; rfl
  simp only [aHf, aGIdx, this, arr_idx hi]
theorem gl_load {H : AHeap} {g n : Nat} {l : List AVal} (h : Glo H g l) (hn : l.length = n) {i : Nat} {x : AVal} (hi : l[i]? = some x) : oLoad false 1 H (cellR g n i) = some x := by
  subst hn
  have hlt := (List.getElem?_eq_some_iff.1 hi).1
  obtain ⟨y, h4, h5⟩ := rd_at (rd_whole h (Nat.zero_le _)) hlt
  rw [hi] at h4
  simp only [Option.some.injEq] at h4
  subst h4
  simp only [Nat.zero_add] at h5
  simp only [oLoad, cellR, h5, cond_false]
theorem Glo.ext {n g : Nat} {H H' : AHeap} {l : List AVal} (h : Glo H g l) (hg : g < n) (e : Ext n H H') : Glo H' g l := (e.old g hg).trans h
theorem row_storeN {H : AHeap} {b n : Nat} {l : List AVal} (h : Row H b l) (hn : l.length = n) {xs : List AVal} (hx : xs.length = n) (ho : xs.all AVal.one = true) :
    ∃ H', oStore n H (cellR b n 0) (.agg xs) = some H' ∧ Row H' b xs ∧ H'.next = H.next ∧ ∀ c, c ≠ b → H'.get c = H.get c := by
  subst hn
  obtain ⟨low, h1, h2⟩ := h
  refine ⟨H.set b (.cells xs l.length false), ?_, ⟨l.length, by rw [AHeap.get_set, if_pos rfl], by omega⟩, rfl, fun c hc => by rw [AHeap.get_set, if_neg hc]⟩
  simp only [oStore, cellR, cells_agg, hx, Nat.beq_refl, cond_true]
  unfold wrCells
  simp only [h1, hx, Nat.ble_eq_true_of_le h2, Nat.beq_refl, Nat.zero_add, Nat.ble_eq_true_of_le (Nat.le_refl _), ho, Bool.and_self, cond_true, List.take_zero, List.nil_append, List.drop_length, List.append_nil]
theorem row_loadN {H : AHeap} {b n : Nat} {l : List AVal} (h : Row H b l) (hn : l.length = n) : oLoad true n H (cellR b n 0) = some (.agg l) := by
  subst hn
  obtain ⟨low, h1, h2⟩ := h
  simp only [oLoad, cellR, rd_whole h1 h2, cond_true]
theorem fld0 (b n o : Nat) : aField o (cellR b n 0) = some (cellR b n o) := by
  simp only [aField, cellR, Nat.zero_add]
theorem fin_c1 {T : Env} {H : AHeap} (g : Bool) (n i : Nat) (K : AVal → AHeap → Prop) {v : AVal} (h : oLoad g n H (T i) = some v) (hk : K v H) : fin [.cell g n i] K .ret T H := by
  simp only [fin, wRes, h, OptP_some]; exact hk
theorem fin_c2 {T : Env} {H : AHeap} (g g' : Bool) (n n' i i' : Nat) (K : AVal → AHeap → Prop) {v v' : AVal} (h : oLoad g n H (T i) = some v) (h' : oLoad g' n' H (T i') = some v') (hk : K (.tuple [v, v']) H) : fin [.cell g n i, .cell g' n' i'] K .ret T H := by
  simp only [fin, wRes, h, h', OptP_some]; exact hk
theorem fin_n0 {T : Env} {H : AHeap} (K : AVal → AHeap → Prop) : fin [] K .normal T H = K (.tuple []) H := by
  simp only [fin, wRes, OptP_some]; rfl
theorem Row.ne_glo {H : AHeap} {b g : Nat} {l m : List AVal} (h : Row H b l) (k : Glo H g m) : g ≠ b := by
  rintro rfl
  obtain ⟨low, h1, _⟩ := h
  have k' : H.get g = some (.cells m 0 true) := k
  rw [h1] at k'
  simp at k'
end Go.Abs.S
/- Symbolic runs of the abstract machine, part 15: rows of bytes that grow by texts. Plain Lean. -/
namespace Go.Abs.S
open Go.Abs
theorem byts_ones (s : List UInt8) : ∀ x ∈ byts s, x.one = true := by
  intro x hx
  exact List.all_eq_true.1 (byts_one s) x hx
def Apart (s : AVal) (c : Nat) : Prop := ∀ a m r, s = .slice (some a) m r → c ≠ a.b
theorem apart_nil (c : Nat) : Apart nilS c := by intro a m r h; simp [nilS] at h
theorem App.apart {n : Nat} {H : AHeap} {s : AVal} {l : List AVal} (h : App n H s l) {c : Nat} (hc : H.next ≤ c) : Apart s c := by
  intro a m r he
  rcases h with ⟨rfl, _⟩ | ⟨b, low, rfl, _, h3, _⟩
  · simp [nilS] at he
  · simp only [AVal.slice.injEq, Option.some.injEq] at he
    rw [← he.1]; simp only; omega
theorem App.apart_lt {n : Nat} {H : AHeap} {s : AVal} {l : List AVal} (h : App n H s l) {c : Nat} (hc : c < n) : Apart s c := by
  intro a m r he
  rcases h with ⟨rfl, _⟩ | ⟨b, low, rfl, h2, _⟩
  · simp [nilS] at he
  · simp only [AVal.slice.injEq, Option.some.injEq] at he
    rw [← he.1]; simp only; omega
theorem ap_app {n : Nat} {H : AHeap} {s : AVal} {t xs : List UInt8} (h : App n H s (byts t)) (hn : n ≤ H.next) {y : AVal} (hs : aSrc 1 H y = some (xs.length, byts xs)) (hb : t.length + xs.length ≤ 100000000) :
    ∃ s' H', aAppend 1 1 H s y = some (s', H') ∧ App n H' s' (byts (t ++ xs)) ∧ Ext n H H' ∧ ∀ c, c < H.next → Apart s c → H'.get c = H.get c ∧ Apart s' c := by
  by_cases h0 : xs = []
  · subst h0
    simp only [List.append_nil]
    have e0 : Nat.beq ([] : List UInt8).length 0 = true := rfl
    refine ⟨s, H, ?_, h, Ext.refl _ _, fun c _ hc => ⟨rfl, hc⟩⟩
    simp only [aAppend, hs, e0, cond_true]
    rcases h with ⟨rfl, _⟩ | ⟨b, low, rfl, _⟩ <;> rfl
  have hl : 0 < xs.length := List.length_pos_iff.2 h0
  have e0 : Nat.beq xs.length 0 = false := by rw [beq_dec]; exact decide_eq_false (by omega)
  have c1 : ∀ k, k = t.length → (Nat.blt 0 1 && (Nat.ble ((2 * (k + xs.length) + 0) * 1) 281474976710656 && (Nat.ble (k + xs.length) 9223372036854775807 && (Nat.beq (byts xs).length (xs.length * 1) && (byts xs).all AVal.one)))) = true := by
    intro k hk
    subst hk
    simp only [Nat.add_zero, Nat.mul_one, Nat.ble_eq_true_of_le (show 2 * (t.length + xs.length) ≤ 281474976710656 by omega), Nat.ble_eq_true_of_le (show t.length + xs.length ≤ 9223372036854775807 by omega), byts_len, Nat.beq_refl, byts_one, Bool.and_self]
    rfl
  rcases h with ⟨rfl, h2⟩ | ⟨b, low, rfl, h2, h3, h4, h5⟩
  · have ht : t = [] := by simpa [byts] using h2
    subst ht
    refine ⟨.slice (some ⟨H.next, xs.length, 0⟩) xs.length (.open_ 1), H.push (.cells (byts xs) 0 false), ?_, .inr ⟨H.next, 0, ?_, hn, Nat.lt_succ_self _, ?_, Nat.zero_le _⟩, (Ext.refl n H).push hn _, fun c hc _ => ⟨get_push_lt hc, fun a m r he => by simp only [AVal.slice.injEq, Option.some.injEq] at he; rw [← he.1]; simp only; omega⟩⟩
    · simp only [aAppend, hs, e0, cond_false, nilS]
      rw [c1 0 rfl, cond_true, byts_len]
    · simp only [List.nil_append, byts_len]
    · rw [AHeap.get_push]; exact if_pos rfl
  · rw [byts_len] at h5 ⊢
    have hgrow : growCells H ⟨b, t.length, 0⟩ t.length (byts xs) = some (H.set b (.cells (byts t ++ byts xs) low false)) := by
      have e : t.length = (byts t).length := (byts_len t).symm
      unfold growCells
      simp only [h4, Nat.ble_eq_true_of_le (show low ≤ t.length from h5), Nat.ble_eq_true_of_le (show t.length ≤ (byts t).length by omega), Nat.ble_eq_true_of_le (Nat.zero_le _), Nat.ble_eq_true_of_le (show t.length + 1 ≤ t.length + xs.length by omega), ← e, Nat.beq_refl, byts_len, byts_one, Bool.and_self, cond_true, List.take_length, Nat.ble_eq_true_of_le (Nat.le_refl _)]
      congr 4
      rw [e, List.take_length]
    refine ⟨.slice (some ⟨b, t.length + xs.length, 0⟩) (t.length + xs.length) (.open_ 1), H.set b (.cells (byts t ++ byts xs) low false), ?_, .inr ⟨b, low, ?_, h2, h3, ?_, ?_⟩, (Ext.refl n H).set h2 _, fun c hc hd => ⟨by rw [AHeap.get_set, if_neg (hd _ _ _ rfl)], fun a m r he => by simp only [AVal.slice.injEq, Option.some.injEq] at he; rw [← he.1]; show c ≠ b; exact hd _ _ _ rfl⟩⟩
    · simp only [aAppend, hs, e0, cond_false]
      rw [c1 t.length rfl, cond_true]
      have e1 : Nat.ble (t.length + xs.length) t.length = false := by rw [ble_dec]; exact decide_eq_false (by omega)
      simp only [Nat.beq_refl, cond_true, Nat.zero_add, Nat.mul_one, e1, cond_false, hgrow, byts_len]
    · simp only [byts_len, List.length_append]
    · rw [AHeap.get_set, if_pos rfl, byts_append]
    · simp only [byts_len, List.length_append]; omega
theorem sb_app (H : AHeap) (s : List UInt8) : ∃ v H', aSB H (.str s) = some (v, H') ∧ App H.next H' v (byts s) ∧ Ext H.next H H' := by
  refine ⟨_, _, rfl, .inr ⟨H.next, 0, ?_, Nat.le_refl _, Nat.lt_succ_self _, ?_, Nat.zero_le _⟩, (Ext.refl _ H).push (Nat.le_refl _) _⟩
  · simp only [byts_len]
  · rw [AHeap.get_push]; exact if_pos rfl
theorem bs_cel {n : Nat} {H : AHeap} {s : AVal} {t : List UInt8} (h : Cel n H s (byts t)) : aBS H s = some (.str t) := by
  rcases h with ⟨rfl, h2⟩ | ⟨a, r, rfl, _, h3⟩
  · have ht : t = [] := by simpa [byts] using h2
    subst ht; rfl
  · simp only [aBS, h3, bytesOf_byts]
theorem byts_len' {n : Nat} {H : AHeap} {s : AVal} {t : List UInt8} (h : Cel n H s (byts t)) : aLenK false s = some (.int .i64 (t.length : Int)) := by
  have := h.len; rwa [byts_len] at this
theorem byts_src {n : Nat} {H : AHeap} {s : AVal} {t : List UInt8} (h : Cel n H s (byts t)) : aSrc 1 H s = some (t.length, byts t) := by
  have := h.src; rwa [byts_len] at this
theorem App.less {m n : Nat} {H : AHeap} {s : AVal} {l : List AVal} (h : App n H s l) (hm : m ≤ n) : App m H s l := by
  rcases h with h | ⟨b, low, h1, h2, h3⟩
  · exact .inl h
  · exact .inr ⟨b, low, h1, by omega, h3⟩
/-- texts, as a literal slice has them -/
def strs (l : List (List UInt8)) : List AVal := l.map .str
theorem strs_get {l : List (List UInt8)} {i : Nat} {s : List UInt8} (h : l[i]? = some s) : (strs l)[i]? = some (.str s) := by simp [strs, h]
theorem build_s1 (H : AHeap) (s : List UInt8) : ∃ H', aBuildSl 1 [.str []] H [(0, 1, .str s)] = some (slR H.next 1 (.known 1), H') ∧ Row H' H.next (strs [s]) ∧ H'.next = H.next + 1 ∧ Ext H.next H H' :=
  ⟨H.push (.cells [.str s] 0 false), rfl, row_push H [.str s], rfl, (Ext.refl _ H).push (Nat.le_refl _) _⟩
theorem build_s2 (H : AHeap) (s t : List UInt8) : ∃ H', aBuildSl 2 [.str []] H [(0, 1, .str s), (1, 1, .str t)] = some (slR H.next 2 (.known 2), H') ∧ Row H' H.next (strs [s, t]) ∧ H'.next = H.next + 1 ∧ Ext H.next H H' :=
  ⟨H.push (.cells [.str s, .str t] 0 false), rfl, row_push H [.str s, .str t], rfl, (Ext.refl _ H).push (Nat.le_refl _) _⟩
/-- pairs of texts that came in: a list of headers -/
def Prs (n : Nat) (H : AHeap) (s : AVal) (l : List (List UInt8 × List UInt8)) : Prop :=
  (s = nilS ∧ l = []) ∨ ∃ a r, s = .slice (some a) l.length r ∧ a.b < n ∧ ∀ i p, l[i]? = some p → rdCells H ⟨a.b, a.lim, a.o + i * 2⟩ 2 = some [.str p.1, .str p.2]
theorem Prs.len {n : Nat} {H : AHeap} {s : AVal} {l : List (List UInt8 × List UInt8)} (h : Prs n H s l) : aLenK false s = some (.int .i64 (l.length : Int)) := by
  rcases h with ⟨rfl, rfl⟩ | ⟨a, r, rfl, _⟩ <;> rfl
theorem Prs.ext {n : Nat} {H H' : AHeap} {s : AVal} {l : List (List UInt8 × List UInt8)} (h : Prs n H s l) (e : Ext n H H') : Prs n H' s l := by
  rcases h with h | ⟨a, r, h1, h2, h3⟩
  · exact .inl h
  · exact .inr ⟨a, r, h1, h2, fun i p hp => by rw [rd_congr (a := ⟨a.b, a.lim, a.o + i * 2⟩) (e.old _ h2)]; exact h3 i p hp⟩
theorem Prs.at {n : Nat} {H : AHeap} {s : AVal} {l : List (List UInt8 × List UInt8)} (h : Prs n H s l) {i : Nat} {p : List UInt8 × List UInt8} (hp : l[i]? = some p) :
    ∃ a, aIdxA 2 s (.int .i64 (i : Int)) = some (.ptr (some a)) ∧ oLoad true 2 H (.ptr (some a)) = some (.agg [.str p.1, .str p.2]) ∧ oLoad false 1 H (.ptr (some ⟨a.b, a.lim, a.o⟩)) = some (.str p.1) ∧ oLoad false 1 H (.ptr (some ⟨a.b, a.lim, a.o + 1⟩)) = some (.str p.2)
      ∧ aField 0 (.ptr (some a)) = some (.ptr (some ⟨a.b, a.lim, a.o⟩)) ∧ aField 1 (.ptr (some a)) = some (.ptr (some ⟨a.b, a.lim, a.o + 1⟩)) := by
  have hlt := (List.getElem?_eq_some_iff.1 hp).1
  rcases h with ⟨_, rfl⟩ | ⟨a, r, rfl, _, h3⟩
  · simp at hlt
  · have h4 := h3 i p hp
    obtain ⟨x, g1, g2⟩ := rd_at h4 (i := 0) (by omega)
    obtain ⟨y, g3, g4⟩ := rd_at h4 (i := 1) (by omega)
    simp only [List.getElem?_cons_zero, Option.some.injEq] at g1
    simp only [List.getElem?_cons_succ, List.getElem?_cons_zero, Option.some.injEq] at g3
    subst g1 g3
    simp only [Nat.add_zero] at g2
    refine ⟨⟨a.b, a.lim, a.o + i * 2⟩, ?_, ?_, ?_, ?_, ?_, ?_⟩
    · show (bif Nat.blt i l.length then _ else none) = _
      have : Nat.blt i l.length = true := by simpa [Nat.blt_eq] using hlt
      rw [this]; rfl
    · simp only [oLoad, h4, cond_true]
    · simp only [oLoad, g2, cond_false]
    · simp only [oLoad, g4, cond_false]
    · simp only [aField, Nat.add_zero]
    · simp only [aField]
end Go.Abs.S
/- Symbolic runs of the abstract machine, part 13: bytes that came in, out of the world; pairs of such. Plain Lean. -/
namespace Go.Abs.S
open Go.Abs Go.WideShapes Go.ChangeShapes
variable {H : Type} {enc : TypeId × Value → H}
theorem byte_wf {n : Int} (h : (Lit.int .u8 n).wf = true) : ((UInt8.ofNat n.toNat).toNat : Int) = n := by
  simp [Lit.wf, IntKind.min, IntKind.max, IntKind.signed, IntKind.bits] at h
  rw [UInt8.toNat_ofNat']
  omega
theorem arg_bytes {P : Program} {W : World} {base : Nat} {t e : TypeId} {v : Value} {d : DataW H} {p : List MemPlace} (ht : P.underlying t = some (.slice e)) (he : P.underlying e = some (.int .u8)) (hc : P.cellsOf e = 1)
    (hok : Value.okWide P W .any base t v) (h : DataW.Trod enc P W 0 (fun _ => true) true t v d p) :
    ∃ l : List UInt8, ArgS (heapW W).next (heapW W) (absW W v) (byts l) ∧ ((d = .nil ∧ l = []) ∨ ∃ el sp, d = .slice el sp ∧ el.length = l.length) ∧ (absW W v).one = true ∧ l.length ≤ maxLen := by
  obtain ⟨oa, len, cap, rfl⟩ := okWide_slice ht hok
  obtain ⟨fuel, hf⟩ := h
  rw [cells_slice _ rfl] at hf
  rcases open_ints ht he hc hf with ⟨h1, h2⟩ | ⟨a, len', cap', zs, h1, _, h3, h4, h5, h6, h7, h8⟩
  · simp only [List.cons.injEq, Value.slice.injEq, and_true] at h1
    obtain ⟨rfl, rfl, rfl⟩ := h1
    simp only [Prod.mk.injEq] at h2
    exact ⟨[], .inl ⟨by simp [absW, nilS], rfl⟩, .inl ⟨h2.1, rfl⟩, by simp [absW, AVal.one], by simp⟩
  · simp only [List.cons.injEq, Value.slice.injEq, and_true] at h1
    obtain ⟨rfl, rfl, rfl⟩ := h1
    simp only [if_true] at h5
    obtain ⟨q1, q2, n, q3, q4⟩ := okWide_room ht hok
    obtain ⟨c, off, spot⟩ := a
    simp only at q1 q3 q4
    subst q1
    simp only [Prod.mk.injEq] at h6
    have hlt : ((zs.take len).map fun n : Int => UInt8.ofNat n.toNat).length = len := by simp; omega
    have hcell : ∀ i, i < len → W.cell? ⟨c, off + i, none⟩ = some (.int .u8 (zs.getD i 0)) := fun i hi => by
      have := h7 i (by omega)
      rwa [add_none] at this
    have hb : off + len ≤ n := by
      by_cases h0 : len = 0
      · omega
      · obtain ⟨C, e', fz, g1, g2, _⟩ := objW_some q3
        have := hcell (len - 1) (by omega)
        rw [cell?_of g1] at this
        have := (Array.getElem?_eq_some_iff.1 this).1
        omega
    refine ⟨(zs.take len).map fun n : Int => UInt8.ofNat n.toNat, .inr ⟨⟨c, n, off⟩, cap, ?_, by rw [byts_len, hlt]; exact q2, ?_, ?_⟩, .inr ⟨_, _, h6.1, by simp [lits]⟩, ?_, by rw [hlt]; omega⟩
    · rw [byts_len, hlt]
      simp only [absW, q2, if_true, q3]
    · obtain ⟨C, e', fz, g1, _, _⟩ := objW_some q3
      exact (Array.getElem?_eq_some_iff.1 g1).1
    · rw [byts_len, hlt]
      refine rd_world q3 hb (by rw [byts_len, hlt]) fun i hi => ⟨_, hcell i hi, ?_⟩
      simp only [absW]
      have hz : i < zs.length := by omega
      have hw := h8 zs[i] (List.getElem_mem hz)
      have hg : ((zs.take len).map fun n : Int => UInt8.ofNat n.toNat)[i]? = some (UInt8.ofNat zs[i].toNat) := by
        rw [List.getElem?_map, List.getElem?_take_of_lt hi, List.getElem?_eq_getElem hz]; rfl
      rw [byts_get hg, byte_wf hw]
      simp [List.getD, hz]
    · simp only [absW, q2, if_true, q3, AVal.one]
/-- two of a kind -/
theorem pair_cells {P : Program} {W : World} {r : Reach} {base : Nat} {t e u : TypeId} {v : Value} {d : DataW H} {p : List MemPlace} (ha : P.underlying t = some (.array 2 e)) (hc : P.cellsOf t = 2) (hce : P.cellsOf e = 1) (hts : P.cellTypes P.depth t = some [u, u])
    (h : Value.okWide P W r base t v) (hd : DataW.Trod enc P W 0 (fun _ => true) true t v d p) :
    ∃ x y d1 p1 d2 p2, v = .agg #[x, y] ∧ Cell.okWide P W r base u x ∧ Cell.okWide P W r base u y ∧ (∃ n, DataW.trod enc P W 0 (fun _ => true) true n e [x] = some (d1, p1)) ∧ (∃ n, DataW.trod enc P W 0 (fun _ => true) true n e [y] = some (d2, p2)) := by
  simp only [Value.okWide, ha] at h
  obtain ⟨cs, rfl, hs, ts, h1, _, h2⟩ := h
  rw [hts] at h1
  simp only [Option.some.injEq] at h1
  subst h1
  rw [hc] at hs
  obtain ⟨fuel, hf⟩ := hd
  obtain ⟨xs, m, _, hx, hl, hn, hi⟩ := DataW.trod_array ha hf
  obtain ⟨x, y, rfl⟩ : ∃ x y, cs = #[x, y] := by
    refine ⟨cs[0]'(by omega), cs[1]'(by omega), ?_⟩
    apply Array.ext
    · simp [hs]
    · intro i h1 h2
      match i with
      | 0 => rfl
      | 1 => rfl
      | n + 2 => omega
  obtain ⟨u0, a1, a2⟩ := h2 0 x rfl
  obtain ⟨u1, b1, b2⟩ := h2 1 y rfl
  have a1 : some u = some u0 := a1
  have b1 : some u = some u1 := b1
  simp only [Option.some.injEq] at a1 b1
  subst a1
  subst b1
  have i0 := hi 0 (by omega)
  have i1 := hi 1 (by omega)
  rw [hce] at i0 i1
  have x0 : ∃ z, xs[0]? = some z := ⟨xs[0]'(by omega), List.getElem?_eq_getElem _⟩
  have x1 : ∃ z, xs[1]? = some z := ⟨xs[1]'(by omega), List.getElem?_eq_getElem _⟩
  obtain ⟨z0, x0⟩ := x0
  obtain ⟨z1, x1⟩ := x1
  rw [x0] at i0
  rw [x1] at i1
  have e0 : (List.drop (0 * 1) (Value.agg #[x, y]).cells.toList).take 1 = [x] := rfl
  have e1 : (List.drop (1 * 1) (Value.agg #[x, y]).cells.toList).take 1 = [y] := rfl
  rw [e0] at i0
  rw [e1] at i1
  exact ⟨x, y, z0.1, z0.2, z1.1, z1.2, rfl, a2, b2, ⟨m, i0⟩, ⟨m, i1⟩⟩
end Go.Abs.S
/- Symbolic runs of the abstract machine, part 16: slices of whatever elements that came in; lists of pairs of texts. Plain Lean. -/
namespace Go.Abs.S
open Go.Abs Go.WideShapes Go.ChangeShapes
variable {H : Type} {enc : TypeId × Value → H}
theorem cells_at {w : World} {b : Nat} {c off : Nat} {n : Nat} {cs : List Value} (h : w.cells? b ⟨c, off, none⟩ n = some cs) : cs.length = n ∧ ∀ i, i < n → w.cell? ⟨c, off + i, none⟩ = cs[i]? := by
  unfold World.cells? at h
  split at h
  · have key : ∀ (l : List Nat) (cs : List Value), l.mapM (fun i => w.cell? ((⟨c, off, none⟩ : Addr).add i)) = some cs → cs.length = l.length ∧ ∀ (i j : Nat), l[i]? = some j → w.cell? ((⟨c, off, none⟩ : Addr).add j) = cs[i]? := by
      intro l
      induction l with
      | nil => intro cs h; simp at h; subst h; simp
      | cons x l ih =>
        intro cs h
        simp only [List.mapM_cons] at h
        cases hx : w.cell? ((⟨c, off, none⟩ : Addr).add x) with
        | none => rw [hx] at h; simp at h
        | some v =>
          rw [hx] at h
          cases hr : l.mapM (fun i => w.cell? ((⟨c, off, none⟩ : Addr).add i)) with
          | none => rw [hr] at h; simp at h
          | some vs =>
            rw [hr] at h
            simp at h
            subst h
            obtain ⟨h1, h2⟩ := ih vs hr
            refine ⟨by simp [h1], fun i j hj => ?_⟩
            cases i with
            | zero => simp at hj; subst hj; simpa using hx
            | succ i => simpa using h2 i j (by simpa using hj)
    obtain ⟨h1, h2⟩ := key _ _ h
    refine ⟨by simpa using h1, fun i hi => ?_⟩
    have := h2 i i (by simp [hi])
    rwa [add_none] at this
  · simp at h
theorem arg_slice {P : Program} {W : World} {base : Nat} {t e : TypeId} {v : Value} {d : DataW H} {p : List MemPlace} (ht : P.underlying t = some (.slice e)) (hm : 0 < P.cellsOf e)
    (hok : Value.okWide P W .any base t v) (h : DataW.Trod enc P W 0 (fun _ => true) true t v d p) :
    (absW W v = nilS ∧ d = .nil) ∨ ∃ c n off len cap els sp, absW W v = .slice (some ⟨c, n, off⟩) len (.known cap) ∧ len ≤ cap ∧ cap ≤ maxLen ∧ c < W.heap.size ∧ d = .slice els sp ∧ els.length = len ∧
      ∀ i, i < len → ∃ cs k y, cs.length = P.cellsOf e ∧ rdCells (heapW W) ⟨c, n, off + i * P.cellsOf e⟩ (P.cellsOf e) = some (cs.map (absW W)) ∧ DataW.trod enc P W 0 (fun _ => true) true k e cs = some y ∧ els[i]? = some y.1 := by
  obtain ⟨oa, len, cap, rfl⟩ := okWide_slice ht hok
  obtain ⟨fuel, hf⟩ := h
  rw [cells_slice _ rfl] at hf
  rcases DataW.trod_slice ht hf with ⟨h1, h2⟩ | ⟨a, len', cap', elems, rest, n', _, h1, hx, _, h3, h4, h5, h6, _⟩
  · simp only [List.cons.injEq, Value.slice.injEq, and_true] at h1
    obtain ⟨rfl, rfl, rfl⟩ := h1
    simp only [Prod.mk.injEq] at h2
    exact .inl ⟨by simp [absW, nilS], h2.1⟩
  · simp only [List.cons.injEq, Value.slice.injEq, and_true] at h1
    obtain ⟨rfl, rfl, rfl⟩ := h1
    obtain ⟨q1, q2, n, q3, q4⟩ := okWide_room ht hok
    obtain ⟨c, off, spot⟩ := a
    simp only at q1 q3 q4
    subst q1
    simp only [Prod.mk.injEq] at hx
    refine .inr ⟨c, n, off, len, cap, _, _, by simp only [absW, q2, if_true, q3], q2, h4, ?_, hx.1, by simpa using h5, fun i hi => ?_⟩
    · obtain ⟨C, e', fz, g1, _, _⟩ := objW_some q3
      exact (Array.getElem?_eq_some_iff.1 g1).1
    · have hE := h6 i hi
      have hei : elems[i]? = some (elems[i]'(by omega)) := List.getElem?_eq_getElem _
      rw [hei] at hE
      rw [add_none] at hE
      obtain ⟨cs, hc, ho⟩ := Option.bind_eq_some_iff.1 hE
      obtain ⟨l1, l2⟩ := cells_at hc
      refine ⟨cs, n', _, l1, ?_, ho, by simp [hei]⟩
      refine rd_world q3 ?_ (by simpa using l1) fun j hj => ?_
      · obtain ⟨C, e', fz, g1, g2, _⟩ := objW_some q3
        have := l2 (P.cellsOf e - 1) (by omega)
        rw [cell?_of g1] at this
        have hlt : P.cellsOf e - 1 < cs.length := by omega
        rw [List.getElem?_eq_getElem hlt] at this
        have := (Array.getElem?_eq_some_iff.1 this).1
        omega
      · have hlt : j < cs.length := by omega
        exact ⟨cs[j], by rw [l2 j hj, List.getElem?_eq_getElem hlt], by simp [hlt]⟩
/-- lists of pairs of texts -/
theorem arg_pairs {P : Program} {W : World} {base : Nat} {t e : TypeId} {f0 f1 : Field} {v : Value} {d : DataW H} {p : List MemPlace} (ht : P.underlying t = some (.slice e)) (he : P.underlying e = some (.struct #[f0, f1])) (hm : P.cellsOf e = 2)
    (h0 : P.underlying f0.type = some .string) (h1 : P.underlying f1.type = some .string) (o0 : f0.offset = 0) (o1 : f1.offset = 1) (c0 : P.cellsOf f0.type = 1) (c1 : P.cellsOf f1.type = 1)
    (hok : Value.okWide P W .any base t v) (h : DataW.Trod enc P W 0 (fun _ => true) true t v d p) :
    ∃ l : List (List UInt8 × List UInt8), Prs (heapW W).next (heapW W) (absW W v) l ∧ (∀ q ∈ l, q.1.length ≤ maxLen ∧ q.2.length ≤ maxLen) ∧ l.length ≤ maxLen ∧ (absW W v).one = true := by
  rcases arg_slice ht (by omega) hok h with ⟨h2, _⟩ | ⟨c, n, off, len, cap, els, sp, h2, h3, h4, h5, h6, h7, h8⟩
  · exact ⟨[], .inl ⟨h2, rfl⟩, by simp, by simp, by rw [h2]; rfl⟩
  · have key : ∀ i, i < len → ∃ q : List UInt8 × List UInt8, rdCells (heapW W) ⟨c, n, off + i * 2⟩ 2 = some [.str q.1, .str q.2] ∧ q.1.length ≤ maxLen ∧ q.2.length ≤ maxLen := by
      intro i hi
      obtain ⟨cs, k, y, g1, g2, g3, _⟩ := h8 i hi
      rw [hm] at g1 g2
      obtain ⟨y0, y1, m, _, _, t0, t1⟩ := trod_struct2 he g3
      rw [o0, c0] at t0
      rw [o1, c1] at t1
      obtain ⟨a, b, rfl⟩ : ∃ a b, cs = [a, b] := by
        match cs, g1 with
        | [a, b], _ => exact ⟨a, b, rfl⟩
      obtain ⟨s, e1, _, l1⟩ := DataW.trod_string h0 t0
      obtain ⟨u, e2, _, l2⟩ := DataW.trod_string h1 t1
      simp at e1 e2
      subst e1 e2
      exact ⟨(s.data.toList, u.data.toList), by simpa [absW] using g2, by rw [Array.length_toList]; exact l1, by rw [Array.length_toList]; exact l2⟩
    have hall : ∀ k, k ≤ len → ∃ l : List (List UInt8 × List UInt8), l.length = k ∧ ∀ i q, l[i]? = some q → rdCells (heapW W) ⟨c, n, off + i * 2⟩ 2 = some [.str q.1, .str q.2] ∧ q.1.length ≤ maxLen ∧ q.2.length ≤ maxLen := by
      intro k
      induction k with
      | zero => intro _; exact ⟨[], rfl, by simp⟩
      | succ k ih =>
        intro hk
        obtain ⟨l, hl, hq⟩ := ih (by omega)
        obtain ⟨q, hq1⟩ := key k (by omega)
        refine ⟨l ++ [q], by simp [hl], fun i r hr => ?_⟩
        by_cases hi : i < l.length
        · rw [List.getElem?_append_left hi] at hr
          exact hq i r hr
        · rw [List.getElem?_append_right (by omega)] at hr
          have h0 : i - l.length = 0 := by
            rcases Nat.eq_zero_or_pos (i - l.length) with h0 | h0
            · exact h0
            · rw [List.getElem?_eq_none (by simp; omega)] at hr; simp at hr
          rw [h0] at hr
          simp at hr
          subst hr
          rw [show i = k by omega]
          exact hq1
    obtain ⟨l, hl, hq⟩ := hall len (Nat.le_refl _)
    refine ⟨l, .inr ⟨⟨c, n, off⟩, .known cap, by rw [h2, hl], h5, fun i q hi => (hq i q hi).1⟩, fun q hqm => ?_, by omega, by rw [h2]; rfl⟩
    obtain ⟨i, hi⟩ := List.mem_iff_getElem?.1 hqm
    exact (hq i q hi).2
end Go.Abs.S
