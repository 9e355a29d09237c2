/- Part of a proof (TKeys FV UKY UNU); no condition. -/
import Derived.Test.YtopaelfdloklaaaGreatDoorProg
import Derived.KernelRfl
import Derived.Test.YtopaelfdloklaaaGreatDoorP8
import Derived.Test.YtopaelfdloklaaaGreatDoorP11
set_option linter.unusedSimpArgs false
set_option linter.unusedVariables false
set_option linter.unnecessarySimpa false
namespace Go.Abs.TKeys
open Go.Abs Go.Abs.F
noncomputable section
def F69:Go.Abs.F.Fn:=mkFn [s0,s1,s2,s3,s4,s5,s6,s7,s8,s9,s10,s11] (cSeq (opC (xNew [(.int .u32 (.ofNat 0)),(.int .u32 (.ofNat 0)),(.int .u32 (.ofNat 0)),(.int .u32 (.ofNat 0)),(.int .u32 (.ofNat 0)),(.int .u32 (.ofNat 0)),(.int .u32 (.ofNat 0)),(.int .u32 (.ofNat 0)),(.int .u32 (.ofNat 0)),(.int .u32 (.ofNat 0)),(.int .u32 (.ofNat 0)),(.int .u32 (.ofNat 0)),(.int .u32 (.ofNat 0)),(.int .u32 (.ofNat 0)),(.int .u32 (.ofNat 0)),(.int .u32 (.ofNat 0)),(.int .u32 (.ofNat 0)),(.int .u32 (.ofNat 0)),(.int .u32 (.ofNat 0)),(.int .u32 (.ofNat 0)),(.int .u32 (.ofNat 0)),(.int .u32 (.ofNat 0)),(.int .u32 (.ofNat 0)),(.int .u32 (.ofNat 0)),(.int .u32 (.ofNat 0)),(.int .u32 (.ofNat 0)),(.int .u32 (.ofNat 0)),(.int .u32 (.ofNat 0)),(.int .u32 (.ofNat 0)),(.int .u32 (.ofNat 0)),(.int .u32 (.ofNat 0)),(.int .u32 (.ofNat 0)),(.int .u32 (.ofNat 0)),(.int .u32 (.ofNat 0)),(.int .u32 (.ofNat 0)),(.int .u32 (.ofNat 0)),(.int .u32 (.ofNat 0)),(.int .u32 (.ofNat 0)),(.int .u32 (.ofNat 0)),(.int .u32 (.ofNat 0)),(.int .u32 (.ofNat 0)),(.int .u32 (.ofNat 0)),(.int .u32 (.ofNat 0)),(.int .u32 (.ofNat 0)),(.int .u32 (.ofNat 0)),(.int .u32 (.ofNat 0)),(.int .u32 (.ofNat 0)),(.int .u32 (.ofNat 0)),(.int .u32 (.ofNat 0)),(.int .u32 (.ofNat 0)),(.int .u32 (.ofNat 0)),(.int .u32 (.ofNat 0)),(.int .u32 (.ofNat 0)),(.int .u32 (.ofNat 0)),(.int .u32 (.ofNat 0)),(.int .u32 (.ofNat 0)),(.int .u32 (.ofNat 0)),(.int .u32 (.ofNat 0)),(.int .u32 (.ofNat 0)),(.int .u32 (.ofNat 0)),(.int .u32 (.ofNat 0)),(.int .u32 (.ofNat 0)),(.int .u32 (.ofNat 0)),(.int .u32 (.ofNat 0))]) s0 <| fEnd) (cSeq (opC (xNew [(.int .u32 (.ofNat 0)),(.int .u32 (.ofNat 0)),(.int .u32 (.ofNat 0)),(.int .u32 (.ofNat 0)),(.int .u32 (.ofNat 0)),(.int .u32 (.ofNat 0)),(.int .u32 (.ofNat 0)),(.int .u32 (.ofNat 0)),(.int .u32 (.ofNat 0)),(.int .u32 (.ofNat 0)),(.int .u32 (.ofNat 0)),(.int .u32 (.ofNat 0)),(.int .u32 (.ofNat 0)),(.int .u32 (.ofNat 0)),(.int .u32 (.ofNat 0)),(.int .u32 (.ofNat 0)),(.int .u32 (.ofNat 0)),(.int .u32 (.ofNat 0)),(.int .u32 (.ofNat 0)),(.int .u32 (.ofNat 0)),(.int .u32 (.ofNat 0)),(.int .u32 (.ofNat 0)),(.int .u32 (.ofNat 0)),(.int .u32 (.ofNat 0)),(.int .u32 (.ofNat 0)),(.int .u32 (.ofNat 0)),(.int .u32 (.ofNat 0)),(.int .u32 (.ofNat 0)),(.int .u32 (.ofNat 0)),(.int .u32 (.ofNat 0)),(.int .u32 (.ofNat 0)),(.int .u32 (.ofNat 0)),(.int .u32 (.ofNat 0)),(.int .u32 (.ofNat 0)),(.int .u32 (.ofNat 0)),(.int .u32 (.ofNat 0)),(.int .u32 (.ofNat 0)),(.int .u32 (.ofNat 0)),(.int .u32 (.ofNat 0)),(.int .u32 (.ofNat 0)),(.int .u32 (.ofNat 0)),(.int .u32 (.ofNat 0)),(.int .u32 (.ofNat 0)),(.int .u32 (.ofNat 0)),(.int .u32 (.ofNat 0)),(.int .u32 (.ofNat 0)),(.int .u32 (.ofNat 0)),(.int .u32 (.ofNat 0)),(.int .u32 (.ofNat 0)),(.int .u32 (.ofNat 0)),(.int .u32 (.ofNat 0)),(.int .u32 (.ofNat 0)),(.int .u32 (.ofNat 0)),(.int .u32 (.ofNat 0)),(.int .u32 (.ofNat 0)),(.int .u32 (.ofNat 0)),(.int .u32 (.ofNat 0)),(.int .u32 (.ofNat 0)),(.int .u32 (.ofNat 0)),(.int .u32 (.ofNat 0)),(.int .u32 (.ofNat 0)),(.int .u32 (.ofNat 0)),(.int .u32 (.ofNat 0)),(.int .u32 (.ofNat 0))]) s1 <| fEnd) (cSeq (cSeq (opC (xCall 142 []) s7 <| opC (xMv (gC (.int .i64 (.ofNat 0)))) s8 <| fEnd) (cBlk (cLoop (cSeq (opC (xV2 fLss g8 (gC (.int .i64 (.ofNat 64)))) s9 <| fEnd) (cSeq (cIf g9 fEnd (cExit 0)) (cSeq (cBlk (cSeq (opC (xV2 (fIdx1 64) g7 g8) s11 <| opC (xMv g8) s2 <| opC (xMv g11) s3 <| fEnd) (cSeq (opC (xMv (gC (.int .u64 (.ofNat 0)))) s4 <| fEnd) (cSeq (cSeq (opC (xMv (gC (.int .i64 (.ofNat 0)))) s12 <| fEnd) (cBlk (cLoop (cSeq (opC (xV2 fLss g12 (gC (.int .i64 (.ofNat 36)))) s13 <| fEnd) (cSeq (cIf g13 fEnd (cExit 0)) (cSeq (cBlk (cSeq (opC (xMv g12) s5 <| fEnd) (cSeq (opC (xV2 fSub (gC (.int .i64 (.ofNat 35))) g5) s17 <| opC (xV2 fShl (gC (.int .u64 (.ofNat 1))) g17) s18 <| opC (xV2 (fBit .or Nat.lor) g4 g18) s19 <| opC (xMv g19) s6 <| fEnd) (cSeq (opC (xCall 143 [g6,g3]) s22 <| fEnd) (cIf g22 (opC (xMv g6) s4 <| fEnd) fEnd))))) (opC (xV2 fAdd g12 (gC (.int .i64 (.ofNat 1)))) s24 <| opC (xMv g24) s12 <| fEnd))))))) (opC (xV1 (fConv .u32) g4) s27 <| opC (xV2 (fIdxR 64 1) g1 g2) s28 <| op0 (xSt 1 g28 g27) <| fEnd))))) (opC (xV2 fAdd g8 (gC (.int .i64 (.ofNat 1)))) s29 <| opC (xMv g29) s8 <| fEnd))))))) (cSeq (opC (xLdA 64 g1) s30 <| op0 (xSt 64 g0 g30) <| fEnd) (cExit 0))))) [xLdA 64 g0]
def F142:Go.Abs.F.Fn:=mkFn [s0,s1,s2,s3,s4,s5,s6,s7,s8,s9,s10,s11] (cSeq (opC (xNew [(.int .u64 (.ofNat 0)),(.int .u64 (.ofNat 0)),(.int .u64 (.ofNat 0)),(.int .u64 (.ofNat 0)),(.int .u64 (.ofNat 0)),(.int .u64 (.ofNat 0)),(.int .u64 (.ofNat 0)),(.int .u64 (.ofNat 0)),(.int .u64 (.ofNat 0)),(.int .u64 (.ofNat 0)),(.int .u64 (.ofNat 0)),(.int .u64 (.ofNat 0)),(.int .u64 (.ofNat 0)),(.int .u64 (.ofNat 0)),(.int .u64 (.ofNat 0)),(.int .u64 (.ofNat 0)),(.int .u64 (.ofNat 0)),(.int .u64 (.ofNat 0)),(.int .u64 (.ofNat 0)),(.int .u64 (.ofNat 0)),(.int .u64 (.ofNat 0)),(.int .u64 (.ofNat 0)),(.int .u64 (.ofNat 0)),(.int .u64 (.ofNat 0)),(.int .u64 (.ofNat 0)),(.int .u64 (.ofNat 0)),(.int .u64 (.ofNat 0)),(.int .u64 (.ofNat 0)),(.int .u64 (.ofNat 0)),(.int .u64 (.ofNat 0)),(.int .u64 (.ofNat 0)),(.int .u64 (.ofNat 0)),(.int .u64 (.ofNat 0)),(.int .u64 (.ofNat 0)),(.int .u64 (.ofNat 0)),(.int .u64 (.ofNat 0)),(.int .u64 (.ofNat 0)),(.int .u64 (.ofNat 0)),(.int .u64 (.ofNat 0)),(.int .u64 (.ofNat 0)),(.int .u64 (.ofNat 0)),(.int .u64 (.ofNat 0)),(.int .u64 (.ofNat 0)),(.int .u64 (.ofNat 0)),(.int .u64 (.ofNat 0)),(.int .u64 (.ofNat 0)),(.int .u64 (.ofNat 0)),(.int .u64 (.ofNat 0)),(.int .u64 (.ofNat 0)),(.int .u64 (.ofNat 0)),(.int .u64 (.ofNat 0)),(.int .u64 (.ofNat 0)),(.int .u64 (.ofNat 0)),(.int .u64 (.ofNat 0)),(.int .u64 (.ofNat 0)),(.int .u64 (.ofNat 0)),(.int .u64 (.ofNat 0)),(.int .u64 (.ofNat 0)),(.int .u64 (.ofNat 0)),(.int .u64 (.ofNat 0)),(.int .u64 (.ofNat 0)),(.int .u64 (.ofNat 0)),(.int .u64 (.ofNat 0)),(.int .u64 (.ofNat 0))]) s0 <| fEnd) (cSeq (opC (xNew [(.int .u64 (.ofNat 0)),(.int .u64 (.ofNat 0)),(.int .u64 (.ofNat 0)),(.int .u64 (.ofNat 0)),(.int .u64 (.ofNat 0)),(.int .u64 (.ofNat 0)),(.int .u64 (.ofNat 0)),(.int .u64 (.ofNat 0)),(.int .u64 (.ofNat 0)),(.int .u64 (.ofNat 0)),(.int .u64 (.ofNat 0)),(.int .u64 (.ofNat 0)),(.int .u64 (.ofNat 0)),(.int .u64 (.ofNat 0)),(.int .u64 (.ofNat 0)),(.int .u64 (.ofNat 0)),(.int .u64 (.ofNat 0)),(.int .u64 (.ofNat 0)),(.int .u64 (.ofNat 0)),(.int .u64 (.ofNat 0)),(.int .u64 (.ofNat 0)),(.int .u64 (.ofNat 0)),(.int .u64 (.ofNat 0)),(.int .u64 (.ofNat 0)),(.int .u64 (.ofNat 0)),(.int .u64 (.ofNat 0)),(.int .u64 (.ofNat 0)),(.int .u64 (.ofNat 0)),(.int .u64 (.ofNat 0)),(.int .u64 (.ofNat 0)),(.int .u64 (.ofNat 0)),(.int .u64 (.ofNat 0)),(.int .u64 (.ofNat 0)),(.int .u64 (.ofNat 0)),(.int .u64 (.ofNat 0)),(.int .u64 (.ofNat 0)),(.int .u64 (.ofNat 0)),(.int .u64 (.ofNat 0)),(.int .u64 (.ofNat 0)),(.int .u64 (.ofNat 0)),(.int .u64 (.ofNat 0)),(.int .u64 (.ofNat 0)),(.int .u64 (.ofNat 0)),(.int .u64 (.ofNat 0)),(.int .u64 (.ofNat 0)),(.int .u64 (.ofNat 0)),(.int .u64 (.ofNat 0)),(.int .u64 (.ofNat 0)),(.int .u64 (.ofNat 0)),(.int .u64 (.ofNat 0)),(.int .u64 (.ofNat 0)),(.int .u64 (.ofNat 0)),(.int .u64 (.ofNat 0)),(.int .u64 (.ofNat 0)),(.int .u64 (.ofNat 0)),(.int .u64 (.ofNat 0)),(.int .u64 (.ofNat 0)),(.int .u64 (.ofNat 0)),(.int .u64 (.ofNat 0)),(.int .u64 (.ofNat 0)),(.int .u64 (.ofNat 0)),(.int .u64 (.ofNat 0)),(.int .u64 (.ofNat 0)),(.int .u64 (.ofNat 0))]) s1 <| fEnd) (cSeq (opC (xMv (gC (.int .i64 (.ofNat 0)))) s2 <| fEnd) (cSeq (cSeq (opC (xMv (gC (.int .u64 (.ofNat 0)))) s4 <| fEnd) (cBlk (cLoop (cSeq (opC (xV2 fLss g4 (gC (.int .u64 (.ofNat 400)))) s5 <| fEnd) (cSeq (cIf g5 fEnd (cExit 0)) (cSeq (cBlk (cSeq (opC (xMv g4) s3 <| fEnd) (cSeq (cSeq (opC (xV2 fEql g2 (gC (.int .i64 (.ofNat 64)))) s8 <| fEnd) (cIf g8 (cExit 1) fEnd)) (cSeq (opC (xCall 201 [g3]) s10 <| fEnd) (cIf g10 (cSeq (opC (xV2 (fIdxR 64 1) g1 g2) s13 <| op0 (xSt 1 g13 g3) <| fEnd) (opC (xV2 fAdd g2 (gC (.int .i64 (.ofNat 1)))) s15 <| opC (xMv g15) s2 <| fEnd)) fEnd))))) (opC (xV2 fAdd g4 (gC (.int .u64 (.ofNat 1)))) s16 <| opC (xMv g16) s4 <| fEnd))))))) (cSeq (opC (xLdA 64 g1) s17 <| op0 (xSt 64 g0 g17) <| fEnd) (cExit 0)))))) [xLdA 64 g0]
def F201:Go.Abs.F.Fn:=mkFn [s0,s1,s2,s3,s4,s5,s6,s7,s8,s9,s10,s11] (cSeq (opC (xMv (gC (.bool false))) s2 <| fEnd) (cSeq (cSeq (opC (xV2 fLss g0 (gC (.int .u64 (.ofNat 2)))) s5 <| fEnd) (cIf g5 (cSeq (opC (xMv (gC (.bool false))) s2 <| fEnd) (cExit 0)) fEnd)) (cSeq (cSeq (opC (xMv (gC (.int .u64 (.ofNat 2)))) s3 <| fEnd) (cBlk (cLoop (cSeq (cSeq (opC (xV2 fMul g3 g3) s8 <| opC (xV2 fLeq g8 g0) s10 <| fEnd) (cIf g10 fEnd (cExit 0))) (cSeq (cBlk (cSeq (opC (xV2 fRem g0 g3) s15 <| opC (xV2 fEql g15 (gC (.int .u64 (.ofNat 0)))) s16 <| fEnd) (cIf g16 (cSeq (opC (xMv (gC (.bool false))) s2 <| fEnd) (cExit 2)) fEnd))) (opC (xV2 fAdd g3 (gC (.int .u64 (.ofNat 1)))) s12 <| opC (xMv g12) s3 <| fEnd)))))) (cSeq (opC (xMv (gC (.bool true))) s2 <| fEnd) (cExit 0))))) [xMv g2]
def F143:Go.Abs.F.Fn:=mkFn [s0,s1,s2,s3,s4,s5,s6,s7,s8,s9,s10,s11] (cSeq (opC (xMv (gC (.bool false))) s4 <| fEnd) (cSeq (opC (xCall 144 [g0,g0]) s13 <| opC (xV1 (fExt 0) g13) s14 <| opC (xV1 (fExt 1) g13) s15 <| opC (xMv g14) s5 <| opC (xMv g15) s6 <| fEnd) (cSeq (opC (xCall 144 [g6,g0]) s19 <| opC (xV1 (fExt 0) g19) s20 <| opC (xV1 (fExt 1) g19) s21 <| opC (xMv g20) s7 <| opC (xMv g21) s8 <| fEnd) (cSeq (opC (xV2 fMul g5 g0) s24 <| opC (xV2 fAdd g24 g7) s26 <| opC (xMv g26) s9 <| fEnd) (cSeq (opC (xV2 fShl g1 (gC (.int .u64 (.ofNat 32)))) s29 <| opC (xV2 fLss g9 g29) s30 <| opC (xGf g30 (xV2 fShl g1 (gC (.int .u64 (.ofNat 32))))) s34 <| opC (xGf g30 (xV2 fEql g9 g34)) s35 <| opC (xGf g30 (xMv g35)) s36 <| opC (xGt g36 (xV2 fEql g8 (gC (.int .u64 (.ofNat 0))))) s38 <| opC (xGf g30 (xPick g36 g38 (gC (.bool false)))) s39 <| opC (xPick g30 (gC (.bool true)) g39) s40 <| opC (xMv g40) s4 <| fEnd) (cExit 0)))))) [xMv g4]
def F144:Go.Abs.F.Fn:=mkFn [s0,s1,s2,s3,s4,s5,s6,s7,s8,s9,s10,s11] (cSeq (opC (xMv (gC (.int .u64 (.ofNat 0)))) s4 <| opC (xMv (gC (.int .u64 (.ofNat 0)))) s5 <| fEnd) (cSeq (opC (xV2 (fBit .and Nat.land) g0 (gC (.int .u64 (.ofNat 4294967295)))) s15 <| opC (xMv g15) s6 <| fEnd) (cSeq (opC (xV2 fShr g0 (gC (.int .u64 (.ofNat 32)))) s17 <| opC (xMv g17) s7 <| fEnd) (cSeq (opC (xV2 (fBit .and Nat.land) g1 (gC (.int .u64 (.ofNat 4294967295)))) s19 <| opC (xMv g19) s8 <| fEnd) (cSeq (opC (xV2 fShr g1 (gC (.int .u64 (.ofNat 32)))) s21 <| opC (xMv g21) s9 <| fEnd) (cSeq (opC (xV2 fMul g6 g8) s24 <| opC (xMv g24) s10 <| fEnd) (cSeq (opC (xV2 fMul g7 g8) s27 <| opC (xV2 fShr g10 (gC (.int .u64 (.ofNat 32)))) s29 <| opC (xV2 fAdd g27 g29) s30 <| opC (xMv g30) s11 <| fEnd) (cSeq (opC (xV2 (fBit .and Nat.land) g11 (gC (.int .u64 (.ofNat 4294967295)))) s32 <| opC (xMv g32) s12 <| fEnd) (cSeq (opC (xV2 fShr g11 (gC (.int .u64 (.ofNat 32)))) s34 <| opC (xMv g34) s13 <| fEnd) (cSeq (opC (xV2 fMul g6 g9) s38 <| opC (xV2 fAdd g12 g38) s39 <| opC (xMv g39) s12 <| fEnd) (cSeq (opC (xV2 fMul g7 g9) s42 <| opC (xV2 fAdd g42 g13) s44 <| opC (xV2 fShr g12 (gC (.int .u64 (.ofNat 32)))) s46 <| opC (xV2 fAdd g44 g46) s47 <| opC (xMv g47) s4 <| fEnd) (cSeq (opC (xV2 fMul g0 g1) s50 <| opC (xMv g50) s5 <| fEnd) (cExit 0))))))))))))) [xMv g4,xMv g5]
def F70:Go.Abs.F.Fn:=mkFn [s0,s1,s2,s3,s4,s5,s6,s7,s8,s9,s10,s11] (cSeq (opC (xNew [(.int .u32 (.ofNat 0)),(.int .u32 (.ofNat 0)),(.int .u32 (.ofNat 0)),(.int .u32 (.ofNat 0)),(.int .u32 (.ofNat 0)),(.int .u32 (.ofNat 0)),(.int .u32 (.ofNat 0)),(.int .u32 (.ofNat 0))]) s0 <| fEnd) (cSeq (opC (xNew [(.int .u32 (.ofNat 0)),(.int .u32 (.ofNat 0)),(.int .u32 (.ofNat 0)),(.int .u32 (.ofNat 0)),(.int .u32 (.ofNat 0)),(.int .u32 (.ofNat 0)),(.int .u32 (.ofNat 0)),(.int .u32 (.ofNat 0))]) s1 <| fEnd) (cSeq (opC (xCall 142 []) s9 <| opC (xNew [(.int .u64 (.ofNat 0)),(.int .u64 (.ofNat 0)),(.int .u64 (.ofNat 0)),(.int .u64 (.ofNat 0)),(.int .u64 (.ofNat 0)),(.int .u64 (.ofNat 0)),(.int .u64 (.ofNat 0)),(.int .u64 (.ofNat 0)),(.int .u64 (.ofNat 0)),(.int .u64 (.ofNat 0)),(.int .u64 (.ofNat 0)),(.int .u64 (.ofNat 0)),(.int .u64 (.ofNat 0)),(.int .u64 (.ofNat 0)),(.int .u64 (.ofNat 0)),(.int .u64 (.ofNat 0)),(.int .u64 (.ofNat 0)),(.int .u64 (.ofNat 0)),(.int .u64 (.ofNat 0)),(.int .u64 (.ofNat 0)),(.int .u64 (.ofNat 0)),(.int .u64 (.ofNat 0)),(.int .u64 (.ofNat 0)),(.int .u64 (.ofNat 0)),(.int .u64 (.ofNat 0)),(.int .u64 (.ofNat 0)),(.int .u64 (.ofNat 0)),(.int .u64 (.ofNat 0)),(.int .u64 (.ofNat 0)),(.int .u64 (.ofNat 0)),(.int .u64 (.ofNat 0)),(.int .u64 (.ofNat 0)),(.int .u64 (.ofNat 0)),(.int .u64 (.ofNat 0)),(.int .u64 (.ofNat 0)),(.int .u64 (.ofNat 0)),(.int .u64 (.ofNat 0)),(.int .u64 (.ofNat 0)),(.int .u64 (.ofNat 0)),(.int .u64 (.ofNat 0)),(.int .u64 (.ofNat 0)),(.int .u64 (.ofNat 0)),(.int .u64 (.ofNat 0)),(.int .u64 (.ofNat 0)),(.int .u64 (.ofNat 0)),(.int .u64 (.ofNat 0)),(.int .u64 (.ofNat 0)),(.int .u64 (.ofNat 0)),(.int .u64 (.ofNat 0)),(.int .u64 (.ofNat 0)),(.int .u64 (.ofNat 0)),(.int .u64 (.ofNat 0)),(.int .u64 (.ofNat 0)),(.int .u64 (.ofNat 0)),(.int .u64 (.ofNat 0)),(.int .u64 (.ofNat 0)),(.int .u64 (.ofNat 0)),(.int .u64 (.ofNat 0)),(.int .u64 (.ofNat 0)),(.int .u64 (.ofNat 0)),(.int .u64 (.ofNat 0)),(.int .u64 (.ofNat 0)),(.int .u64 (.ofNat 0)),(.int .u64 (.ofNat 0))]) s2 <| op0 (xSt 64 g2 g9) <| fEnd) (cSeq (cSeq (opC (xMv (gC (.int .i64 (.ofNat 0)))) s10 <| fEnd) (cBlk (cLoop (cSeq (opC (xV2 fLss g10 (gC (.int .i64 (.ofNat 8)))) s11 <| fEnd) (cSeq (cIf g11 fEnd (cExit 0)) (cSeq (cBlk (cSeq (opC (xMv g10) s3 <| fEnd) (cSeq (opC (xMv (gC (.int .u64 (.ofNat 0)))) s4 <| fEnd) (cSeq (cSeq (opC (xMv (gC (.int .i64 (.ofNat 0)))) s13 <| fEnd) (cBlk (cLoop (cSeq (opC (xV2 fLss g13 (gC (.int .i64 (.ofNat 36)))) s14 <| fEnd) (cSeq (cIf g14 fEnd (cExit 0)) (cSeq (cBlk (cSeq (opC (xMv g13) s5 <| fEnd) (cSeq (opC (xV2 fSub (gC (.int .i64 (.ofNat 35))) g5) s18 <| opC (xV2 fShl (gC (.int .u64 (.ofNat 1))) g18) s19 <| opC (xV2 (fBit .or Nat.lor) g4 g19) s20 <| opC (xMv g20) s6 <| fEnd) (cSeq (opC (xCall 144 [g6,g6]) s24 <| opC (xV1 (fExt 0) g24) s25 <| opC (xV1 (fExt 1) g24) s26 <| opC (xMv g25) s7 <| opC (xMv g26) s8 <| fEnd) (cSeq (opC (xV2 (fIdxR 64 1) g2 g3) s29 <| opC (xLd g29) s30 <| opC (xV2 fLss g7 g30) s31 <| opC (xGf g31 (xV2 (fIdxR 64 1) g2 g3)) s35 <| opC (xGf g31 (xLd g35)) s36 <| opC (xGf g31 (xV2 fEql g7 g36)) s37 <| opC (xGf g31 (xMv g37)) s38 <| opC (xGt g38 (xV2 fEql g8 (gC (.int .u64 (.ofNat 0))))) s40 <| opC (xGf g31 (xPick g38 g40 (gC (.bool false)))) s41 <| opC (xPick g31 (gC (.bool true)) g41) s42 <| fEnd) (cIf g42 (opC (xMv g6) s4 <| fEnd) fEnd)))))) (opC (xV2 fAdd g13 (gC (.int .i64 (.ofNat 1)))) s44 <| opC (xMv g44) s13 <| fEnd))))))) (opC (xV1 (fConv .u32) g4) s47 <| opC (xV2 (fIdxR 8 1) g1 g3) s48 <| op0 (xSt 1 g48 g47) <| fEnd))))) (opC (xV2 fAdd g10 (gC (.int .i64 (.ofNat 1)))) s49 <| opC (xMv g49) s10 <| fEnd))))))) (cSeq (opC (xLdA 8 g1) s50 <| op0 (xSt 8 g0 g50) <| fEnd) (cExit 0)))))) [xLdA 8 g0]
theorem k69:cF Go.Proofs.Tryz.prog 112313344 69=some F69:=by kernel_rfl
theorem k142:cF Go.Proofs.Tryz.prog 23232 142=some F142:=by kernel_rfl
theorem k201:cF Go.Proofs.Tryz.prog 27344 201=some F201:=by kernel_rfl
theorem k143:cF Go.Proofs.Tryz.prog 152920595456 143=some F143:=by kernel_rfl
theorem k144:cF Go.Proofs.Tryz.prog 891955568787456 144=some F144:=by kernel_rfl
theorem k70:cF Go.Proofs.Tryz.prog 114929447440384 70=some F70:=by kernel_rfl
def t0_0:Option Go.Abs.F.Fn:=none
def t0_1:N8 (Option Go.Abs.F.Fn):=.mk t0_0 t0_0 t0_0 t0_0 t0_0 t0_0 t0_0 t0_0
def t0_2:N8 (N8 (Option Go.Abs.F.Fn)):=.mk t0_1 t0_1 t0_1 t0_1 t0_1 t0_1 t0_1 t0_1
def t0_3:N8 (N8 (N8 (Option Go.Abs.F.Fn))):=.mk t0_2 t0_2 t0_2 t0_2 t0_2 t0_2 t0_2 t0_2
def tabT:N8 (N8 (N8 (N8 (Option Go.Abs.F.Fn)))):=(.mk (.mk t0_2 (.mk (.mk t0_0 t0_0 t0_0 t0_0 t0_0 (some F69) (some F70) t0_0) t0_1 t0_1 t0_1 t0_1 t0_1 t0_1 t0_1) (.mk t0_1 (.mk t0_0 t0_0 t0_0 t0_0 t0_0 t0_0 (some F142) (some F143)) (.mk (some F144) t0_0 t0_0 t0_0 t0_0 t0_0 t0_0 t0_0) t0_1 t0_1 t0_1 t0_1 t0_1) (.mk t0_1 (.mk t0_0 (some F201) t0_0 t0_0 t0_0 t0_0 t0_0 t0_0) t0_1 t0_1 t0_1 t0_1 t0_1 t0_1) t0_2 t0_2 t0_2 t0_2) t0_3 t0_3 t0_3 t0_3 t0_3 t0_3 t0_3)
def tab:Tab:=tabT
theorem tab_ok:TabF Go.Proofs.Tryz.prog noNat tab:=tabF_of (l:=[(69,F69),(142,F142),(201,F201),(143,F143),(144,F144),(70,F70)]) (tabF_cons (tabF_cons (tabF_cons (tabF_cons (tabF_cons (tabF_cons (tabF_nil) rfl rfl k70) rfl rfl k144) rfl rfl k143) rfl rfl k201) rfl rfl k142) rfl rfl k69) (by kernel_rfl)
end
end Go.Abs.TKeys
namespace Go.Abs
def sameU:List AVal→List Nat→Bool
 | [],[]=>true
 | .int .u32 z::xs,n::ns=>eqF z (.ofNat n)&&sameU xs ns
 | _,_=>false
def u32A(ns:List Nat):List AVal:=ns.map fun n=>.int .u32 (.ofNat n)
theorem sameU_spec:∀{xs:List AVal} {ns:List Nat},sameU xs ns=true→xs=u32A ns
 | [],[],_=>rfl
 | [],_::_,h=>by simp[sameU]at h
 | x::xs,[],h=>by cases x <;> simp[sameU]at h
 | x::xs,n::ns,h=>by
  unfold sameU at h
  split at h
  ·simp_all
  ·rename_i z xs' n' ns' e1 e2
   cases e1; cases e2
   simp only[Bool.and_eq_true,eqF_eq,beq_iff_eq]at h
   obtain⟨rfl,h⟩:=h
   rw[sameU_spec h]; rfl
  ·simp at h
theorem vrels_u32{ρ ρ':Pl}:∀{ns:List Nat} {us:List Value},VRels ρ (u32A ns) us→VRels ρ' (u32A ns) us
 | [],us,h=>h
 | n::ns,us,h=>by
  simp only[u32A,List.map_cons,VRels,VRel]at h ⊢
  obtain⟨v,r,h1,h2,h3⟩:=h
  exact⟨v,r,h1,h2,vrels_u32 h3⟩
section
variable {P:Program}
def TellsU(P:Program)(f:FuncId)(ns:List Nat):Prop:=∀w,Calls P f #[] w fun e w'=>∃u,e=.returned u∧(∀ρ,VRel ρ (.agg (u32A ns)) u)∧RowKit.Below w.heap.size w w'
theorem closed_u32(hfol:P.follows .mixedOrders=true){N:ANat}(hN:NatOK P N){tab:Tr AFn}(hT:TabOK P tab){n:Nat}{f:FuncId}(hf:Nat.blt f BIG=true){ns:List Nat}{H':AHeap}
  (hr:acall N tab n f [] H0=some (.agg (u32A ns),H')):TellsU P f ns:=by
 intro w
 refine (acall_ok hfol hN hT n _ _ _ _ _ hf hr _ w _ w #[] (rel_start w) (by simp only[VRels])).mono fun e w' hx=>?_
 obtain⟨ρ',u,_,rfl,R,hu⟩:=hx
 refine⟨u,rfl,fun ρ=>?_,R.below⟩
 simp only[VRel]at hu ⊢
 obtain⟨us,h1,h2⟩:=hu
 exact⟨us,h1,vrels_u32 h2⟩
end
end Go.Abs
namespace Go.Abs.F
open Go.Abs
noncomputable section
def u32T(ns:List Nat)(v:AVal)(_:FHeap):R:=match v with
 | .agg xs=>ifb (sameU xs ns) .yes .no
 | _=>.no
theorem f_closedU{P:Program}{N:ANat}(hfol:P.follows .mixedOrders=true)(hN:NatOK P N){tab:Tab}(hT:TabF P N tab){n:Nat}{f:FuncId}{ns:List Nat}
  (h:fcall tab n f [] h0 (u32T ns)=.yes) (hfb:Nat.blt f BIG=true:=by rfl):TellsU P f ns:=by
 obtain⟨A,hA,hR⟩:=hT
 rcases fcall_ok hR n f [] h0 H0 h0_rel with q | ⟨v,h',H',q1,q3,_,q4⟩
 ·rw[q]at h; simp at h
 ·rw[q4]at h
  unfold u32T at h
  split at h
  ·rename_i xs
   cases hs:sameU xs ns with
   | false=>rw[hs]at h; simp[ifb]at h
   | true=>
    obtain rfl:=sameU_spec hs
    exact closed_u32 hfol hN hA hfb q3
  ·simp at h
end
end Go.Abs.F
namespace Go.Proofs.St
open Go.Abs Go.Abs.S
open Go Go.Abs Go.Abs.F
def keysL:List Nat:=[1116352408,1899447441,3049323471,3921009573,961987163,1508970993,2453635748,2870763221,3624381080,310598401,607225278,1426881987,1925078388,2162078206,2614888103,3248222580,3835390401,4022224774,264347078,604807628,770255983,1249150122,1555081692,1996064986,2554220882,2821834349,2952996808,3210313671,3336571891,3584528711,113926993,338241895,666307205,773529912,1294757372,1396182291,1695183700,1986661051,2177026350,2456956037,2730485921,2820302411,3259730800,3345764771,3516065817,3600352804,4094571909,275423344,430227734,506948616,659060556,883997877,958139571,1322822218,1537002063,1747873779,1955562222,2024104815,2227730452,2361852424,2428436474,2756734187,3204031479,3329325298]
def startsL:List Nat:=[1779033703,3144134277,1013904242,2773480762,1359893119,2600822924,528734635,1541459225]
theorem fol2:Go.Proofs.Tryz.prog.follows .mixedOrders=true:=by kernel_rfl
set_option maxRecDepth 1000000 in
theorem keys_tells:TellsU Go.Proofs.Tryz.prog 69 keysL:=f_closedU (n:=3000) fol2 noNat_ok Go.Abs.TKeys.tab_ok (by kernel_rfl)
set_option maxRecDepth 1000000 in
theorem starts_tells:TellsU Go.Proofs.Tryz.prog 70 startsL:=f_closedU (n:=3000) fol2 noNat_ok Go.Abs.TKeys.tab_ok (by kernel_rfl)
end Go.Proofs.St
namespace Go.Proofs.St
open Go Go.Abs Go.Abs.S
open Go.Abs.F (R FHeap HRel CallT fRd1 fRd1_way hG hG_way oMap ifb ifb_eq fN fN_eq NatF fI fI_eq)
noncomputable def oSt(x:Option (List UInt8))(k:List UInt8→R):R:=@Option.rec (List UInt8) (fun _=>R) .no (fun s=>Go.Abs.F.fBy s k) x
theorem oSt_eq(x:Option (List UInt8))(k:List UInt8→R):oSt x k=match x with | some s=>k s | none=>.no:=by
 cases x with
 | none=>rfl
 | some s=>exact Go.Abs.F.fBy_eq s k
noncomputable section
def fNamesB(n m:Nat)(z:Int)(h:FHeap)(q:AVal→FHeap→R):R:=hG h m fun o=>oMap o fun es c=>fI z fun z=>oSt (oneE es c z) fun s=>
 fRowL h [.int .u8 z,.str s] (nat_lit 2) fun h=>fRowL h [.str s] (nat_lit 0) fun h=>fRowL h [.str s] (nat_lit 0) fun h=>fN (n+2) fun n=>q (.slice (some ⟨n,1,0⟩) 1 (.open_ 1)) h
def vMap1(v:AVal)(k:Nat→R):R:=match v with
 | .map (some m)=>k m
 | _=>.no
def fNamesC(n:Nat)(a:Ad)(z:Int)(h:FHeap)(q:AVal→FHeap→R):R:=fRd1 h ⟨a.b,a.lim,a.o+0⟩ fun x=>ifb (selfB (some x) a) (fRd1 h ⟨a.b,a.lim,a.o+4⟩ fun x=>vMap1 x fun m=>fNamesB n m z h q) .no
def fNames:Go.Abs.F.Fn:=fun _ _ args h q=>match args with
 | [.ptr (some a),.int .u8 z]=>@FHeap.rec (fun _=>R) (fun nx tr=>fN nx fun n=>fNamesC n a z ⟨nx,tr⟩ q) h
 | _=>.no
theorem fNamesB_way{h:FHeap}{H:AHeap}(Q:HRel h H)(m:Nat)(z:Int):(∀q,fNamesB H.next m z h q=.no)∨∃es c s h',H.get m=some (.map es c)∧oneE es c z=some s∧HRel h' (namesH H z s)∧∀q,fNamesB H.next m z h q=q (.slice (some ⟨H.next+2,1,0⟩) 1 (.open_ 1)) h':=by
 unfold fNamesB
 rcases hG_way h m with p | ⟨o,hb,ho,p⟩
 ·exact .inl fun q=>p _
 ·have e:=Q.at_ m hb
  rw[ho]at e
  cases o with
  | cells t n low ro mk=>exact .inl fun q=>p _
  | iter s pos=>exact .inl fun q=>p _
  | map es c=>
   have e':H.get m=some (.map es c):=e.symm
   have p':∀q:AVal→FHeap→R,(hG h m fun o=>oMap o fun es c=>fI z fun z=>oSt (oneE es c z) fun s=>
     fRowL h [.int .u8 z,.str s] 2 fun h=>fRowL h [.str s] 0 fun h=>fRowL h [.str s] 0 fun h=>fN (H.next+2) fun n=>q (.slice (some ⟨n,1,0⟩) 1 (.open_ 1)) h)=oSt (oneE es c z) fun s=>
     fRowL h [.int .u8 z,.str s] 2 fun h=>fRowL h [.str s] 0 fun h=>fRowL h [.str s] 0 fun h=>fN (H.next+2) fun n=>q (.slice (some ⟨n,1,0⟩) 1 (.open_ 1)) h:=fun q=>by
    refine (p _).trans ?_
    simp only[oMap,fI_eq]
   cases hs:oneE es c z with
   | none=>exact .inl fun q=>(p' q).trans (by rw[oSt_eq,hs])
   | some s=>
    rcases fRowL_way Q [.int .u8 z,.str s] 2 with r | ⟨h1,r1,Q1⟩
    ·exact .inl fun q=>(p' q).trans (by rw[oSt_eq,hs]; exact r _)
    rcases fRowL_way Q1 [.str s] 0 with r | ⟨h2,r2,Q2⟩
    ·exact .inl fun q=>(p' q).trans (by rw[oSt_eq,hs]; exact (r1 _).trans (r _))
    rcases fRowL_way Q2 [.str s] 0 with r | ⟨h3,r3,Q3⟩
    ·exact .inl fun q=>(p' q).trans (by rw[oSt_eq,hs]; exact (r1 _).trans ((r2 _).trans (r _)))
    ·exact .inr ⟨es,c,s,h3,e',hs,Q3,fun q=>(p' q).trans (by rw[oSt_eq,hs]; exact (r1 _).trans ((r2 _).trans ((r3 _).trans (fN_eq _ _))))⟩
theorem load_rd{H:AHeap}{a:Ad}{x:AVal}(h:rdCells H a 1=some [x]):oLoad false 1 H (.ptr (some a))=some x:=by
 simp[oLoad,h]
theorem fNamesC_way{h:FHeap}{H:AHeap}(Q:HRel h H)(a:Ad)(z:Int):(∀q,fNamesC H.next a z h q=.no)∨∃v h' H',namesA H [.ptr (some a),.int .u8 z]=some (v,H')∧HRel h' H'∧∀q,fNamesC H.next a z h q=q v h':=by
 unfold fNamesC
 rcases fRd1_way Q ⟨a.b,a.lim,a.o+0⟩ with p | ⟨x,hx,p⟩
 ·exact .inl fun q=>p _
 cases hs:selfB (some x) a with
 | false=>exact .inl fun q=>(p _).trans (by rw[ifb_eq,hs]; rfl)
 | true=>
  rcases fRd1_way Q ⟨a.b,a.lim,a.o+4⟩ with r | ⟨y,hy,r⟩
  ·exact .inl fun q=>(p _).trans (by rw[ifb_eq,hs]; exact r _)
  have pr:∀q,(fRd1 h ⟨a.b,a.lim,a.o+0⟩ fun x=>ifb (selfB (some x) a) (fRd1 h ⟨a.b,a.lim,a.o+4⟩ fun x=>vMap1 x fun m=>fNamesB H.next m z h q) .no)=vMap1 y fun m=>fNamesB H.next m z h q:=fun q=>(p _).trans (by rw[ifb_eq,hs]; exact r _)
  unfold vMap1 at pr
  split at pr
  ·rename_i m
   rcases fNamesB_way Q m z with t | ⟨es,c,s,h',t1,t2,t3,t4⟩
   ·exact .inl fun q=>(pr q).trans (t q)
   ·refine .inr ⟨_,h',_,?_,t3,fun q=>(pr q).trans (t4 q)⟩
    simp only[namesA,load_rd hx,load_rd hy,hs,cond_true,t1,t2]
  ·exact .inl pr
theorem fNames_way(args:List AVal){h:FHeap}{H:AHeap}(Q:HRel h H)(n:Nat)(call:CallT):(∀k,fNames n call args h k=.no)∨∃v h' H',namesA H args=some (v,H')∧HRel h' H'∧∀k,fNames n call args h k=k v h':=by
 unfold fNames
 split
 ·rename_i a z
  obtain⟨nx,tr⟩:=h
  have hn:nx=H.next:=Q.next
  subst hn
  rcases fNamesC_way Q a z with q | ⟨v,h',H',q1,q2,q3⟩
  ·exact .inl fun k=>(fN_eq _ _).trans (q _)
  ·exact .inr ⟨v,h',H',q1,q2,fun k=>(fN_eq _ _).trans (q3 _)⟩
 ·exact .inl fun k=>rfl
def tellA(v:AVal)(H:AHeap)(args:List AVal):Option (AVal×AHeap):=match args with
 | []=>some (v,H)
 | _=>none
def fTell(v:AVal):Go.Abs.F.Fn:=fun _ _ args h k=>match args with
 | []=>k v h
 | _=>.no
theorem fTell_way(v:AVal)(args:List AVal){h:FHeap}{H:AHeap}(Q:HRel h H)(n:Nat)(call:CallT):(∀k,fTell v n call args h k=.no)∨∃u h' H',tellA v H args=some (u,H')∧HRel h' H'∧∀k,fTell v n call args h k=k u h':=by
 unfold fTell
 split
 ·exact .inr ⟨v,h,H,rfl,Q,fun k=>rfl⟩
 ·exact .inl fun k=>rfl
def keysV:List AVal:=[(.int .u32 (.ofNat 1116352408)),(.int .u32 (.ofNat 1899447441)),(.int .u32 (.ofNat 3049323471)),(.int .u32 (.ofNat 3921009573)),(.int .u32 (.ofNat 961987163)),(.int .u32 (.ofNat 1508970993)),(.int .u32 (.ofNat 2453635748)),(.int .u32 (.ofNat 2870763221)),(.int .u32 (.ofNat 3624381080)),(.int .u32 (.ofNat 310598401)),(.int .u32 (.ofNat 607225278)),(.int .u32 (.ofNat 1426881987)),(.int .u32 (.ofNat 1925078388)),(.int .u32 (.ofNat 2162078206)),(.int .u32 (.ofNat 2614888103)),(.int .u32 (.ofNat 3248222580)),(.int .u32 (.ofNat 3835390401)),(.int .u32 (.ofNat 4022224774)),(.int .u32 (.ofNat 264347078)),(.int .u32 (.ofNat 604807628)),(.int .u32 (.ofNat 770255983)),(.int .u32 (.ofNat 1249150122)),(.int .u32 (.ofNat 1555081692)),(.int .u32 (.ofNat 1996064986)),(.int .u32 (.ofNat 2554220882)),(.int .u32 (.ofNat 2821834349)),(.int .u32 (.ofNat 2952996808)),(.int .u32 (.ofNat 3210313671)),(.int .u32 (.ofNat 3336571891)),(.int .u32 (.ofNat 3584528711)),(.int .u32 (.ofNat 113926993)),(.int .u32 (.ofNat 338241895)),(.int .u32 (.ofNat 666307205)),(.int .u32 (.ofNat 773529912)),(.int .u32 (.ofNat 1294757372)),(.int .u32 (.ofNat 1396182291)),(.int .u32 (.ofNat 1695183700)),(.int .u32 (.ofNat 1986661051)),(.int .u32 (.ofNat 2177026350)),(.int .u32 (.ofNat 2456956037)),(.int .u32 (.ofNat 2730485921)),(.int .u32 (.ofNat 2820302411)),(.int .u32 (.ofNat 3259730800)),(.int .u32 (.ofNat 3345764771)),(.int .u32 (.ofNat 3516065817)),(.int .u32 (.ofNat 3600352804)),(.int .u32 (.ofNat 4094571909)),(.int .u32 (.ofNat 275423344)),(.int .u32 (.ofNat 430227734)),(.int .u32 (.ofNat 506948616)),(.int .u32 (.ofNat 659060556)),(.int .u32 (.ofNat 883997877)),(.int .u32 (.ofNat 958139571)),(.int .u32 (.ofNat 1322822218)),(.int .u32 (.ofNat 1537002063)),(.int .u32 (.ofNat 1747873779)),(.int .u32 (.ofNat 1955562222)),(.int .u32 (.ofNat 2024104815)),(.int .u32 (.ofNat 2227730452)),(.int .u32 (.ofNat 2361852424)),(.int .u32 (.ofNat 2428436474)),(.int .u32 (.ofNat 2756734187)),(.int .u32 (.ofNat 3204031479)),(.int .u32 (.ofNat 3329325298))]
def startsV:List AVal:=[(.int .u32 (.ofNat 1779033703)),(.int .u32 (.ofNat 3144134277)),(.int .u32 (.ofNat 1013904242)),(.int .u32 (.ofNat 2773480762)),(.int .u32 (.ofNat 1359893119)),(.int .u32 (.ofNat 2600822924)),(.int .u32 (.ofNat 528734635)),(.int .u32 (.ofNat 1541459225))]
def fKeysT:Go.Abs.F.Fn:=fTell (.agg [(.int .u32 (.ofNat 1116352408)),(.int .u32 (.ofNat 1899447441)),(.int .u32 (.ofNat 3049323471)),(.int .u32 (.ofNat 3921009573)),(.int .u32 (.ofNat 961987163)),(.int .u32 (.ofNat 1508970993)),(.int .u32 (.ofNat 2453635748)),(.int .u32 (.ofNat 2870763221)),(.int .u32 (.ofNat 3624381080)),(.int .u32 (.ofNat 310598401)),(.int .u32 (.ofNat 607225278)),(.int .u32 (.ofNat 1426881987)),(.int .u32 (.ofNat 1925078388)),(.int .u32 (.ofNat 2162078206)),(.int .u32 (.ofNat 2614888103)),(.int .u32 (.ofNat 3248222580)),(.int .u32 (.ofNat 3835390401)),(.int .u32 (.ofNat 4022224774)),(.int .u32 (.ofNat 264347078)),(.int .u32 (.ofNat 604807628)),(.int .u32 (.ofNat 770255983)),(.int .u32 (.ofNat 1249150122)),(.int .u32 (.ofNat 1555081692)),(.int .u32 (.ofNat 1996064986)),(.int .u32 (.ofNat 2554220882)),(.int .u32 (.ofNat 2821834349)),(.int .u32 (.ofNat 2952996808)),(.int .u32 (.ofNat 3210313671)),(.int .u32 (.ofNat 3336571891)),(.int .u32 (.ofNat 3584528711)),(.int .u32 (.ofNat 113926993)),(.int .u32 (.ofNat 338241895)),(.int .u32 (.ofNat 666307205)),(.int .u32 (.ofNat 773529912)),(.int .u32 (.ofNat 1294757372)),(.int .u32 (.ofNat 1396182291)),(.int .u32 (.ofNat 1695183700)),(.int .u32 (.ofNat 1986661051)),(.int .u32 (.ofNat 2177026350)),(.int .u32 (.ofNat 2456956037)),(.int .u32 (.ofNat 2730485921)),(.int .u32 (.ofNat 2820302411)),(.int .u32 (.ofNat 3259730800)),(.int .u32 (.ofNat 3345764771)),(.int .u32 (.ofNat 3516065817)),(.int .u32 (.ofNat 3600352804)),(.int .u32 (.ofNat 4094571909)),(.int .u32 (.ofNat 275423344)),(.int .u32 (.ofNat 430227734)),(.int .u32 (.ofNat 506948616)),(.int .u32 (.ofNat 659060556)),(.int .u32 (.ofNat 883997877)),(.int .u32 (.ofNat 958139571)),(.int .u32 (.ofNat 1322822218)),(.int .u32 (.ofNat 1537002063)),(.int .u32 (.ofNat 1747873779)),(.int .u32 (.ofNat 1955562222)),(.int .u32 (.ofNat 2024104815)),(.int .u32 (.ofNat 2227730452)),(.int .u32 (.ofNat 2361852424)),(.int .u32 (.ofNat 2428436474)),(.int .u32 (.ofNat 2756734187)),(.int .u32 (.ofNat 3204031479)),(.int .u32 (.ofNat 3329325298))])
def fStartsT:Go.Abs.F.Fn:=fTell (.agg [(.int .u32 (.ofNat 1779033703)),(.int .u32 (.ofNat 3144134277)),(.int .u32 (.ofNat 1013904242)),(.int .u32 (.ofNat 2773480762)),(.int .u32 (.ofNat 1359893119)),(.int .u32 (.ofNat 2600822924)),(.int .u32 (.ofNat 528734635)),(.int .u32 (.ofNat 1541459225))])
theorem keysV_eq:keysV=u32A keysL:=rfl
theorem startsV_eq:startsV=u32A startsL:=rfl
def natT(w:Bool):ANat:=⟨fun f=>Nat.beq f 47||(Nat.beq f 211||(Nat.beq f 69||(Nat.beq f 70||(w&&Nat.beq f 12)))),fun f args H=>bif Nat.beq f 47 then linesA H args else bif Nat.beq f 211 then aCloneU H args else bif Nat.beq f 69 then tellA (.agg keysV) H args
 else bif Nat.beq f 70 then tellA (.agg startsV) H args else bif Nat.beq f 12 then namesA H args else none,fun _=>none⟩
theorem tells_run{f:FuncId}{ns:List Nat}(hT:TellsU Tryz.prog f ns){args:List AVal}{H:AHeap}{v:AVal}{H':AHeap}(h:tellA (.agg (u32A ns)) H args=some (v,H'))(Prot:Gh)(w0:World)(ρ:Pl)(w:World)(vs:Array Value)(R:Rel Prot w0 ρ H w)(hv:VRels ρ args vs.toList) :
  Calls Tryz.prog f vs w fun e w'=>∃ρ' u,ρ.le ρ'∧e=.returned u∧Rel Prot w0 ρ' H' w'∧VRel ρ' v u:=by
 unfold tellA at h
 split at h
 ·simp only[sJ,pJ]at h
  obtain⟨rfl,rfl⟩:=h
  simp only[VRels]at hv
  obtain rfl:vs=#[]:=Array.toList_inj.1 (by simpa using hv)
  exact (hT w).mono fun e w' ⟨u,he,hu,hk⟩=>⟨ρ,u,Pl.le_refl _,he,R.keep hk,hu ρ⟩
 ·simp at h
theorem hbNames:hasBody Tryz.prog 12=true:=by kernel_rfl
theorem hbKeys:hasBody Tryz.prog 69=true:=by kernel_rfl
theorem hbStarts:hasBody Tryz.prog 70=true:=by kernel_rfl
theorem natT_ok(b:Bool):NatOK Tryz.prog (natT b):=by
 refine⟨fun f h=>?_,fun f args H v H' _ hr Prot w0 ρ w vs R hv=>?_⟩
 ·have h':(Nat.beq f 47||(Nat.beq f 211||(Nat.beq f 69||(Nat.beq f 70||(b&&Nat.beq f 12)))))=true:=h
  simp only[Bool.or_eq_true,Bool.and_eq_true]at h'
  rcases h' with h | h | h | h | ⟨_,h⟩ <;> obtain rfl:=Nat.eq_of_beq_eq_true h
  ·exact hbLines
  ·exact hbClone
  ·exact hbKeys
  ·exact hbStarts
  ·exact hbNames
 ·show Calls Tryz.prog f vs w _
  have hr2:(bif Nat.beq f 47 then linesA H args else bif Nat.beq f 211 then aCloneU H args else bif Nat.beq f 69 then tellA (.agg keysV) H args
   else bif Nat.beq f 70 then tellA (.agg startsV) H args else bif Nat.beq f 12 then namesA H args else none)=some (v,H'):=hr
  cases hb:Nat.beq f 47 with
  | true=>
   obtain rfl:f=47:=Nat.eq_of_beq_eq_true hb
   exact natU_ok.run _ _ _ _ _ rfl (show natU.run 47 args H=some (v,H') from hr2) Prot w0 ρ w vs R hv
  | false=>
  rw[hb,cond_false]at hr2
  cases hb2:Nat.beq f 211 with
  | true=>
   obtain rfl:f=211:=Nat.eq_of_beq_eq_true hb2
   exact natU_ok.run _ _ _ _ _ rfl (show natU.run 211 args H=some (v,H') from hr2) Prot w0 ρ w vs R hv
  | false=>
  rw[hb2,cond_false]at hr2
  cases hb3:Nat.beq f 69 with
  | true=>
   obtain rfl:f=69:=Nat.eq_of_beq_eq_true hb3
   rw[hb3,cond_true,keysV_eq]at hr2
   exact tells_run keys_tells hr2 Prot w0 ρ w vs R hv
  | false=>
  rw[hb3,cond_false]at hr2
  cases hb4:Nat.beq f 70 with
  | true=>
   obtain rfl:f=70:=Nat.eq_of_beq_eq_true hb4
   rw[hb4,cond_true,startsV_eq]at hr2
   exact tells_run starts_tells hr2 Prot w0 ρ w vs R hv
  | false=>
  rw[hb4,cond_false]at hr2
  cases hb5:Nat.beq f 12 with
  | true=>
   obtain rfl:f=12:=Nat.eq_of_beq_eq_true hb5
   rw[hb5,cond_true]at hr2
   exact names_run hr2 Prot w0 ρ w vs R hv
  | false=>rw[hb5]at hr2; simp at hr2
theorem natT_F(b:Bool):NatF (natT b) 47 fLines:=⟨rfl,fun n call args _ _ Q=>fLines_way args Q n call⟩
theorem natT_C(b:Bool):NatF (natT b) 211 fClone:=⟨rfl,fun n call args _ _ Q=>fClone_way args Q n call⟩
theorem natT_K(b:Bool):NatF (natT b) 69 fKeysT:=⟨rfl,fun n call args _ _ Q=>fTell_way _ args Q n call⟩
theorem natT_S(b:Bool):NatF (natT b) 70 fStartsT:=⟨rfl,fun n call args _ _ Q=>fTell_way _ args Q n call⟩
theorem natT_N:NatF (natT true) 12 fNames:=⟨rfl,fun n call args _ _ Q=>fNames_way args Q n call⟩
end
end Go.Proofs.St
