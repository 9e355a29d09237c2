/- The fast machine, part 6: a compiled function is compared with a printed one in steps (code, names, combinators). Plain Lean. -/
import Derived.Test.YtndeemjhengoiaaF5
namespace Go.Abs.F
open Go.Abs
noncomputable section
theorem cF_of {P : Program} {m : Nat} {f : FuncId} {a : AFn} {F : Fn} (h : cFn P f = some a) (e : fFn (dOf m) a = F) : cF P m f = some F := by
  simp only [cF, h, e]
theorem hv_reg {D : Nat → Bool} {bs : List Nat} {l : List AOper} {rl : List RO} {y : K} (h : resL D l [] = rl) (e : fOps2 D rl = y) : fCode D bs (.reg l) = y := by
  rw [← e, ← h]; rfl
theorem hv_draw {D : Nat → Bool} {bs : List Nat} {l : List AOper} {chk : List (List Nat)} {rl : List RO} {y : K} (hn : isNil (newsOf l) = true) (ha : allNil chk = true) (h : resL D l [] = rl) (e : fOps2 D rl = y) : fCode D bs (.draw l chk) = y := by
  rw [← e, ← h]
  simp only [fCode, fDraw, hn, dBody, ha, cond_true]
  rfl
end
end Go.Abs.F
