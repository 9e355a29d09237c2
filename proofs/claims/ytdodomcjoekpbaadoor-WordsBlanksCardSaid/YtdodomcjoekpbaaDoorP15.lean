/- Words: what the row's premise on package-level variables gives; a start that meets it. Plain Lean. -/
import Derived.Test.YtdodomcjoekpbaaDoorRows
import Derived.LaidLaws
import Derived.LaidHandle
import Derived.Lay
import Derived.Test.YtdodomcjoekpbaaDoorP5
import Derived.Test.YtdodomcjoekpbaaDoorP11
import Derived.Test.YtdodomcjoekpbaaDoorP14
set_option linter.unusedSimpArgs false
set_option linter.unusedVariables false
namespace Go.Proofs.YtdodomcjoekpbaaDoor
open Go.ChangeShapes Go.WideShapes Go.RowKit
open Go.Abs Go.Abs.S Go.Proofs.Wo
theorem own : ownKnob Tryd.prog.godebug = none := by kernel_rfl
/-- an array of whole numbers that reads as it should holds them -/
theorem ints_of_trod {H : Type} {enc : TypeId × Value → H} {P : Program} {w : World} {base : Nat} {spare : Nat → Bool} {held : Bool} {fuel n : Nat} {t e : TypeId} {k : IntKind} {cs : List Value} {p : List MemPlace} {l : List Int}
    (ht : P.underlying t = some (.array n e)) (he : P.underlying e = some (.int k)) (hc : P.cellsOf e = 1) (hct : P.cellsOf t = n)
    (h : DataW.trod enc P w base spare held fuel t cs = some (.agg (l.map fun x => .lit (.int k x)), p)) : cs = l.map (.int k) := by
  obtain ⟨xs, m, _, hx, hl, hn, hi⟩ := DataW.trod_array ht h
  simp only [Prod.mk.injEq, DataW.agg.injEq] at hx
  have hll : l.length = n := by
    have := congrArg List.length hx.1
    simp at this; omega
  apply List.ext_getElem?
  intro i
  by_cases hlt : i < n
  · have h1 := hi i hlt
    rw [hc, Nat.mul_one] at h1
    have hxi : ∃ x, xs[i]? = some x := ⟨xs[i]'(by omega), List.getElem?_eq_getElem _⟩
    obtain ⟨x, hxi⟩ := hxi
    rw [hxi] at h1
    obtain ⟨y, hy, hyx, _⟩ := DataW.trod_int he h1
    have hli : l[i]? = some (l[i]'(by omega)) := List.getElem?_eq_getElem _
    have h2 := congrArg (·[i]?) hx.1
    simp only [List.getElem?_map, hxi, hli, Option.map_some, Option.some.injEq, hyx] at h2
    simp only [DataW.lit.injEq, Lit.int.injEq, true_and] at h2
    have h3 : cs[i]? = some (.int k y) := by
      have := congrArg (·[0]?) hy
      simpa [List.getElem?_take, List.getElem?_drop] using this
    rw [h3, List.getElem?_map, hli, ← h2]
    rfl
  · rw [List.getElem?_eq_none (by omega), List.getElem?_eq_none (by simp; omega)]
theorem var_row {P : Program} {w : World} {n : String} {g : Nat} {cs : Array Value} (hg : P.globalNamed n = some g) (h : w.var? P n = some cs) : ∃ e fz, w.heap[g]? = some (.cells cs e fz) := by
  simp only [World.var?, hg, Option.bind_some] at h
  split at h
  · rename_i C e fz hC
    simp only [Option.some.injEq] at h
    subst h
    exact ⟨_, _, hC⟩
  · simp at h
abbrev laidL : List (String × DataW Unit) := Rows.wordsTellRow.laid
theorem glo_of_laid {W : World} (h : laidMetH Tryd.prog laidL W) : Glo (heapW W) 1 powL ∧ 1 < (heapW W).next := by
  have h' : laidMet Tryd.prog laidL W := h
  obtain ⟨ps, hl, _, _⟩ := h'
  obtain ⟨_, _, _, _, _, _, _, _, _, _, hl, _⟩ := hl
  obtain ⟨_, _, _, _, _, _, _, _, _, _, hl, _⟩ := hl
  obtain ⟨g, t, cs, f, p, q, hg, ht, hv, htr, _, _⟩ := hl
  have e1 : some 1 = some g := Eq.trans (by kernel_rfl) hg
  simp only [Option.some.injEq] at e1
  subst e1
  have e2 : some 126 = some t := Eq.trans (by kernel_rfl) ht
  simp only [Option.some.injEq] at e2
  subst e2
  have hcs := ints_of_trod (l := (List.range 20).map fun i => ((10 ^ i : Nat) : Int)) Tryd.underlying126 (k := .u64) Tryd.underlying58 (by kernel_rfl) (by kernel_rfl) htr
  obtain ⟨e, fz, hrow⟩ := var_row hg hv
  refine ⟨?_, (Array.getElem?_eq_some_iff.1 hrow).1⟩
  unfold Glo
  rw [heapW_get]
  unfold objW
  simp only [hrow, hcs]
  rfl
end Go.Proofs.YtdodomcjoekpbaaDoor
