/- Symbolic runs of the abstract machine, part 8: lists of numbers that came in, out of the world. Plain Lean. -/
import Derived.Test.YtndeemjhengoiaaS7
import Derived.OpenShut
import Derived.ChangeSlices
import Derived.WideShapes
import Derived.SizedLaws
namespace Go.Abs.S
open Go.Abs Go.WideShapes Go.ChangeShapes
theorem rowAt_off {p : Program} {fits : TypeId → Bool} {d : Nat} {e : TypeId} {count off n : Nat} (h : rowAt p fits d e count off n = true) : off ≤ count * p.cellsOf e := by
  cases d with
  | zero => simp [rowAt] at h
  | succ d =>
    unfold rowAt at h
    simp only at h
    split at h
    · simp at h
    · rename_i hs
      have hdiv := Nat.div_add_mod off (p.cellsOf e)
      have hmod := Nat.mod_lt off (Nat.pos_of_ne_zero hs)
      have key : off / p.cellsOf e ≤ count → (off % p.cellsOf e = 0 ∨ off / p.cellsOf e < count) → off ≤ count * p.cellsOf e := by
        intro h1 h2
        rcases h2 with h2 | h2
        · have := Nat.mul_le_mul_right (p.cellsOf e) h1
          rw [Nat.mul_comm] at hdiv
          omega
        · have := Nat.mul_le_mul_right (p.cellsOf e) (Nat.succ_le_of_lt h2)
          rw [Nat.succ_mul] at this
          rw [Nat.mul_comm] at hdiv
          omega
      simp only [Bool.or_eq_true, Bool.and_eq_true, decide_eq_true_eq, beq_iff_eq] at h
      rcases h with ⟨⟨h1, h2⟩, _⟩ | ⟨h1, _⟩
      · exact key (by omega) (.inl h1)
      · exact key (by omega) (.inr h1)
theorem liesAt_off {p : Program} : ∀ {d : Nat} {e : TypeId} {count off : Nat} {u : TypeId} {n : Nat}, liesAt p d e count off u n = true → off ≤ count * p.cellsOf e := by
  intro d
  induction d with
  | zero => intro e count off u n h; simp [liesAt] at h
  | succ d ih =>
    intro e count off u n h
    unfold liesAt at h
    simp only [Bool.or_eq_true] at h
    rcases h with h | h
    · exact rowAt_off h
    · split at h
      · exact ih h
      · simp at h
/-- where a slice that came in lies -/
theorem okWide_room {P : Program} {w : World} {r : Reach} {base : Nat} {t e : TypeId} {a : Addr} {len cap : Nat} (ht : P.underlying t = some (.slice e)) (h : Value.okWide P w r base t (.slice (some a) len cap)) :
    a.spot = none ∧ len ≤ cap ∧ ∃ n, rowOf w a.block = some n ∧ a.off ≤ n := by
  simp only [Value.okWide, ht, Cell.okWide, Cell.ok] at h
  obtain ⟨h1, _, _, h2, row, cells, h3, h4⟩ := h
  refine ⟨h2, h1, cells, ?_, Nat.le_trans (liesAt_off h4) (Nat.div_mul_le_self _ _)⟩
  unfold World.shape? at h3
  unfold rowOf
  split at h3
  · rename_i c el fz hc
    simp only [Option.some.injEq, Prod.mk.injEq] at h3
    rw [hc]
    simp only [h3.2]
  · simp at h3
theorem cells_slice (v : Value) {a : Option Addr} {len cap : Nat} (h : v = .slice a len cap) : v.cells.toList = [.slice a len cap] := by subst h; rfl
variable {H : Type} {enc : TypeId × Value → H}
theorem arg_ints {P : Program} {W : World} {base : Nat} {t e : TypeId} {v : Value} {d : DataW H} {p : List MemPlace} (ht : P.underlying t = some (.slice e)) (he : P.underlying e = some (.int .i64)) (hc : P.cellsOf e = 1)
    (hok : Value.okWide P W .any base t v) (h : DataW.Trod enc P W 0 (fun _ => true) true t v d p) :
    ∃ l : List Int, ArgS (heapW W).next (heapW W) (absW W v) (ints l) ∧ ((d = .nil ∧ l = []) ∨ ∃ el sp, d = .slice el sp ∧ el.length = l.length) := by
  obtain ⟨oa, len, cap, rfl⟩ := okWide_slice ht hok
  obtain ⟨fuel, hf⟩ := h
  rw [cells_slice _ rfl] at hf
  rcases open_ints ht he hc hf with ⟨h1, h2⟩ | ⟨a, len', cap', zs, h1, _, h3, h4, h5, h6, h7, _⟩
  · simp only [List.cons.injEq, Value.slice.injEq, and_true] at h1
    obtain ⟨rfl, rfl, rfl⟩ := h1
    simp only [Prod.mk.injEq] at h2
    exact ⟨[], .inl ⟨by simp [absW, nilS], rfl⟩, .inl ⟨h2.1, rfl⟩⟩
  · simp only [List.cons.injEq, Value.slice.injEq, and_true] at h1
    obtain ⟨rfl, rfl, rfl⟩ := h1
    simp only [if_true] at h5
    obtain ⟨q1, q2, n, q3, q4⟩ := okWide_room ht hok
    obtain ⟨c, off, spot⟩ := a
    simp only at q1 q3 q4
    subst q1
    simp only [Prod.mk.injEq] at h6
    have hlt : (zs.take len).length = len := by simp; omega
    have hcell : ∀ i, i < len → W.cell? ⟨c, off + i, none⟩ = some (.int .i64 (zs.getD i 0)) := fun i hi => by
      have := h7 i (by omega)
      rwa [add_none] at this
    have hb : off + len ≤ n := by
      by_cases h0 : len = 0
      · omega
      · obtain ⟨C, e', fz, g1, g2, _⟩ := objW_some q3
        have := hcell (len - 1) (by omega)
        rw [cell?_of g1] at this
        have := (Array.getElem?_eq_some_iff.1 this).1
        omega
    refine ⟨zs.take len, .inr ⟨⟨c, n, off⟩, cap, ?_, by rw [ints_len, hlt]; exact q2, ?_, ?_⟩, .inr ⟨_, _, h6.1, by simp [lits]⟩⟩
    · rw [ints_len, hlt]
      simp only [absW, q2, if_true, q3]
    · obtain ⟨C, e', fz, g1, _, _⟩ := objW_some q3
      exact (Array.getElem?_eq_some_iff.1 g1).1
    · rw [ints_len, hlt]
      refine rd_world q3 hb (by rw [ints_len, hlt]) fun i hi => ⟨_, hcell i hi, ?_⟩
      simp only [absW]
      refine ints_get ?_
      rw [List.getElem?_take_of_lt hi]
      have hz : i < zs.length := by omega
      rw [List.getElem?_eq_getElem hz]
      simp [List.getD, hz]
/-- how long it is at most -/
theorem arg_sized {P : Program} {ts : List TypeId} {ds : List (DataW H)} (h : (DataW.weightsEach P ts ds).all (· ≤ reachBytes) = true) {j : Nat} {t e : TypeId} {d : DataW H} {l : List Int} (ht : ts[j]? = some t) (hd : ds[j]? = some d) (hu : P.underlying t = some (.slice e))
    (hb : P.bytesOf e = 8) (hl : (d = .nil ∧ l = []) ∨ ∃ el sp, d = .slice el sp ∧ el.length = l.length) : l.length * 8 ≤ 140737488351232 := by
  rcases hl with ⟨_, rfl⟩ | ⟨el, sp, rfl, hl⟩
  · simp
  · have := sized_slice h ht hd hu
    rw [hb] at this
    have e : reachBytes = 140737488351232 := by decide
    omega
end Go.Abs.S
