/- Symbolic runs of the abstract machine, part 7: slices that came in. Plain Lean. -/
import Derived.Test.YtndeemjhengoiaaS6
namespace Go.Abs.S
open Go.Abs
/-- a slice that came in: room that is known -/
def ArgS (n : Nat) (H : AHeap) (s : AVal) (l : List AVal) : Prop :=
  (s = nilS ∧ l = []) ∨ ∃ a cap, s = .slice (some a) l.length (.known cap) ∧ l.length ≤ cap ∧ a.b < n ∧ rdCells H a l.length = some l
theorem ArgS.cel {n : Nat} {H : AHeap} {s : AVal} {l : List AVal} (h : ArgS n H s l) : Cel n H s l := by
  rcases h with h | ⟨a, c, h1, h2, h3, h4⟩
  · exact .inl h
  · exact .inr ⟨a, _, h1, h3, h4⟩
theorem ArgS.ext {n : Nat} {H H' : AHeap} {s : AVal} {l : List AVal} (h : ArgS n H s l) (e : Ext n H H') : ArgS n H' s l := by
  rcases h with h | ⟨a, c, h1, h2, h3, h4⟩
  · exact .inl h
  · exact .inr ⟨a, c, h1, h2, h3, by rw [rd_congr (e.old _ h3)]; exact h4⟩
theorem rd_pre {H : AHeap} {a : Ad} {n k : Nat} {xs : List AVal} (h : rdCells H a n = some xs) (hk : k ≤ n) : rdCells H a k = some (xs.take k) := by
  obtain ⟨l, low, ro, h1, h2, h3, h4, rfl⟩ := rd_spec h
  unfold rdCells
  simp only [h1, Nat.ble_eq_true_of_le h2, Nat.ble_eq_true_of_le h3, Nat.ble_eq_true_of_le (show a.o + k ≤ a.lim by omega), Bool.and_self, cond_true]
  rw [List.take_take, Nat.min_eq_left hk]
theorem ArgS.take {n : Nat} {H : AHeap} {s : AVal} {l : List AVal} (h : ArgS n H s l) {k : Nat} (hk : k ≤ l.length) : ∃ s', aSl 1 s none (some (.int .i64 (k : Int))) none = some s' ∧ ArgS n H s' (l.take k) := by
  have hbd : ∀ c, k ≤ c → aBnd l.length c none (some (.int .i64 (k : Int))) none = some (0, k, none) := by
    intro c hc
    show (match bdO (some (AVal.int .i64 (Int.ofNat k))) c l.length with | some h => (match bdO none h 0 with | some l => some (l, h, none) | none => none) | none => none) = _
    simp only [bdO, bd, Nat.ble_eq_true_of_le hc, cond_true]
  rcases h with ⟨rfl, rfl⟩ | ⟨a, c, rfl, h2, h3, h4⟩
  · obtain rfl : k = 0 := by simpa using hk
    exact ⟨nilS, rfl, .inl ⟨rfl, rfl⟩⟩
  · have hlt : (l.take k).length = k := by simp; omega
    have hr := rd_pre h4 hk
    simp only [aSl, hbd c (by omega), Option.getD_none, Nat.sub_zero, Nat.zero_mul, Nat.add_zero]
    cases Nat.beq c 0 with
    | true => exact ⟨_, rfl, .inr ⟨a, c, by rw [hlt], by omega, h3, by rw [hlt]; exact hr⟩⟩
    | false => exact ⟨_, rfl, .inr ⟨a, c, by rw [hlt], by omega, h3, by rw [hlt]; exact hr⟩⟩
theorem row_newL (H : AHeap) (l : List AVal) {n : Nat} (hn : l.length = n) : ∃ H', oNew H l = (cellR H.next n 0, H') ∧ Row H' H.next l ∧ H'.next = H.next + 1 ∧ ∀ c, c ≠ H.next → H'.get c = H.get c := by
  subst hn
  exact ⟨_, rfl, row_push _ _, rfl, fun c hc => by rw [AHeap.get_push, if_neg hc]⟩
theorem cells_agg (l : List AVal) : (AVal.agg l).cells = l := _root_.id rfl
theorem ext_0 (x : AVal) (r : List AVal) : aExtract 0 (.tuple (x :: r)) = some x := _root_.id rfl
theorem ext_1 (x y : AVal) (r : List AVal) : aExtract 1 (.tuple (x :: y :: r)) = some y := _root_.id rfl
theorem ext_2 (x y z : AVal) (r : List AVal) : aExtract 2 (.tuple (x :: y :: z :: r)) = some z := _root_.id rfl
theorem arr_idx {b n i : Nat} (h : i < n) (k : IntKind) : aIdxArr n 1 (cellR b n 0) (.int k (i : Int)) = some (cellR b n i) := by
  show (bif Nat.blt i n then some (AVal.ptr (some ⟨b, n, 0 + i * 1⟩)) else none) = _
  have : Nat.blt i n = true := by simpa [Nat.blt_eq] using h
  rw [this, Nat.zero_add, Nat.mul_one]; rfl
theorem Ext.of_new {H H' : AHeap} {b : Nat} (hn : H'.next = H.next + 1) (h : ∀ c, c ≠ b → H'.get c = H.get c) {n : Nat} (hb : n ≤ b) : Ext n H H' := ⟨by omega, fun c hc => h c (by omega)⟩
/-! what came in, out of the world -/
theorem rd_world {w : World} {c n off len : Nat} (hr : rowOf w c = some n) (hb : off + len ≤ n) {l : List AVal} (hl : l.length = len)
    (h : ∀ i, i < len → ∃ v, w.cell? ⟨c, off + i, none⟩ = some v ∧ l[i]? = some (absW w v)) : rdCells (heapW w) ⟨c, n, off⟩ len = some l := by
  obtain ⟨C, e, fz, h1, h2, h3⟩ := objW_some hr
  unfold rdCells
  rw [heapW_get, h3]
  simp only [List.length_map, Array.length_toList, h2, Nat.ble_eq_true_of_le (Nat.zero_le _), Nat.ble_eq_true_of_le (Nat.le_refl _), Nat.ble_eq_true_of_le hb, Bool.and_self, cond_true, Option.some.injEq]
  apply List.ext_getElem?
  intro i
  by_cases hi : i < len
  · obtain ⟨v, q1, q2⟩ := h i hi
    rw [q2, List.getElem?_take_of_lt hi, List.getElem?_drop, List.getElem?_map, Array.getElem?_toList]
    rw [cell?_of h1] at q1
    rw [q1]; rfl
  · rw [List.getElem?_eq_none (by simp; omega), List.getElem?_eq_none (by omega)]
end Go.Abs.S
