/- Frames of weights, in plain Lean: who is owed the most, what is owed behind so many ticks, the frame. -/
namespace Go.Proofs.Fr
def add (o w : List Int) : List Int := List.zipWith (· + ·) o w
/-- from i on, k looks: who is owed the most, the first of these -/
def am (o : List Int) : Nat → Nat → Nat → Nat
  | who, _, 0 => who
  | who, i, k + 1 => am o (if o.getD who 0 < o.getD i 0 then i else who) (i + 1) k
def amax (o : List Int) : Nat := am o 0 0 o.length
/-- what is owed behind k ticks -/
def ow (w : List Int) (s : Int) : Nat → List Int
  | 0 => List.replicate w.length 0
  | k + 1 => (add (ow w s k) w).set (amax (add (ow w s k) w)) ((add (ow w s k) w).getD (amax (add (ow w s k) w)) 0 - s)
def pk (w : List Int) (s : Int) (k : Nat) : Nat := amax (add (ow w s k) w)
def picks (w : List Int) (s : Int) (k : Nat) : List Int := (List.range k).map fun i => (pk w s i : Int)
def okB (w : List Int) : Bool := decide (1 ≤ w.length) && decide (w.length ≤ 16) && w.all (fun x => decide (1 ≤ x) && decide (x ≤ 256)) && decide (w.sum ≤ 256)
def frame (w : List Int) : List Int := picks w w.sum w.sum.toNat

theorem am_lt (o : List Int) (n : Nat) : ∀ (k who i : Nat), who < n → i + k ≤ n → am o who i k < n
  | 0, who, i, h, _ => h
  | k + 1, who, i, h, hi => by
    simp only [am]
    split
    · exact am_lt o n k i (i + 1) (by omega) (by omega)
    · exact am_lt o n k who (i + 1) h (by omega)
theorem add_len (o w : List Int) (h : o.length = w.length) : (add o w).length = w.length := by simp [add, h]
theorem ow_len (w : List Int) (s : Int) : ∀ k, (ow w s k).length = w.length
  | 0 => by simp [ow]
  | k + 1 => by simp only [ow, List.length_set]; exact add_len _ _ (ow_len w s k)
theorem pk_lt (w : List Int) (s : Int) (k : Nat) (h : 0 < w.length) : pk w s k < w.length := by
  have := add_len (ow w s k) w (ow_len w s k)
  unfold pk amax
  exact am_lt _ _ _ _ _ h (by omega)
theorem picks_succ (w : List Int) (s : Int) (k : Nat) : picks w s (k + 1) = picks w s k ++ [(pk w s k : Int)] := by
  simp [picks, List.range_succ]
theorem picks_len (w : List Int) (s : Int) (k : Nat) : (picks w s k).length = k := by simp [picks]
theorem add_get {o w : List Int} {i : Nat} {x y : Int} (h : o[i]? = some x) (k : w[i]? = some y) : (add o w)[i]? = some (x + y) := by
  simp [add, List.getElem?_zipWith, h, k]
/-- all is between -b and b -/
def Bd (b : Int) (l : List Int) : Prop := ∀ x ∈ l, -b ≤ x ∧ x ≤ b
theorem Bd.get {b : Int} {l : List Int} (h : Bd b l) {i : Nat} {x : Int} (hx : l[i]? = some x) : -b ≤ x ∧ x ≤ b := h x (List.mem_of_getElem? hx)
theorem bd_add {b : Int} {o w : List Int} (h : Bd b o) (hw : ∀ x ∈ w, 1 ≤ x ∧ x ≤ 256) : ∀ x ∈ add o w, -b ≤ x ∧ x ≤ b + 256 := by
  intro x hx
  obtain ⟨i, hi⟩ := List.getElem?_of_mem hx
  simp only [add, List.getElem?_zipWith] at hi
  split at hi
  · rename_i a c ha hc
    simp only [Option.some.injEq] at hi
    subst hi
    have h1 := h.get ha
    have h2 := hw c (List.mem_of_getElem? hc)
    omega
  · simp at hi
theorem ow_bd (w : List Int) (s : Int) (hs : 0 ≤ s) (hs2 : s ≤ 256) (hw : ∀ x ∈ w, 1 ≤ x ∧ x ≤ 256) : ∀ k : Nat, Bd (256 * k) (ow w s k)
  | 0 => by intro x hx; simp only [ow, List.mem_replicate] at hx; omega
  | k + 1 => by
    have ih := bd_add (ow_bd w s hs hs2 hw k) hw
    intro x hx
    simp only [ow] at hx
    rcases List.mem_or_eq_of_mem_set hx with hx | rfl
    · have := ih x hx
      omega
    · by_cases hl : amax (add (ow w s k) w) < (add (ow w s k) w).length
      · have hm := ih _ (List.getElem_mem hl)
        have e : (add (ow w s k) w).getD (amax (add (ow w s k) w)) 0 = (add (ow w s k) w)[amax (add (ow w s k) w)] := by simp [List.getD, hl]
        rw [e]
        omega
      · have e : (add (ow w s k) w).getD (amax (add (ow w s k) w)) 0 = 0 := by simp [List.getD, List.getElem?_eq_none (Nat.le_of_not_lt hl)]
        rw [e]
        omega
/-- the first i have their weight more, the others not yet -/
def part (o w : List Int) (i : Nat) : List Int := (add o w).take i ++ o.drop i
theorem part_zero (o w : List Int) : part o w 0 = o := by simp [part]
theorem part_len {o w : List Int} (h : o.length = w.length) (i : Nat) (hi : i ≤ w.length) : (part o w i).length = w.length := by
  simp [part, add_len o w h, h]; omega
theorem part_all {o w : List Int} (h : o.length = w.length) : part o w w.length = add o w := by
  have := add_len o w h
  simp only [part]
  rw [← this, List.take_length, List.drop_eq_nil_of_le (by omega), List.append_nil]
theorem part_get {o w : List Int} (h : o.length = w.length) {i : Nat} {x : Int} (hx : o[i]? = some x) (hi : i < w.length) : (part o w i)[i]? = some x := by
  have := add_len o w h
  simp only [part]
  rw [List.getElem?_append_right (by simp; omega)]
  simp only [List.length_take, List.getElem?_drop]
  rw [show i + (i - min i (add o w).length) = i by omega]
  exact hx
theorem part_set {o w : List Int} (h : o.length = w.length) {i : Nat} {x y : Int} (hx : o[i]? = some x) (hy : w[i]? = some y) : (part o w i).set i (x + y) = part o w (i + 1) := by
  have ha := add_len o w h
  have hi : i < w.length := (List.getElem?_eq_some_iff.1 hy).1
  have hp := part_len h i (by omega)
  apply List.ext_getElem?
  intro j
  by_cases e : i = j
  · subst e
    rw [List.getElem?_set_self (by omega)]
    simp only [part]
    rw [List.getElem?_append_left (by simp; omega), List.getElem?_take_of_lt (by omega), add_get hx hy]
  · rw [List.getElem?_set_ne e]
    simp only [part]
    by_cases lt : j < i
    · rw [List.getElem?_append_left (by simp; omega), List.getElem?_take_of_lt lt, List.getElem?_append_left (by simp; omega), List.getElem?_take_of_lt (by omega)]
    · rw [List.getElem?_append_right (by simp; omega), List.getElem?_append_right (by simp; omega)]
      simp only [List.length_take, List.getElem?_drop]
      congr 1
      omega

theorem okB_iff (w : List Int) : okB w = true ↔ 1 ≤ w.length ∧ w.length ≤ 16 ∧ (∀ x ∈ w, 1 ≤ x ∧ x ≤ 256) ∧ w.sum ≤ 256 := by
  simp only [okB, Bool.and_eq_true, decide_eq_true_eq, List.all_eq_true, and_assoc]
theorem take_ok {w : List Int} {i : Nat} {x : Int} (h : ∀ y ∈ w.take i, 1 ≤ y ∧ y ≤ 256) (hx : w[i]? = some x) (k : 1 ≤ x ∧ x ≤ 256) : ∀ y ∈ w.take (i + 1), 1 ≤ y ∧ y ≤ 256 := by
  intro y hy
  rw [List.take_add_one, hx] at hy
  simp only [Option.toList_some, List.mem_append, List.mem_singleton] at hy
  rcases hy with hy | rfl
  · exact h y hy
  · exact k
theorem sum_take {w : List Int} {i : Nat} {x : Int} (hx : w[i]? = some x) : (w.take (i + 1)).sum = (w.take i).sum + x := by
  rw [List.take_add_one, hx]; simp
theorem sum_bd {l : List Int} : (∀ y ∈ l, 1 ≤ y ∧ y ≤ 256) → (l.length : Int) ≤ l.sum ∧ l.sum ≤ 256 * l.length := by
  induction l with
  | nil => intro _; simp
  | cons x l ih =>
    intro h
    have h1 := h x (by simp)
    have h2 := ih fun y hy => h y (by simp [hy])
    simp only [List.length_cons, List.sum_cons]
    omega
theorem take_len_le (w : List Int) (i : Nat) : (w.take i).length ≤ i := List.length_take_le _ _
theorem not_ok_of {w : List Int} {i : Nat} {x : Int} (hx : w[i]? = some x) (h : ¬ (1 ≤ x ∧ x ≤ 256)) : okB w = false := by
  rw [Bool.eq_false_iff]
  intro e
  exact h (((okB_iff w).1 e).2.2.1 x (List.mem_of_getElem? hx))
theorem part_lt {o w : List Int} (h : o.length = w.length) {i j : Nat} (hj : j < i) (hi : i ≤ w.length) : (part o w i)[j]? = (add o w)[j]? := by
  have := add_len o w h
  simp only [part]
  rw [List.getElem?_append_left (by simp; omega), List.getElem?_take_of_lt hj]
end Go.Proofs.Fr
