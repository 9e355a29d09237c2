/- Frames of weights, in plain Lean: each has as many ticks as its weight; twice the weights give the frame twice. -/
import Derived.Test.YtndeemjhengoiaaFr0
namespace Go.Proofs.Fr
theorem getD_set (l : List Int) (i j : Nat) (a : Int) (hi : i < l.length) : (l.set i a).getD j 0 = if j = i then a else l.getD j 0 := by
  simp only [List.getD, List.getElem?_set]
  by_cases h : i = j
  · subst h; simp [hi]
  · rw [if_neg h, if_neg (fun e => h e.symm)]
theorem getD_add {o w : List Int} (h : o.length = w.length) (i : Nat) : (add o w).getD i 0 = o.getD i 0 + w.getD i 0 := by
  simp only [List.getD, add, List.getElem?_zipWith]
  by_cases hi : i < w.length
  · rw [List.getElem?_eq_getElem (show i < o.length by omega), List.getElem?_eq_getElem hi]; rfl
  · rw [List.getElem?_eq_none (show o.length ≤ i by omega), List.getElem?_eq_none (show w.length ≤ i by omega)]; rfl
theorem sum_add : ∀ {o w : List Int}, o.length = w.length → (add o w).sum = o.sum + w.sum
  | [], [], _ => rfl
  | a :: o, b :: w, h => by
    have := sum_add (o := o) (w := w) (by simpa using h)
    simp only [add, List.zipWith_cons_cons, List.sum_cons] at this ⊢
    omega
theorem sum_set : ∀ (l : List Int) (i : Nat) (a : Int), i < l.length → (l.set i a).sum = l.sum - l.getD i 0 + a
  | [], i, a, h => by simp at h
  | x :: l, 0, a, _ => by simp only [List.set_cons_zero, List.sum_cons, List.getD, List.getElem?_cons_zero, Option.getD_some]; omega
  | x :: l, i + 1, a, h => by
    have := sum_set l i a (by simpa using h)
    simp only [List.set_cons_succ, List.sum_cons, this, List.getD, List.getElem?_cons_succ]
    omega
/-- nobody is owed more than who is told -/
theorem am_max (o : List Int) : ∀ (k who i : Nat), o.getD who 0 ≤ o.getD (am o who i k) 0 ∧ ∀ j, i ≤ j → j < i + k → o.getD j 0 ≤ o.getD (am o who i k) 0
  | 0, who, i => ⟨Int.le_refl _, fun j h1 h2 => by omega⟩
  | k + 1, who, i => by
    simp only [am]
    by_cases h : o.getD who 0 < o.getD i 0
    · rw [if_pos h]
      obtain ⟨h1, h2⟩ := am_max o k i (i + 1)
      refine ⟨by omega, fun j a b => ?_⟩
      by_cases e : j = i
      · subst e; exact h1
      · exact h2 j (by omega) (by omega)
    · rw [if_neg h]
      obtain ⟨h1, h2⟩ := am_max o k who (i + 1)
      refine ⟨h1, fun j a b => ?_⟩
      by_cases e : j = i
      · subst e; omega
      · exact h2 j (by omega) (by omega)
theorem amax_max (o : List Int) (j : Nat) (h : j < o.length) : o.getD j 0 ≤ o.getD (amax o) 0 := (am_max o o.length 0 0).2 j (Nat.zero_le _) (by omega)
theorem sum_nonpos : ∀ {l : List Int}, (∀ x ∈ l, x ≤ 0) → l.sum ≤ 0
  | [], _ => by simp
  | x :: l, h => by
    have h1 := h x (by simp)
    have h2 := sum_nonpos (l := l) fun y hy => h y (by simp [hy])
    simp only [List.sum_cons]; omega
theorem getD_mem {l : List Int} {x : Int} (h : x ∈ l) : ∃ i, i < l.length ∧ l.getD i 0 = x := by
  obtain ⟨i, hi, e⟩ := List.mem_iff_getElem.1 h
  exact ⟨i, hi, by simp [List.getD, hi, e]⟩
theorem max_pos {o : List Int} (h : 0 < o.sum) : 0 < o.getD (amax o) 0 := by
  by_cases c : 0 < o.getD (amax o) 0
  · exact c
  · have : o.sum ≤ 0 := sum_nonpos fun x hx => by
      obtain ⟨i, hi, rfl⟩ := getD_mem hx
      have := amax_max o i hi
      omega
    omega
theorem ow_sum (w : List Int) (hn : 0 < w.length) : ∀ k, (ow w w.sum k).sum = 0
  | 0 => by simp [ow]
  | k + 1 => by
    have hl := add_len _ _ (ow_len w w.sum k)
    have hp := pk_lt w w.sum k hn
    simp only [ow]
    rw [sum_set _ _ _ (by rw [hl]; exact hp), sum_add (ow_len w w.sum k), ow_sum w hn k]
    omega
theorem ow_low (w : List Int) (hn : 0 < w.length) (hs : 0 < w.sum) (hw : ∀ x ∈ w, 1 ≤ x ∧ x ≤ 256) : ∀ k i, i < w.length → -w.sum < (ow w w.sum k).getD i 0
  | 0, i, hi => by simp only [ow, List.getD, List.getElem?_replicate, if_pos hi, Option.getD_some]; omega
  | k + 1, i, hi => by
    have hl := add_len _ _ (ow_len w w.sum k)
    have hp := pk_lt w w.sum k hn
    have ih := ow_low w hn hs hw k i hi
    have hwi := hw (w.getD i 0) (by simp [List.getD, hi])
    have hm := max_pos (o := add (ow w w.sum k) w) (by rw [sum_add (ow_len w w.sum k), ow_sum w hn k]; omega)
    simp only [ow]
    rw [getD_set _ _ _ _ (by rw [hl]; exact hp)]
    split
    · omega
    · rw [getD_add (ow_len w w.sum k)]; omega
/-- how often i has one of the first k ticks -/
def cnt (w : List Int) (i : Nat) (k : Nat) : Nat := ((List.range k).map (pk w w.sum)).count i
theorem cnt_succ (w : List Int) (i k : Nat) : cnt w i (k + 1) = cnt w i k + if i = pk w w.sum k then 1 else 0 := by
  simp only [cnt, List.range_succ, List.map_append, List.map_cons, List.map_nil, List.count_append, List.count_singleton]
  congr 1
  by_cases h : i = pk w w.sum k
  · rw [if_pos h, h]; simp
  · rw [if_neg h, if_neg (by simpa using fun e => h e.symm)]
theorem ow_cnt (w : List Int) (hn : 0 < w.length) : ∀ k i, i < w.length → (ow w w.sum k).getD i 0 = k * w.getD i 0 - w.sum * cnt w i k
  | 0, i, hi => by simp only [ow, List.getD, List.getElem?_replicate, if_pos hi, Option.getD_some, cnt]; simp
  | k + 1, i, hi => by
    have hl := add_len _ _ (ow_len w w.sum k)
    have hp := pk_lt w w.sum k hn
    have ih := ow_cnt w hn k i hi
    simp only [ow]
    rw [getD_set _ _ _ _ (by rw [hl]; exact hp), cnt_succ]
    have e : ((k + 1 : Nat) : Int) * w.getD i 0 = k * w.getD i 0 + w.getD i 0 := by
      rw [Int.natCast_add, Int.add_mul]; simp
    rw [e]
    by_cases h : i = pk w w.sum k
    · have h' : i = amax (add (ow w w.sum k) w) := h
      rw [if_pos h', if_pos h, ← h', getD_add (ow_len w w.sum k), ih]
      rw [Int.natCast_add, Int.mul_add]; simp; omega
    · have h' : ¬ i = amax (add (ow w w.sum k) w) := h
      rw [if_neg h', if_neg h, getD_add (ow_len w w.sum k), ih]
      simp; omega
theorem sum_nonneg_zero : ∀ {l : List Int}, (∀ x ∈ l, 0 ≤ x) → l.sum = 0 → ∀ x ∈ l, x = 0
  | [], _, _ => by simp
  | x :: l, h, hs => by
    have h1 := h x (by simp)
    have hl : 0 ≤ l.sum := by
      have := sum_nonpos (l := l.map fun y => -y) (by intro y hy; obtain ⟨z, hz, rfl⟩ := List.mem_map.1 hy; have := h z (by simp [hz]); omega)
      have e : (l.map fun y => -y).sum = - l.sum := by
        clear h hs h1 this
        induction l with
        | nil => simp
        | cons a l ih => simp only [List.map_cons, List.sum_cons, ih]; omega
      omega
    simp only [List.sum_cons] at hs
    intro y hy
    rcases List.mem_cons.1 hy with rfl | hy
    · omega
    · exact sum_nonneg_zero (l := l) (fun z hz => h z (by simp [hz])) (by omega) y hy
/-- behind a whole frame nobody is owed anything -/
theorem ow_end (w : List Int) (hn : 0 < w.length) (hs : 0 < w.sum) (hw : ∀ x ∈ w, 1 ≤ x ∧ x ≤ 256) {sN : Nat} (hN : w.sum = sN) : ow w w.sum sN = List.replicate w.length 0 := by
  have hlen := ow_len w w.sum sN
  have hz : ∀ i, i < w.length → (ow w w.sum sN).getD i 0 = w.sum * (w.getD i 0 - cnt w i sN) := fun i hi => by
    rw [ow_cnt w hn sN i hi, ← hN, Int.mul_sub]
  have hnn : ∀ x ∈ ow w w.sum sN, 0 ≤ x := by
    intro x hx
    obtain ⟨i, hi, rfl⟩ := getD_mem hx
    have h1 := ow_low w hn hs hw sN i (by omega)
    rw [hz i (by omega)] at h1 ⊢
    generalize w.getD i 0 - (cnt w i sN : Int) = d at h1
    have : 0 ≤ d := by
      by_cases c : 0 ≤ d
      · exact c
      · have : w.sum * d ≤ w.sum * (-1) := Int.mul_le_mul_of_nonneg_left (by omega) (by omega)
        omega
    exact Int.mul_nonneg (by omega) this
  have h0 := sum_nonneg_zero hnn (ow_sum w hn sN)
  rw [List.eq_replicate_iff]
  exact ⟨hlen, h0⟩
theorem cnt_end (w : List Int) (hn : 0 < w.length) (hs : 0 < w.sum) (hw : ∀ x ∈ w, 1 ≤ x ∧ x ≤ 256) {sN : Nat} (hN : w.sum = sN) (i : Nat) (hi : i < w.length) : (cnt w i sN : Int) = w.getD i 0 := by
  have h1 := ow_cnt w hn sN i hi
  rw [ow_end w hn hs hw hN] at h1
  simp only [List.getD, List.getElem?_replicate, if_pos hi, Option.getD_some] at h1
  have h2 : w.sum * ((w[i]?.getD 0) - cnt w i sN) = 0 := by rw [hN] at h1; rw [Int.mul_sub, hN]; omega
  rcases Int.mul_eq_zero.1 h2 with h | h
  · omega
  · simp only [List.getD]; omega
theorem count_cast : ∀ (l : List Nat) (i : Nat), (l.map fun x : Nat => (x : Int)).count (i : Int) = l.count i
  | [], i => rfl
  | x :: l, i => by
    simp only [List.map_cons, List.count_cons, count_cast l i]
    congr 1
    by_cases h : x = i
    · subst h; simp
    · have : ¬ (x : Int) = i := by omega
      simp [h, this]
theorem frame_count (w : List Int) (h : okB w = true) (i : Nat) (hi : i < w.length) : ((frame w).count (i : Int) : Int) = w.getD i 0 := by
  obtain ⟨h1, h2, h3, h4⟩ := (okB_iff w).1 h
  have hb := sum_bd h3
  obtain ⟨sN, hN⟩ := Int.eq_ofNat_of_zero_le (show 0 ≤ w.sum by omega)
  have := cnt_end w (by omega) (by omega) h3 hN i hi
  rw [← this]
  have e : frame w = ((List.range sN).map (pk w w.sum)).map fun x : Nat => (x : Int) := by
    rw [frame, picks, hN, List.map_map]; rfl
  rw [e, count_cast]; rfl
/-! twice -/
theorem dbl_getD (o : List Int) (i : Nat) : (o.map fun x => 2 * x).getD i 0 = 2 * o.getD i 0 := by
  simp only [List.getD, List.getElem?_map]
  cases o[i]? <;> simp
theorem am_dbl (o : List Int) : ∀ (k who i : Nat), am (o.map fun x => 2 * x) who i k = am o who i k
  | 0, _, _ => rfl
  | k + 1, who, i => by
    simp only [am, dbl_getD]
    by_cases h : o.getD who 0 < o.getD i 0
    · rw [if_pos h, if_pos (by omega)]; exact am_dbl o k _ _
    · rw [if_neg h, if_neg (by omega)]; exact am_dbl o k _ _
theorem add_dbl : ∀ (o w : List Int), add (o.map fun x => 2 * x) (w.map fun x => 2 * x) = (add o w).map fun x => 2 * x
  | [], w => by simp [add]
  | o, [] => by simp [add]
  | a :: o, b :: w => by
    have := add_dbl o w
    simp only [add, List.map_cons, List.zipWith_cons_cons] at this ⊢
    rw [this]
    congr 1
    omega
theorem ow_dbl (w : List Int) (s : Int) : ∀ k, ow (w.map fun x => 2 * x) (2 * s) k = (ow w s k).map fun x => 2 * x
  | 0 => by simp [ow]
  | k + 1 => by
    simp only [ow, ow_dbl w s k, add_dbl, amax, List.length_map, am_dbl, dbl_getD, List.map_set]
    congr 1
    omega
theorem pk_dbl (w : List Int) (s : Int) (k : Nat) : pk (w.map fun x => 2 * x) (2 * s) k = pk w s k := by
  simp only [pk, ow_dbl, add_dbl, amax, List.length_map, am_dbl]
theorem sum_dbl : ∀ (w : List Int), (w.map fun x => 2 * x).sum = 2 * w.sum
  | [] => rfl
  | a :: w => by simp only [List.map_cons, List.sum_cons, sum_dbl w]; omega
theorem ow_again (w : List Int) {sN : Nat} (h : ow w w.sum sN = List.replicate w.length 0) : ∀ k, ow w w.sum (sN + k) = ow w w.sum k
  | 0 => h
  | k + 1 => by rw [← Nat.add_assoc]; simp only [ow, ow_again w h k]
theorem frame_dbl (w : List Int) (h : okB w = true) : frame (w.map fun x => 2 * x) = frame w ++ frame w := by
  obtain ⟨h1, h2, h3, h4⟩ := (okB_iff w).1 h
  have hb := sum_bd h3
  obtain ⟨sN, hN⟩ := Int.eq_ofNat_of_zero_le (show 0 ≤ w.sum by omega)
  have he := ow_end w (by omega) (by omega) h3 hN
  have e1 : (2 * w.sum).toNat = sN + sN := by omega
  have e2 : w.sum.toNat = sN := by omega
  simp only [frame, sum_dbl, e1, e2, picks, pk_dbl]
  rw [List.range_add, List.map_append, List.map_map]
  congr 1
  apply List.map_congr_left
  intro k _
  simp only [Function.comp, pk, ow_again w he k]
theorem okB_dbl (w : List Int) (h : okB w = true) (hm : ∀ x ∈ w, x ≤ 16) : okB (w.map fun x => 2 * x) = decide (2 * w.sum ≤ 256) := by
  obtain ⟨h1, h2, h3, h4⟩ := (okB_iff w).1 h
  rw [Bool.eq_iff_iff, okB_iff, decide_eq_true_eq, sum_dbl, List.length_map]
  constructor
  · exact fun h => h.2.2.2
  · intro hs
    refine ⟨h1, h2, fun x hx => ?_, hs⟩
    obtain ⟨y, hy, rfl⟩ := List.mem_map.1 hx
    have := h3 y hy; have := hm y hy
    omega
/-! a stretch as long as the frame -/
theorem turn (f : List Int) (a : Nat) (h : 0 < f.length) : ((List.range f.length).map fun n => f.getD ((a + n) % f.length) 0) = f.drop (a % f.length) ++ f.take (a % f.length) := by
  have hr := Nat.mod_lt a h
  have hd := Nat.div_add_mod a f.length
  apply List.ext_getElem?
  intro i
  by_cases hi : i < f.length
  · rw [List.getElem?_map, List.getElem?_range hi]
    simp only [Option.map_some]
    by_cases hlt : i < f.length - a % f.length
    · have e : (a + i) % f.length = a % f.length + i := by
        rw [Nat.add_mod, Nat.mod_eq_of_lt hi, Nat.mod_eq_of_lt (by omega)]
      rw [List.getElem?_append_left (by simp; omega), List.getElem?_drop, e]
      simp [List.getD, show a % f.length + i < f.length by omega]
    · have e : (a + i) % f.length = a % f.length + i - f.length := by
        rw [Nat.add_mod, Nat.mod_eq_of_lt hi, Nat.mod_eq_sub_mod (by omega), Nat.mod_eq_of_lt (by omega)]
      rw [List.getElem?_append_right (by simp; omega), List.getElem?_take_of_lt (by simp; omega), e]
      simp only [List.length_drop]
      rw [show i - (f.length - a % f.length) = a % f.length + i - f.length by omega]
      simp [List.getD, show a % f.length + i - f.length < f.length by omega]
  · rw [List.getElem?_eq_none (by simp; omega), List.getElem?_eq_none (by simp; omega)]
/-- how often i is met from a on in k ticks -/
def met (f : List Int) (a k : Nat) (i : Int) : Nat := ((List.range k).map fun n => f.getD ((a + n) % f.length) 0).count i
theorem met_succ (f : List Int) (a k : Nat) (i : Int) : met f a (k + 1) i = met f a k i + if f.getD ((a + k) % f.length) 0 = i then 1 else 0 := by
  simp only [met, List.range_succ, List.map_append, List.map_cons, List.map_nil, List.count_append, List.count_singleton]
  congr 1
  by_cases h : f.getD ((a + k) % f.length) 0 = i
  · rw [if_pos h, h]; simp
  · rw [if_neg h, if_neg (by simpa using h)]
theorem met_all (f : List Int) (a : Nat) (h : 0 < f.length) (i : Int) : met f a f.length i = f.count i := by
  rw [met, turn f a h, List.count_append, Nat.add_comm, ← List.count_append, List.take_append_drop]
end Go.Proofs.Fr
