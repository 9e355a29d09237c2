/- Symbolic runs of the abstract machine, part 9: two rows that grow side by side; a list behind a list. Plain Lean. -/
import Derived.Test.YtndeemjhengoiaaS8
namespace Go.Abs.S
open Go.Abs
def Dis (s t : AVal) : Prop := ∀ a m r b m' r', s = .slice (some a) m r → t = .slice (some b) m' r' → a.b ≠ b.b
theorem Dis.symm {s t : AVal} (h : Dis s t) : Dis t s := fun a m r b m' r' h1 h2 e => h b m' r' a m r h2 h1 e.symm
theorem dis_nil (t : AVal) : Dis nilS t := by intro a m r b m' r' h; simp [nilS] at h
theorem App.push2 {n : Nat} {H : AHeap} {s t : AVal} {l m : List AVal} (h : App n H s l) (k : App n H t m) (hd : Dis s t) (hn : n ≤ H.next) {x : AVal} (hx : x.one = true) {bytes : Nat} (hb : 2 * (l.length + 1) * bytes ≤ 281474976710656) (hb1 : 0 < bytes) :
    ∃ s' H', aAppend 1 bytes (H.push (.cells [x] 0 false)) s (oneS H) = some (s', H') ∧ App n H' s' (l ++ [x]) ∧ App n H' t m ∧ Dis s' t ∧ Ext n H H' := by
  have hlen : l.length + 1 ≤ 9223372036854775807 := by
    have : 2 * (l.length + 1) ≤ 2 * (l.length + 1) * bytes := Nat.le_mul_of_pos_right _ hb1
    omega
  have c1 : ∀ k, k = l.length → (Nat.blt 0 1 && (Nat.ble ((2 * (k + 1) + 0) * bytes) 281474976710656 && (Nat.ble (k + 1) 9223372036854775807 && (Nat.beq [x].length (1 * 1) && [x].all AVal.one)))) = true := by
    intro k hk
    subst hk
    simp only [Nat.add_zero, Nat.ble_eq_true_of_le hb, Nat.ble_eq_true_of_le hlen, List.all_cons, List.all_nil, hx]
    rfl
  rcases h with ⟨rfl, rfl⟩ | ⟨b, low, rfl, h2, h3, h4, h5⟩
  · have E : Ext H.next H ((H.push (.cells [x] 0 false)).push (.cells [x] 0 false)) := ((Ext.refl H.next H).push (Nat.le_refl _) _).push (by rw [push_next]; omega) _
    refine ⟨.slice (some ⟨H.next + 1, 1, 0⟩) 1 (.open_ 1), (H.push (.cells [x] 0 false)).push (.cells [x] 0 false), ?_, .inr ⟨H.next + 1, 0, rfl, by omega, Nat.lt_succ_self _, ?_, Nat.zero_le _⟩, k.ext E, ?_, ((Ext.refl n H).push hn _).push (by rw [push_next]; omega) _⟩
    · simp only [aAppend, src1, nilS]
      rw [show Nat.beq 1 0 = false from rfl, cond_false, c1 0 rfl, cond_true]
      rfl
    · rw [AHeap.get_push]; exact if_pos rfl
    · intro a m1 r1 b1 m2 r2 e1 e2
      simp only [AVal.slice.injEq, Option.some.injEq] at e1
      rcases k with ⟨rfl, _⟩ | ⟨b', _, rfl, _, k3, _⟩
      · simp [nilS] at e2
      · simp only [AVal.slice.injEq, Option.some.injEq] at e2
        rw [← e1.1, ← e2.1]
        simp only
        omega
  · have hg : (H.push (.cells [x] 0 false)).get b = some (.cells l low false) := by rw [AHeap.get_push, if_neg (by omega)]; exact h4
    have hgrow : growCells (H.push (.cells [x] 0 false)) ⟨b, l.length, 0⟩ l.length [x] = some ((H.push (.cells [x] 0 false)).set b (.cells (l ++ [x]) low false)) := by
      unfold growCells
      simp only [hg, Nat.ble_eq_true_of_le h5, Nat.ble_eq_true_of_le (Nat.le_refl _), Nat.ble_eq_true_of_le (Nat.zero_le _), Nat.beq_refl, List.length_cons, List.length_nil, Nat.zero_add, List.all_cons, List.all_nil, hx, Bool.and_self, cond_true, List.take_length]
    refine ⟨.slice (some ⟨b, l.length + 1, 0⟩) (l.length + 1) (.open_ 1), (H.push (.cells [x] 0 false)).set b (.cells (l ++ [x]) low false), ?_, .inr ⟨b, low, by simp, h2, by rw [set_next, push_next]; omega, by rw [AHeap.get_set, if_pos rfl], by simp; omega⟩, ?_, ?_, ((Ext.refl n H).push hn _).set h2 _⟩
    · simp only [aAppend, src1]
      rw [show Nat.beq 1 0 = false from rfl, cond_false, c1 l.length rfl, cond_true]
      have e1 : Nat.ble (l.length + 1) l.length = false := by
        rw [ble_dec]; exact decide_eq_false (by omega)
      simp only [Nat.beq_refl, cond_true, Nat.zero_add, Nat.mul_one, e1, cond_false, hgrow, List.length_cons, List.length_nil]
    · rcases k with k | ⟨b', low', rfl, k2, k3, k4, k5⟩
      · exact .inl k
      · have hbb := hd _ _ _ _ _ _ rfl rfl
        simp only at hbb
        exact .inr ⟨b', low', rfl, k2, by rw [set_next, push_next]; omega, by rw [AHeap.get_set, if_neg (fun e => hbb e.symm), AHeap.get_push, if_neg (by omega)]; exact k4, k5⟩
    · intro a m1 r1 b1 m2 r2 e1 e2
      simp only [AVal.slice.injEq, Option.some.injEq] at e1
      have := hd _ _ _ _ _ _ rfl e2
      rw [← e1.1]; exact this
/-! a list behind a list -/
theorem Cel.src {n : Nat} {H : AHeap} {s : AVal} {l : List AVal} (h : Cel n H s l) : aSrc 1 H s = some (l.length, l) := by
  rcases h with ⟨rfl, rfl⟩ | ⟨a, r, rfl, _, h⟩
  · rfl
  · simp only [aSrc, Nat.mul_one, h]
theorem build0 (z : AVal) (H : AHeap) : aBuildSl 0 [z] H [] = some (slR H.next 0 (.known 0), H.push (.cells [] 0 false)) := _root_.id rfl
theorem ap_known {n : Nat} {H : AHeap} {b : Nat} {t : AVal} {xs : List AVal} (hb : Row H b []) (h : Cel n H t xs) (hx : xs ≠ []) (ho : ∀ x ∈ xs, x.one = true) {bytes : Nat} (hbd : 2 * xs.length * bytes ≤ 281474976710656) (hb1 : 0 < bytes) :
    aAppend 1 bytes H (slR b 0 (.known 0)) t = some (slR H.next xs.length (.open_ 1), H.push (.cells xs 0 false)) := by
  have hl : 0 < xs.length := List.length_pos_iff.2 hx
  have hlen : xs.length ≤ 9223372036854775807 := by
    have : 2 * xs.length ≤ 2 * xs.length * bytes := Nat.le_mul_of_pos_right _ hb1
    omega
  obtain ⟨low, h1, h2⟩ := hb
  have hlow : low = 0 := by simpa using h2
  subst hlow
  have hr : rdCells H ⟨b, 0, 0⟩ 0 = some [] := rd_whole (l := []) h1 h2
  have hall : xs.all AVal.one = true := List.all_eq_true.2 ho
  have e0 : Nat.beq xs.length 0 = false := by rw [beq_dec]; exact decide_eq_false (by omega)
  have e1 : Nat.ble (0 + xs.length) 0 = false := by rw [ble_dec]; exact decide_eq_false (by omega)
  simp only [aAppend, h.src, e0, cond_false, slR, Nat.zero_add, Nat.add_zero, Nat.mul_one, Nat.ble_eq_true_of_le hbd, Nat.ble_eq_true_of_le hlen, Nat.beq_refl, hall, Bool.and_self, show Nat.blt 0 1 = true from rfl, cond_true, Nat.zero_mul, hr, List.nil_append]
  rw [Nat.zero_add] at e1
  rw [e1]
  rfl
theorem ap_open {n : Nat} {H : AHeap} {b k : Nat} {t : AVal} {l xs : List AVal} (hb : Row H b l) (hk : l.length = k) (h : Cel n H t xs) (hx : xs ≠ []) (ho : ∀ x ∈ xs, x.one = true) {bytes : Nat} (hbd : 2 * (k + xs.length) * bytes ≤ 281474976710656) (hb1 : 0 < bytes) :
    ∃ H', aAppend 1 bytes H (slR b k (.open_ 1)) t = some (slR b (k + xs.length) (.open_ 1), H') ∧ Row H' b (l ++ xs) ∧ H'.next = H.next ∧ ∀ c, c ≠ b → H'.get c = H.get c := by
  subst hk
  have hl : 0 < xs.length := List.length_pos_iff.2 hx
  have hlen : l.length + xs.length ≤ 9223372036854775807 := by
    have : 2 * (l.length + xs.length) ≤ 2 * (l.length + xs.length) * bytes := Nat.le_mul_of_pos_right _ hb1
    omega
  obtain ⟨low, h1, h2⟩ := hb
  have hall : xs.all AVal.one = true := List.all_eq_true.2 ho
  have e0 : Nat.beq xs.length 0 = false := by rw [beq_dec]; exact decide_eq_false (by omega)
  have e1 : Nat.ble (l.length + xs.length) l.length = false := by rw [ble_dec]; exact decide_eq_false (by omega)
  have hgrow : growCells H ⟨b, l.length, 0⟩ l.length xs = some (H.set b (.cells (l ++ xs) low false)) := by
    unfold growCells
    simp only [h1, Nat.ble_eq_true_of_le h2, Nat.ble_eq_true_of_le (Nat.le_refl _), Nat.ble_eq_true_of_le (Nat.zero_le _), Nat.ble_eq_true_of_le (show l.length + 1 ≤ l.length + xs.length by omega), Nat.beq_refl, hall, Bool.and_self, cond_true, List.take_length]
  refine ⟨H.set b (.cells (l ++ xs) low false), ?_, ⟨low, by rw [AHeap.get_set, if_pos rfl], by simp; omega⟩, rfl, fun c hc => by rw [AHeap.get_set, if_neg hc]⟩
  simp only [aAppend, h.src, e0, cond_false, slR, Nat.zero_add, Nat.add_zero, Nat.mul_one, Nat.ble_eq_true_of_le hbd, Nat.ble_eq_true_of_le hlen, Nat.beq_refl, hall, Bool.and_self, show Nat.blt 0 1 = true from rfl, cond_true, e1, hgrow]
/-- ways that leave a block meet again behind it -/
theorem aw_cut {C : CS} {c : ACode} {id : Nat} {Q : Post} {T : Env} {H : AHeap} (F : Env → AHeap → Prop) (hC : CMono C) (h : wp C c (inBlk id (inSeq Q F)) T H) (k : ∀ T H, F T H → Q .normal T H) : wp C c (inBlk id Q) T H := by
  refine wp_mono' hC c (fun e T H hq => ?_) h
  cases e with
  | normal => exact k _ _ hq
  | ret => exact hq
  | exit j =>
    simp only [inBlk] at hq ⊢
    cases hb : Nat.beq j id with
    | true => rw [hb] at hq; exact k _ _ hq
    | false => rw [hb] at hq; exact hq
end Go.Abs.S
