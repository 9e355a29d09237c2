/- Part of a proof (H11 H12 L1); no condition. -/
import Derived.WalkKit
import Derived.Below
import Derived.ChangeSame
import Derived.ReadAgain
import Derived.OpenShut
import Derived.ProofKit
import Derived.Test.YthdkgakoogjoaaaP15
set_option linter.unusedSimpArgs false
set_option linter.unusedVariables false
set_option linter.unnecessarySimpa false
/- Http: all that is ready; lists of requests: the contracts. -/
namespace Go.Proofs.Ht
open Go.Abs Go.Abs.S
set_option linter.unusedSimpArgs false
section
variable {n : Nat} {τ : Nat → Nat} {H : AHeap} {p : Nat} {s : PS} {rd : List Rq} {vl vh vb vr : AVal}
theorem rq_one {n : Nat} {τ : Nat → Nat} {H : AHeap} {cs : List AVal} {r : Rq} (h : RqAt n τ H cs r) : cs.all AVal.one = true ∧ cs.length = 5 := by
  obtain ⟨vh, vb, rfl, h2, h3, _⟩ := h
  exact ⟨by simp only [rqC, List.all_cons, List.all_nil, h2, h3, Bool.and_true]; rfl, rfl⟩
theorem drained_spec (P : PR n τ H p s rd) {k : Nat} (hk : k ≤ 1000000) (hB : ∀ r ∈ rd, RB k r) (hrd : rd.length ≤ 1000) :
    ACalls Try.prog natH 9 [cellR p 15 0] H fun v H' => RC 0 H'.next τ H' v rd ∧ Blk v (H.next ≤ ·) ∧ PR n τ H' p s [] ∧ H.next ≤ H'.next ∧ ∀ c, c < H.next → c ≠ p → τ c ≠ 5 → H'.get c = H.get c := by
  refine acalls_ofN rfl za9 rfl ?_
  have nn : n ≤ H.next := by obtain ⟨_, _, _, _, Q⟩ := P; exact Q.nn
  have pn : p < n := by obtain ⟨_, _, _, _, Q⟩ := P; exact Q.pn
  have tp : τ p = 1 := by obtain ⟨_, _, _, _, Q⟩ := P; exact Q.tp
  have tz : ∀ c, n ≤ c → τ c = 0 := by obtain ⟨_, _, _, _, Q⟩ := P; exact Q.tz
  simp only [c9, sW, sL, aw_block, sXs, sXO, sXP, Int.reduceNegSucc, reduceCtorEq, Nat.reduceEqDiff, ↓reduceIte, Nat.reduceAdd, Int.reduceEq, Int.reduceLT, Int.reduceLE]
  refine aw_loop (fun q (T : Env) H' => ∃ j : Nat, j ≤ rd.length ∧ q = rd.length - j ∧ T 0 = cellR p 15 0 ∧ T 4 = .int .i64 (j : Int) ∧ RC 0 H'.next τ H' (T 3) (rd.take j) ∧ Blk (T 3) (H.next ≤ ·) ∧ PR n τ H' p s (rd.drop j) ∧ H.next ≤ H'.next ∧ ∀ c, c < H.next → c ≠ p → τ c ≠ 5 → H'.get c = H.get c) rd.length
    ⟨0, Nat.zero_le _, rfl, by simp only [sW, sL, aw_block, sXs, sXO, sXP, Int.reduceNegSucc, reduceCtorEq, Nat.reduceEqDiff, ↓reduceIte, Nat.reduceAdd, Int.reduceEq, Int.reduceLT, Int.reduceLE]; try rfl, by simp only [sW, sL, aw_block, sXs, sXO, sXP, Int.reduceNegSucc, reduceCtorEq, Nat.reduceEqDiff, ↓reduceIte, Nat.reduceAdd, Int.reduceEq, Int.reduceLT, Int.reduceLE]; try rfl, by simp only [sW, sL, aw_block, sXs, sXO, sXP, Int.reduceNegSucc, reduceCtorEq, Nat.reduceEqDiff, ↓reduceIte, Nat.reduceAdd, Int.reduceEq, Int.reduceLT, Int.reduceLE]; exact .inl ⟨rfl, rfl⟩, by simp only [sW, sL, aw_block, sXs, sXO, sXP, Int.reduceNegSucc, reduceCtorEq, Nat.reduceEqDiff, ↓reduceIte, Nat.reduceAdd, Int.reduceEq, Int.reduceLT, Int.reduceLE]; exact blk_nil _, P, Nat.le_refl _, fun _ _ _ _ => rfl⟩ ?_
  rintro q T H' ⟨j, hj, rfl, g0, g4, hR, hB3, P', hn, o⟩
  by_cases hlt : j < rd.length
  · have hlt' : (j : Int) < 1000 := by omega
    obtain ⟨r, hr⟩ := isSome_of_lt hlt
    have hdr : rd.drop j = r :: rd.drop (j + 1) := by
      obtain ⟨h1, h2⟩ := List.getElem?_eq_some_iff.1 hr
      rw [← h2, ← List.drop_eq_getElem_cons h1]
    rw [hdr] at P'
    have rb := hB r (List.mem_of_getElem? hr)
    simp only [sW, sL, aw_block, sXs, sXO, sXP, Int.reduceNegSucc, reduceCtorEq, Nat.reduceEqDiff, ↓reduceIte, Nat.reduceAdd, Int.reduceEq, Int.reduceLT, Int.reduceLE, g0, g4, hlt']
    refine (next_some' P' hk rb.m rb.t rb.body rb.hs rb.he).mono ?_
    rintro w H1 ⟨wh, wb, rfl, hA, P1, n1, o1⟩
    have hc1 : ∀ c, c < H'.next → τ c = 6 ∨ τ c = 0 → H1.get c = H'.get c := fun c hc h => o1 c hc (by rintro rfl; omega) (by omega)
    have hR1 : RC 0 H1.next τ H1 (T 3) (rd.take j) := hR.fr (by omega) (fun _ _ _ => rfl) fun c hc h => hc1 c hc h
    obtain ⟨ho, hl5⟩ := rq_one hA
    obtain ⟨H2, m2, r2, k2, o2⟩ := row_newL H1 noRq (n := 5) rfl
    have m2' : oNew H1 [.str [], .str [], .slice none 0 (.known 0), .slice none 0 (.known 0), .bool false] = (cellR H1.next 5 0, H2) := m2
    obtain ⟨H3, m3, r3, k3, o3⟩ := row_storeN r2 (n := 5) rfl (xs := rqC r wh wb) rfl ho
    have lr3 := row_loadN r3 (n := 5) rfl
    have hR3 : RC 0 H3.next τ H3 (T 3) (rd.take j) := hR1.fr (by omega) (fun _ _ _ => rfl) fun c hc h => by rw [o3 c (by omega), o2 c (by omega)]
    have hA3 : RqAt n τ H3 (rqC r wh wb) r := hA.fr (Nat.le_refl _) (fun _ _ h => h) fun c hc h => by rw [o3 c (by omega), o2 c (by omega)]
    have hv : wh.one = true ∧ wb.one = true := by
      simp only [rqC, List.all_cons, List.all_nil, Bool.and_true, Bool.and_eq_true] at ho
      exact ⟨ho.2.2.1, ho.2.2.2.1⟩
    obtain ⟨v', H4, m4, n4, v1, f4, b4, g4'⟩ := hR3.push (Nat.le_refl _) (r := r) hv.1 hv.2 (by rw [List.length_take]; omega)
    have bm := buildM (m := 5) (z := [.str [], .str [], .slice none 0 (.known 0), .slice none 0 (.known 0), .bool false]) (xs := rqC r wh wb) H3 rfl rfl
    simp only [sW, sL, aw_block, sXs, sXO, sXP, Int.reduceNegSucc, reduceCtorEq, Nat.reduceEqDiff, ↓reduceIte, Nat.reduceAdd, Int.reduceEq, Int.reduceLT, Int.reduceLE, ext_0, ext_1, m2', m3, lr3, bm, m4, g4, wrap1 j (by omega)]
    have hbl3 : ∀ c, c < n → Blk (T 3) (c ≠ ·) := fun c hc => hB3.mono fun b hb => by omega
    have hR4 : RC 0 H4.next τ H4 v' (rd.take j ++ [r]) := by
      refine g4' H4.next τ H4 (Nat.le_refl _) (fun _ _ h => h) (fun c hc _ => tz c (by omega)) (fun _ _ _ => rfl) (fun i q cs _ hq => ?_) ?_
      · exact hq.fr (by omega) (fun _ _ h => h) fun c hc h6 => f4 c hc (hR3.bl.mono fun b hb => by rintro rfl; omega)
      · exact hA3.fr (by omega) (fun _ _ h => h) fun c hc h6 => f4 c (by omega) (hbl3 c hc)
    refine ⟨_, by omega, j + 1, by omega, rfl, g0, rfl, ?_, (b4 _ hB3).mono fun b hb => by omega, P1.ext (by omega) fun c hc => ?_, by omega, fun c hc h1 h5 => ?_⟩
    · rw [List.take_add_one, hr]; exact hR4
    · rw [f4 c (by omega) (hbl3 c hc), o3 c (by omega), o2 c (by omega)]
    · rw [f4 c (by omega) (hB3.mono fun b hb => by omega), o3 c (by omega), o2 c (by omega), o1 c (by omega) h1 h5]; exact o c hc h1 h5
  · have hj : j = rd.length := by omega
    subst hj
    rw [List.take_length] at hR
    rw [List.drop_length] at P'
    by_cases h1000 : rd.length < 1000
    · have hlt' : (rd.length : Int) < 1000 := by omega
      simp only [sW, sL, aw_block, sXs, sXO, sXP, Int.reduceNegSucc, reduceCtorEq, Nat.reduceEqDiff, ↓reduceIte, Nat.reduceAdd, Int.reduceEq, Int.reduceLT, Int.reduceLE, g0, g4, hlt']
      refine (next_none P').mono ?_
      rintro w H1 ⟨rfl, E1⟩
      obtain ⟨H2, m2, r2, k2, o2⟩ := row_newL H1 noRq (n := 5) rfl
      have m2' : oNew H1 [.str [], .str [], .slice none 0 (.known 0), .slice none 0 (.known 0), .bool false] = (cellR H1.next 5 0, H2) := m2
      obtain ⟨H3, m3, r3, k3, o3⟩ := row_storeN r2 (n := 5) rfl (xs := noRq) rfl rfl
      have n1 := E1.next
      have E3 : ∀ c, c < H'.next → H3.get c = H'.get c := fun c hc => by rw [o3 c (by omega), o2 c (by omega)]; exact E1.old c hc
      simp only [sW, sL, aw_block, sXs, sXO, sXP, Int.reduceNegSucc, reduceCtorEq, Nat.reduceEqDiff, ↓reduceIte, Nat.reduceAdd, Int.reduceEq, Int.reduceLT, Int.reduceLE, ext_0, ext_1, m2', m3]
      exact ⟨hR.fr (by omega) (fun _ _ _ => rfl) (fun c hc _ => E3 c hc), hB3, P'.ext (by omega) (fun c hc => E3 c (by omega)), by omega, fun c hc h1 h5 => by rw [E3 c (by omega)]; exact o c hc h1 h5⟩
    · have hlt' : ¬ (rd.length : Int) < 1000 := by omega
      simp only [sW, sL, aw_block, sXs, sXO, sXP, Int.reduceNegSucc, reduceCtorEq, Nat.reduceEqDiff, ↓reduceIte, Nat.reduceAdd, Int.reduceEq, Int.reduceLT, Int.reduceLE, g0, g4, hlt']
      exact ⟨hR, hB3, P', hn, o⟩
end
/-! lists of requests, one behind the other -/
theorem all_five : ∀ (k : Nat) (cs : List AVal), cs.length = k * 5 → (∀ i, i < k → ((cs.drop (i * 5)).take 5).all AVal.one = true) → cs.all AVal.one = true
  | 0, cs, h, _ => by
    have : cs = [] := List.length_eq_zero_iff.1 (by omega)
    subst this; rfl
  | k + 1, cs, h, ha => by
    have h0 := ha 0 (by omega)
    simp only [Nat.zero_mul, List.drop_zero] at h0
    have h1 := all_five k (cs.drop 5) (by simp; omega) fun i hi => by
      rw [List.drop_drop]
      have := ha (i + 1) (by omega)
      rwa [show (i + 1) * 5 = 5 + i * 5 by omega] at this
    rw [← List.take_append_drop 5 cs, List.all_append, h0, h1]; rfl
theorem RC.src {n : Nat} {τ : Nat → Nat} {H : AHeap} {x : AVal} {l : List Rq} (h : RC 0 n τ H x l) : ∃ cs, aSrc 5 H x = some (l.length, cs) ∧ cs.length = l.length * 5 ∧ cs.all AVal.one = true ∧ ∀ i r, l[i]? = some r → RqAt n τ H ((cs.drop (i * 5)).take 5) r := by
  rcases h with ⟨rfl, rfl⟩ | ⟨b, o, low, L, rfl, h2, h3, h4, h5, h6, h7⟩
  · exact ⟨[], rfl, rfl, rfl, by simp⟩
  · have hr := rd_row ⟨low, h2, h3⟩ rfl (i := o) (k := l.length * 5) (by omega)
    have e : (L.drop o).take (l.length * 5) = L.drop o := List.take_of_length_le (by simp; omega)
    rw [e] at hr
    have hcs : ∀ i r, l[i]? = some r → RqAt n τ H (((L.drop o).drop (i * 5)).take 5) r := fun i r hi => by rw [List.drop_drop]; exact h7 i r hi
    refine ⟨L.drop o, by simp only [aSrc, hr], by simp; omega, all_five l.length _ (by simp; omega) fun i hi => ?_, hcs⟩
    obtain ⟨r, hr⟩ := isSome_of_lt hi
    exact (rq_one (hcs i r hr)).1
theorem RC.app {n : Nat} {τ : Nat → Nat} {H : AHeap} {v x : AVal} {l l2 : List Rq} (h : RC 0 n τ H v l) (hx : RC 0 n τ H x l2) (hn : n ≤ H.next) (tz : ∀ c, n ≤ c → τ c = 0) (hl : l.length + l2.length ≤ 1000000) :
    ∃ v' H', aAppend 5 88 H v x = some (v', H') ∧ RC 0 H'.next τ H' v' (l ++ l2) ∧ H.next ≤ H'.next ∧ (∀ c, c < H.next → Blk v (c ≠ ·) → H'.get c = H.get c) ∧ ∀ P, Blk v P → Blk v' fun b => P b ∨ H.next ≤ b := by
  obtain ⟨cs, s1, s2, s3, s4⟩ := hx.src
  by_cases h0 : l2 = []
  · subst h0
    have e0 : Nat.beq ([] : List Rq).length 0 = true := rfl
    rw [List.append_nil]
    refine ⟨v, H, ?_, h.fr hn (fun _ _ _ => rfl) (fun _ _ _ => rfl), Nat.le_refl _, fun _ _ _ => rfl, fun P hP => hP.mono fun b hb => .inl hb⟩
    simp only [aAppend, s1, e0, cond_true]
    rcases h with ⟨rfl, _⟩ | ⟨b, o, low, L, rfl, _⟩ <;> rfl
  have hpos := List.length_pos_iff.2 h0
  have e0 : Nat.beq l2.length 0 = false := by rw [beq_dec]; exact decide_eq_false (by omega)
  have c1 : ∀ k, k = l.length → (Nat.blt 0 5 && (Nat.ble ((2 * (k + l2.length) + 0) * 88) 281474976710656 && (Nat.ble (k + l2.length) 9223372036854775807 && (Nat.beq cs.length (l2.length * 5) && cs.all AVal.one)))) = true := by
    intro k hk
    subst hk
    simp only [Nat.ble_eq_true_of_le (show (2 * (l.length + l2.length) + 0) * 88 ≤ 281474976710656 by omega), Nat.ble_eq_true_of_le (show l.length + l2.length ≤ 9223372036854775807 by omega), s2, s3, Nat.beq_refl, Bool.and_self]
    rfl
  rcases h with ⟨rfl, rfl⟩ | ⟨b, o, low, L, rfl, e2, e3, e4, e5, e6, e7⟩
  · refine ⟨.slice (some ⟨H.next, cs.length, 0⟩) l2.length (.open_ 5), H.push (.cells cs 0 false), ?_, .inr ⟨H.next, 0, 0, cs, rfl, by rw [AHeap.get_push]; exact if_pos rfl, Nat.zero_le _, by simp [s2], Nat.lt_succ_self _, tz _ hn, fun i r hi => ?_⟩, by simp [AHeap.push], fun c hc _ => get_push_lt hc, fun P _ => blk_some (.inr (Nat.le_refl _))⟩
    · simp only [aAppend, s1, e0, cond_false, nilS]
      have := c1 0 rfl
      rw [this, cond_true]
    · have := s4 i r (by simpa using hi)
      rw [Nat.zero_add]
      exact this.fr (by rw [push_next]; omega) (fun _ _ h => h) fun c hc _ => get_push_lt (by omega)
  · have hgrow : growCells H ⟨b, L.length, o⟩ L.length cs = some (H.set b (.cells (L ++ cs) low false)) := by
      unfold growCells
      simp only [e2, Nat.ble_eq_true_of_le e3, Nat.beq_refl, Nat.ble_eq_true_of_le (Nat.le_refl _), Nat.ble_eq_true_of_le (show o ≤ L.length by omega), Nat.ble_eq_true_of_le (show L.length + 1 ≤ L.length + cs.length by omega), s3, Bool.and_self, cond_true, List.take_length]
    have e1 : Nat.ble (o + (l.length + l2.length) * 5) L.length = false := by rw [ble_dec]; exact decide_eq_false (by omega)
    refine ⟨.slice (some ⟨b, L.length + cs.length, o⟩) (l.length + l2.length) (.open_ 5), H.set b (.cells (L ++ cs) low false), ?_, .inr ⟨b, o, low, L ++ cs, by simp, by rw [AHeap.get_set, if_pos rfl], by simp; omega, by simp; omega, by rw [set_next]; omega, e6, fun i r hi => ?_⟩, Nat.le_refl _, fun c hc hd => by rw [AHeap.get_set, if_neg (hd _ _ _ rfl)], fun P hP => (have hP2 : P b := hP _ _ _ rfl; blk_some (.inl hP2))⟩
    · simp only [aAppend, s1, e0, cond_false, c1 _ rfl, cond_true, Nat.beq_refl, e1, e4, hgrow]
    · have keep : ∀ {cs' : List AVal}, RqAt n τ H cs' r → RqAt (H.set b (.cells (L ++ cs) low false)).next τ (H.set b (.cells (L ++ cs) low false)) cs' r := fun hq => hq.fr (by rw [set_next]; exact hn) (fun _ _ h => h) fun c hc h6 => by rw [AHeap.get_set, if_neg (by rintro rfl; omega)]
      by_cases hlt : i < l.length
      · rw [List.getElem?_append_left hlt] at hi
        have := e7 i r hi
        rw [List.drop_append_of_le_length (by omega), List.take_append_of_le_length (by simp; omega)]
        exact keep this
      · rw [List.getElem?_append_right (by omega)] at hi
        have := s4 (i - l.length) r hi
        have hd : (L ++ cs).drop (o + i * 5) = cs.drop ((i - l.length) * 5) := by
          rw [List.drop_append]
          rw [List.drop_of_length_le (by omega), List.nil_append]
          congr 1; omega
        rw [hd]
        exact keep this
/-! equal lists -/
theorem pf_eqb (a : Bool) : aPf (.eqv true .bool) [.bool a, .bool a] = some (.bool false) := by cases a <;> rfl
theorem pf_eqp (a b : Bs) : aPf (.eqS true [(0, .str), (1, .str)]) [.agg [.str a, .str b], .agg [.str a, .str b]] = some (.bool false) := by
  simp [aPf, aEqSs, aEqFs, fEq, fEqS]
theorem samebytes_spec {n m : Nat} {H : AHeap} {v w : AVal} {s t : Bs} (hv : Cel n H v (byts s)) (hw : Cel m H w (byts t)) : ACalls Try.prog natH 24 [v, w] H fun x H' => x = .bool (decide (s = t)) ∧ H = H' := by
  refine acalls_ofN rfl za24 rfl ?_
  simp only [c24, sW, sL, aw_block, sXs, sXO, sXP, Int.reduceNegSucc, reduceCtorEq, Nat.reduceEqDiff, ↓reduceIte, Nat.reduceAdd, Int.reduceEq, Int.reduceLT, Int.reduceLE, bs_cel hv, bs_cel hw]
  exact ⟨(by first | trivial | rfl | assumption), (by first | trivial | rfl | assumption)⟩
theorem samereq_spec {n m : Nat} {τ σ : Nat → Nat} {H : AHeap} {cs ds : List AVal} {r : Rq} (h : RqAt n τ H cs r) (h' : RqAt m σ H ds r) (hn : n ≤ H.next) (hm : m ≤ H.next) (hl : r.hs.length ≤ 1000000) : ACalls Try.prog natH 13 [.agg cs, .agg ds] H fun x H' => x = .bool true ∧ Ext H.next H H' := by
  refine acalls_ofN rfl za13 rfl ?_
  obtain ⟨vh, vb, rfl, h2, h3, h4, h5, _⟩ := h
  obtain ⟨wh, wb, rfl, q2, q3, q4, q5, _⟩ := h'
  obtain ⟨H1, m1, r1, k1, o1⟩ := row_newL H (rqC r vh vb) (n := 5) rfl
  obtain ⟨H2, m2, r2, k2, o2⟩ := row_newL H1 (rqC r wh wb) (n := 5) rfl
  have E2 : Ext H.next H H2 := ⟨by omega, fun c hc => by rw [o2 c (by omega), o1 c (by omega)]⟩
  have r1' : Row H2 H.next (rqC r vh vb) := r1.same (o2 _ (by omega))
  have a0 : oLoad false 1 H2 (cellR H.next 5 0) = some (.str r.m) := row_load r1' rfl rfl
  have a1 : oLoad false 1 H2 (cellR H.next 5 1) = some (.str r.t) := row_load r1' rfl rfl
  have a2 : oLoad false 1 H2 (cellR H.next 5 2) = some vh := row_load r1' rfl rfl
  have a3 : oLoad false 1 H2 (cellR H.next 5 3) = some vb := row_load r1' rfl rfl
  have a4 : oLoad false 1 H2 (cellR H.next 5 4) = some (.bool r.close) := row_load r1' rfl rfl
  have b0 : oLoad false 1 H2 (cellR H1.next 5 0) = some (.str r.m) := row_load r2 rfl rfl
  have b1 : oLoad false 1 H2 (cellR H1.next 5 1) = some (.str r.t) := row_load r2 rfl rfl
  have b2 : oLoad false 1 H2 (cellR H1.next 5 2) = some wh := row_load r2 rfl rfl
  have b3 : oLoad false 1 H2 (cellR H1.next 5 3) = some wb := row_load r2 rfl rfl
  have b4 : oLoad false 1 H2 (cellR H1.next 5 4) = some (.bool r.close) := row_load r2 rfl rfl
  have pv : Prs n H2 vh r.hs := h4.ext (E2.less hn)
  have pw : Prs m H2 wh r.hs := q4.ext (E2.less hm)
  simp only [c13, sW, sL, aw_block, sXs, sXO, sXP, Int.reduceNegSucc, reduceCtorEq, Nat.reduceEqDiff, ↓reduceIte, Nat.reduceAdd, Int.reduceEq, Int.reduceLT, Int.reduceLE, cells_agg, m1, m2, fld0, a0, a1, a4, b0, b1, b4, pf_eqb, a3, b3]
  refine (samebytes_spec (h5.ext (E2.less hn)) (q5.ext (E2.less hm))).mono ?_
  rintro x _ ⟨rfl, rfl⟩
  simp only [sW, sL, aw_block, sXs, sXO, sXP, Int.reduceNegSucc, reduceCtorEq, Nat.reduceEqDiff, ↓reduceIte, Nat.reduceAdd, Int.reduceEq, Int.reduceLT, Int.reduceLE, a2, b2, fld0, pv.len, pw.len]
  refine aw_loop (fun q (T : Env) H' => ∃ j : Nat, j ≤ r.hs.length ∧ q = r.hs.length - j ∧ T 2 = cellR H.next 5 0 ∧ T 3 = cellR H1.next 5 0 ∧ T 5 = .int .i64 (j : Int) ∧ H2 = H') r.hs.length
    ⟨0, Nat.zero_le _, rfl, by simp only [sW, sL, aw_block, sXs, sXO, sXP, Int.reduceNegSucc, reduceCtorEq, Nat.reduceEqDiff, ↓reduceIte, Nat.reduceAdd, Int.reduceEq, Int.reduceLT, Int.reduceLE]; try rfl, by simp only [sW, sL, aw_block, sXs, sXO, sXP, Int.reduceNegSucc, reduceCtorEq, Nat.reduceEqDiff, ↓reduceIte, Nat.reduceAdd, Int.reduceEq, Int.reduceLT, Int.reduceLE]; try rfl, by simp only [sW, sL, aw_block, sXs, sXO, sXP, Int.reduceNegSucc, reduceCtorEq, Nat.reduceEqDiff, ↓reduceIte, Nat.reduceAdd, Int.reduceEq, Int.reduceLT, Int.reduceLE]; try rfl, rfl⟩ ?_
  rintro q T _ ⟨j, hj, rfl, g2, g3, g5, rfl⟩
  by_cases hlt : j < r.hs.length
  · have hlt' : (j : Int) < (r.hs.length : Int) := by omega
    obtain ⟨x, hx⟩ := isSome_of_lt hlt
    obtain ⟨a, i1, i2, _⟩ := pv.at hx
    obtain ⟨b, j1, j2, _⟩ := pw.at hx
    simp only [sW, sL, aw_block, sXs, sXO, sXP, Int.reduceNegSucc, reduceCtorEq, Nat.reduceEqDiff, ↓reduceIte, Nat.reduceAdd, Int.reduceEq, Int.reduceLT, Int.reduceLE, g2, g3, g5, a2, b2, fld0, pv.len, hlt', i1, i2, j1, j2, pf_eqp, wrap1 j (by omega)]
    exact ⟨_, by omega, j + 1, by omega, rfl, (by first | trivial | rfl | assumption), (by first | trivial | rfl | assumption), (by first | trivial | rfl | assumption), (by first | trivial | rfl | assumption)⟩
  · have hlt' : ¬ (j : Int) < (r.hs.length : Int) := by omega
    simp only [sW, sL, aw_block, sXs, sXO, sXP, Int.reduceNegSucc, reduceCtorEq, Nat.reduceEqDiff, ↓reduceIte, Nat.reduceAdd, Int.reduceEq, Int.reduceLT, Int.reduceLE, g2, g3, g5, a2, b2, fld0, pv.len, hlt']
    exact ⟨(by first | trivial | rfl | assumption), E2⟩
theorem RC.at {n : Nat} {τ : Nat → Nat} {H : AHeap} {x : AVal} {l : List Rq} (h : RC 0 n τ H x l) {i : Nat} {r : Rq} (hi : l[i]? = some r) : ∃ a cs, aIdxA 5 x (.int .i64 (i : Int)) = some a ∧ oLoad true 5 H a = some (.agg cs) ∧ RqAt n τ H cs r := by
  have hlt := (List.getElem?_eq_some_iff.1 hi).1
  rcases h with ⟨_, rfl⟩ | ⟨b, o, low, L, rfl, h2, h3, h4, h5, h6, h7⟩
  · simp at hlt
  · refine ⟨cellR b L.length (o + i * 5), _, ?_, row_loadK ⟨low, h2, h3⟩ rfl (by omega), h7 i r hi⟩
    show (bif Nat.blt i l.length then some (AVal.ptr (some ⟨b, L.length, o + i * 5⟩)) else none) = _
    have : Nat.blt i l.length = true := by simpa [Nat.blt_eq] using hlt
    rw [this]; rfl
theorem same_spec {n m : Nat} {τ σ : Nat → Nat} {H : AHeap} {v w : AVal} {l : List Rq} (h : RC 0 n τ H v l) (h' : RC 0 m σ H w l) (hn : n ≤ H.next) (hm : m ≤ H.next) (hl : l.length ≤ 1000000) (hs : ∀ r ∈ l, r.hs.length ≤ 1000000) : ACalls Try.prog natH 11 [v, w] H fun x H' => x = .bool true ∧ Ext H.next H H' := by
  refine acalls_ofN rfl za11 rfl ?_
  simp only [c11, sW, sL, aw_block, sXs, sXO, sXP, Int.reduceNegSucc, reduceCtorEq, Nat.reduceEqDiff, ↓reduceIte, Nat.reduceAdd, Int.reduceEq, Int.reduceLT, Int.reduceLE, h.len, h'.len]
  refine aw_loop (fun q (T : Env) H' => ∃ j : Nat, j ≤ l.length ∧ q = l.length - j ∧ T 0 = v ∧ T 1 = w ∧ T 5 = .int .i64 (j : Int) ∧ Ext H.next H H') l.length
    ⟨0, Nat.zero_le _, rfl, by simp only [sW, sL, aw_block, sXs, sXO, sXP, Int.reduceNegSucc, reduceCtorEq, Nat.reduceEqDiff, ↓reduceIte, Nat.reduceAdd, Int.reduceEq, Int.reduceLT, Int.reduceLE]; try rfl, by simp only [sW, sL, aw_block, sXs, sXO, sXP, Int.reduceNegSucc, reduceCtorEq, Nat.reduceEqDiff, ↓reduceIte, Nat.reduceAdd, Int.reduceEq, Int.reduceLT, Int.reduceLE]; try rfl, by simp only [sW, sL, aw_block, sXs, sXO, sXP, Int.reduceNegSucc, reduceCtorEq, Nat.reduceEqDiff, ↓reduceIte, Nat.reduceAdd, Int.reduceEq, Int.reduceLT, Int.reduceLE]; try rfl, Ext.refl _ _⟩ ?_
  rintro q T H' ⟨j, hj, rfl, g0, g1, g5, E⟩
  have e1 : RC 0 n τ H' v l := h.fr (Nat.le_refl _) (fun _ _ _ => rfl) fun c hc _ => E.old c (by omega)
  have e2 : RC 0 m σ H' w l := h'.fr (Nat.le_refl _) (fun _ _ _ => rfl) fun c hc _ => E.old c (by omega)
  by_cases hlt : j < l.length
  · have hlt' : (j : Int) < (l.length : Int) := by omega
    obtain ⟨r, hr⟩ := isSome_of_lt hlt
    obtain ⟨a, cs, i1, i2, i3⟩ := e1.at hr
    obtain ⟨b, ds, j1, j2, j3⟩ := e2.at hr
    have en := E.next
    simp only [sW, sL, aw_block, sXs, sXO, sXP, Int.reduceNegSucc, reduceCtorEq, Nat.reduceEqDiff, ↓reduceIte, Nat.reduceAdd, Int.reduceEq, Int.reduceLT, Int.reduceLE, g0, g1, g5, e1.len, hlt', i1, i2, j1, j2]
    refine (samereq_spec i3 j3 (by omega) (by omega) (hs r (List.mem_of_getElem? hr))).mono ?_
    rintro x H2 ⟨rfl, E2⟩
    simp only [sW, sL, aw_block, sXs, sXO, sXP, Int.reduceNegSucc, reduceCtorEq, Nat.reduceEqDiff, ↓reduceIte, Nat.reduceAdd, Int.reduceEq, Int.reduceLT, Int.reduceLE, g0, g1, g5, wrap1 j (by omega)]
    exact ⟨_, by omega, j + 1, by omega, rfl, (by first | trivial | rfl | assumption), (by first | trivial | rfl | assumption), (by first | trivial | rfl | assumption), E.trans (E2.less en)⟩
  · have hlt' : ¬ (j : Int) < (l.length : Int) := by omega
    simp only [sW, sL, aw_block, sXs, sXO, sXP, Int.reduceNegSucc, reduceCtorEq, Nat.reduceEqDiff, ↓reduceIte, Nat.reduceAdd, Int.reduceEq, Int.reduceLT, Int.reduceLE, g0, g1, g5, e1.len, hlt']
    exact ⟨(by first | trivial | rfl | assumption), E⟩
/-- a number from 0 on, below another one -/
theorem pick_spec (x : Int) (m : Nat) (h0 : 0 < m) (hm : m ≤ 1000000) {H : AHeap} : ACalls Try.prog natH 10 [.int .i64 x, .int .i64 (m : Int)] H fun v H' => (∃ r : Nat, r < m ∧ v = .int .i64 (r : Int)) ∧ H = H' := by
  refine acalls_ofN rfl za10 rfl ?_
  have h0' : ¬ (m : Int) ≤ 0 := by omega
  have hlt := Int.tmod_lt_of_pos x (show (0 : Int) < (m : Int) by omega)
  have hgt := Int.lt_tmod_of_pos x (show (0 : Int) < (m : Int) by omega)
  have hr := bin_rem .i64 x (m : Int) (by omega)
  by_cases hn : x.tmod (m : Int) < 0
  · have w : IntKind.i64.wrap (x.tmod (m : Int) + (m : Int)) = x.tmod (m : Int) + (m : Int) := wrap64 (by omega) (by omega)
    simp only [c10, sW, sL, aw_block, sXs, sXO, sXP, Int.reduceNegSucc, reduceCtorEq, Nat.reduceEqDiff, ↓reduceIte, Nat.reduceAdd, Int.reduceEq, Int.reduceLT, Int.reduceLE, h0', hr, hn, w]
    exact ⟨⟨(x.tmod (m : Int) + (m : Int)).toNat, by omega, by congr 1; omega⟩, (by first | trivial | rfl | assumption)⟩
  · simp only [c10, sW, sL, aw_block, sXs, sXO, sXP, Int.reduceNegSucc, reduceCtorEq, Nat.reduceEqDiff, ↓reduceIte, Nat.reduceAdd, Int.reduceEq, Int.reduceLT, Int.reduceLE, h0', hr, hn]
    exact ⟨⟨(x.tmod (m : Int)).toNat, by omega, by congr 1; omega⟩, (by first | trivial | rfl | assumption)⟩
end Go.Proofs.Ht
/- HttpCuts: the law's function returns true: the contract. -/
namespace Go.Proofs.Ht
open Go.Abs Go.Abs.S
set_option linter.unusedSimpArgs false
/-- a part of a slice that came in -/
theorem _root_.Go.Abs.S.ArgS.sub {n : Nat} {H : AHeap} {s : AVal} {l : List AVal} (h : ArgS n H s l) {a b : Nat} (hab : a ≤ b) (hb : b ≤ l.length) (x : Option AVal) (y : Option AVal) (hx : x = some (.int .i64 (a : Int)) ∨ (x = none ∧ a = 0)) (hy : y = some (.int .i64 (b : Int)) ∨ (y = none ∧ b = l.length)) :
    ∃ s', aSl 1 s x y none = some s' ∧ Cel n H s' ((l.drop a).take (b - a)) := by
  have hbd : ∀ c, l.length ≤ c → aBnd l.length c x y none = some (a, b, none) := by
    intro c hc
    have h1 : bdO y c l.length = some b := by
      rcases hy with rfl | ⟨rfl, rfl⟩
      · exact bd_nat (by omega)
      · rfl
    have h2 : bdO x b 0 = some a := by
      rcases hx with rfl | ⟨rfl, rfl⟩
      · exact bd_nat hab
      · rfl
    simp only [aBnd, h1, h2]
  rcases h with ⟨rfl, rfl⟩ | ⟨ad, c, rfl, h2, h3, h4⟩
  · have hb0 : b = 0 := by simpa using hb
    have ha0 : a = 0 := by omega
    subst hb0 ha0
    have := hbd 0 (Nat.le_refl _)
    simp only [List.length_nil] at this
    refine ⟨nilS, ?_, .inl ⟨rfl, by simp⟩⟩
    simp only [aSl, nilS, this]
  · have hlen : ((l.drop a).take (b - a)).length = b - a := by simp; omega
    obtain ⟨L, low, ro, q1, q2, q3, q4, q5⟩ := rd_spec h4
    simp only [aSl, hbd c h2, Option.getD_none]
    cases hq : Nat.beq c a with
    | true =>
      have hca : c = a := Nat.eq_of_beq_eq_true hq
      have e0 : b - a = 0 := by omega
      refine ⟨_, rfl, .inr ⟨ad, .known (c - a), by rw [hlen], h3, ?_⟩⟩
      rw [hlen, e0]
      have := rd_pre h4 (Nat.zero_le _)
      simpa using this
    | false =>
      refine ⟨_, rfl, .inr ⟨⟨ad.b, ad.lim, ad.o + a * 1⟩, .known (c - a), by rw [hlen], h3, ?_⟩⟩
      rw [hlen]
      unfold rdCells
      simp only [q1, Nat.mul_one, Nat.ble_eq_true_of_le q2, Nat.ble_eq_true_of_le q3, Nat.ble_eq_true_of_le (show ad.o + a + (b - a) ≤ ad.lim by omega), Bool.and_self, cond_true]
      congr 1
      rw [q5, List.drop_take, List.take_take, List.drop_drop, Nat.min_eq_left (by omega)]
theorem byts_part (s : Bs) (a k : Nat) : ((byts s).drop a).take k = byts ((s.drop a).take k) := by simp [byts, List.map_take, List.map_drop]
theorem ArgS.bl {n : Nat} {H : AHeap} {s : AVal} {l : List AVal} (h : ArgS n H s l) : Blk s (· < n) := h.cel.bl
theorem newT_lt {p c : Nat} (h : c < p) : newT p c = 0 := by unfold newT; rw [if_neg (by omega)]
section
variable {H0 : AHeap} {v : AVal} {b : Bs}
/-- the second half: bytes one by one -/
theorem law_tail (hv : ArgS H0.next H0 v (byts b)) (hb : b.length ≤ 3000) {r : Nat} (hr : r ≤ b.length) {H H3 : AHeap} {τ τw : Nat → Nat} {p : Nat} {lx rdx : List Rq} {want v11 : AVal} {T : Env} {n : Nat}
    (E3 : Ext H0.next H0 H3) (W3 : RC 0 H3.next τw H3 want (feedF PS.zero b).2) (E : Ext H3.next H3 H) (P : PR n τ H p (feedF PS.zero (b.take r)).1 rdx) (hl : RC 0 n τ H v11 lx) (ho : lx ++ rdx = (feedF PS.zero (b.take r)).2) (tz3 : ∀ c, c < H3.next → τ c = 0) (hl3 : Blk v11 (H3.next ≤ ·))
    (g0 : T 0 = v) (g1 : T 1 = .int .i64 (r : Int)) (g8 : T 8 = .int .i64 ((feedF PS.zero b).1.fault : Int)) (g9 : T 9 = want) (g10 : T 10 = cellR p 15 0) (g11 : T 11 = v11) :
    wp (ACalls Try.prog natH) (hold (restAt 10 c3.body)) (fin c3.res fun x _ => x = .bool true) T H := by
  have hB : Bd 6000 (feedF PS.zero (b.take r)).1 := (bd_feed Bd.zero (b.take r)).more (by rw [List.length_take]; omega)
  have e3n := E3.next
  have en := E.next
  have EH : Ext H0.next H0 H := E3.trans (E.less e3n)
  obtain ⟨s2, t2, C2⟩ := (hv.ext EH).sub (a := r) (b := b.length) hr (by rw [byts_len]; exact Nat.le_refl _) (some (.int .i64 (r : Int))) none (.inl rfl) (.inr ⟨rfl, by rw [byts_len]⟩)
  rw [byts_part, List.take_of_length_le (by simp)] at C2
  have hsplit : (feedF PS.zero b) = ((feedF (feedF PS.zero (b.take r)).1 (b.drop r)).1, (feedF PS.zero (b.take r)).2 ++ (feedF (feedF PS.zero (b.take r)).1 (b.drop r)).2) := by
    conv => lhs; rw [← List.take_append_drop r b]
    exact feed_app _ _ _
  have hfew := feed_few PS.zero b rfl rfl
  have hrl : rdx.length ≤ 1000 := by
    have h1 := congrArg List.length ho
    have h2 := feed_few PS.zero (b.take r) rfl rfl
    simp only [List.length_append, List.length_take] at h1 h2
    omega
  have hrb : ∀ q ∈ (feedF PS.zero b).2, RB 6000 q := fun q hq => ((rb_feed Bd.zero b) q hq).more (by omega)
  have nnP : n ≤ H.next := by obtain ⟨_, _, _, _, Q⟩ := P; exact Q.nn
  simp only [c3, restAt, hold_eq, sW, sL, aw_block, sXs, sXO, sXP, Int.reduceNegSucc, reduceCtorEq, Nat.reduceEqDiff, ↓reduceIte, Nat.reduceAdd, Int.reduceEq, Int.reduceLT, Int.reduceLE, g0, g1, g8, g9, g10, g11, t2]
  refine (feed_spec P hB (v := s2) C2 (C2.bl.mono fun c hc => ⟨by omega, tz3 c (by omega)⟩) (by rw [List.length_drop]; omega) (by rw [List.length_drop]; omega)).mono ?_
  rintro w H4 ⟨rfl, τ4, P4, F4⟩
  have ef : (feedF (feedF PS.zero (b.take r)).1 (b.drop r)).1.fault = (feedF PS.zero b).1.fault := by rw [hsplit]
  have l4 : RC 0 H4.next τ4 H4 v11 lx := hl.fr (by have := F4.1; omega) (fun c hc h => (F4.2 c (by omega) (by omega)).1) fun c hc h => (F4.2 c (by omega) (by omega)).2
  have n4 := F4.1
  have E4 : Ext H3.next H3 H4 := E.trans ⟨n4, fun c hc => (F4.2 c (by omega) (.inl (tz3 c hc))).2⟩
  have tz4 : ∀ c, c < H3.next → τ4 c = 0 := fun c hc => by rw [(F4.2 c (by omega) (.inl (tz3 c hc))).1]; exact tz3 c hc
  have hall : lx ++ (rdx ++ (feedF (feedF PS.zero (b.take r)).1 (b.drop r)).2) = (feedF PS.zero b).2 := by rw [hsplit, ← ho, List.append_assoc]
  have hlen := congrArg List.length hall
  simp only [List.length_append] at hlen
  simp only [sW, sL, aw_block, sXs, sXO, sXP, Int.reduceNegSucc, reduceCtorEq, Nat.reduceEqDiff, ↓reduceIte, Nat.reduceAdd, Int.reduceEq, Int.reduceLT, Int.reduceLE, g0, g1, g8, g9, g10, g11]
  have p4n : p < H4.next := by obtain ⟨_, _, _, _, Q⟩ := P4; exact Q.pn
  have p4t : τ4 p = 1 := by obtain ⟨_, _, _, _, Q⟩ := P4; exact Q.tp
  have t4z : ∀ c, H4.next ≤ c → τ4 c = 0 := by obtain ⟨_, _, _, _, Q⟩ := P4; exact Q.tz
  refine (drained_spec P4 (k := 6000) (by omega) (fun q hq => hrb q (by rw [← hall]; exact List.mem_append_right _ hq)) (by rw [List.length_append]; omega)).mono ?_
  rintro d H5 ⟨D5, _, P5, n5, o5⟩
  have l5 : RC 0 H5.next τ4 H5 v11 lx := l4.fr n5 (fun _ _ _ => rfl) fun c hc h => o5 c hc (by rintro rfl; omega) (by omega)
  have E5 : Ext H3.next H3 H5 := E4.trans ⟨n5, fun c hc => o5 c (by omega) (by rintro rfl; have := tz4 c hc; omega) (by have := tz4 c hc; omega)⟩
  obtain ⟨lv, H6, m6, L6, n6, o6, b6⟩ := l5.app D5 (Nat.le_refl _) (fun c hc => t4z c (by omega)) (by rw [List.length_append]; omega)
  rw [hall] at L6
  have E6 : Ext H3.next H3 H6 := E5.trans ⟨n6, fun c hc => o6 c (by omega) (hl3.mono fun x hx => by omega)⟩
  simp only [sW, sL, aw_block, sXs, sXO, sXP, Int.reduceNegSucc, reduceCtorEq, Nat.reduceEqDiff, ↓reduceIte, Nat.reduceAdd, Int.reduceEq, Int.reduceLT, Int.reduceLE, g0, g1, g8, g9, g10, g11, m6]
  refine (new_spec H6).mono ?_
  rintro w H7 ⟨rfl, P7, k7, o7⟩
  have E7 : Ext H6.next H6 H7 := ⟨by omega, fun c hc => o7 c hc⟩
  simp only [sW, sL, aw_block, sXs, sXO, sXP, Int.reduceNegSucc, reduceCtorEq, Nat.reduceEqDiff, ↓reduceIte, Nat.reduceAdd, Int.reduceEq, Int.reduceLT, Int.reduceLE, g0, g1, g8, g9, g10, g11]
  have n63 := E6.next
  have E06 : Ext H0.next H0 H6 := E3.trans (E6.less e3n)
  refine aw_loop (fun q (T : Env) H' => ∃ j : Nat, j ≤ b.length ∧ q = b.length - j ∧ T 0 = v ∧ T 8 = .int .i64 ((feedF PS.zero b).1.fault : Int) ∧ T 9 = want ∧ T 11 = lv ∧ T 12 = .int .i64 ((feedF (feedF PS.zero (b.take r)).1 (b.drop r)).1.fault : Int) ∧ T 13 = cellR H6.next 15 0 ∧ T 14 = .int .i64 ((feedF PS.zero (b.take j)).1.fault : Int) ∧ T 16 = .int .i64 (j : Int) ∧
      ∃ τ', PR H'.next τ' H' H6.next (feedF PS.zero (b.take j)).1 [] ∧ RC 0 H'.next τ' H' (T 15) (feedF PS.zero (b.take j)).2 ∧ Blk (T 15) (H6.next ≤ ·) ∧ Ext H6.next H6 H' ∧ ∀ c, c < H6.next → τ' c = 0) b.length
    ⟨0, Nat.zero_le _, rfl, by simp only [sW, sL, aw_block, sXs, sXO, sXP, Int.reduceNegSucc, reduceCtorEq, Nat.reduceEqDiff, ↓reduceIte, Nat.reduceAdd, Int.reduceEq, Int.reduceLT, Int.reduceLE, g0]; try rfl, by simp only [sW, sL, aw_block, sXs, sXO, sXP, Int.reduceNegSucc, reduceCtorEq, Nat.reduceEqDiff, ↓reduceIte, Nat.reduceAdd, Int.reduceEq, Int.reduceLT, Int.reduceLE, g8]; try rfl, by simp only [sW, sL, aw_block, sXs, sXO, sXP, Int.reduceNegSucc, reduceCtorEq, Nat.reduceEqDiff, ↓reduceIte, Nat.reduceAdd, Int.reduceEq, Int.reduceLT, Int.reduceLE, g9]; try rfl, by simp only [sW, sL, aw_block, sXs, sXO, sXP, Int.reduceNegSucc, reduceCtorEq, Nat.reduceEqDiff, ↓reduceIte, Nat.reduceAdd, Int.reduceEq, Int.reduceLT, Int.reduceLE]; try rfl, by simp only [sW, sL, aw_block, sXs, sXO, sXP, Int.reduceNegSucc, reduceCtorEq, Nat.reduceEqDiff, ↓reduceIte, Nat.reduceAdd, Int.reduceEq, Int.reduceLT, Int.reduceLE]; try rfl, by simp only [sW, sL, aw_block, sXs, sXO, sXP, Int.reduceNegSucc, reduceCtorEq, Nat.reduceEqDiff, ↓reduceIte, Nat.reduceAdd, Int.reduceEq, Int.reduceLT, Int.reduceLE]; try rfl, by simp only [sW, sL, aw_block, sXs, sXO, sXP, Int.reduceNegSucc, reduceCtorEq, Nat.reduceEqDiff, ↓reduceIte, Nat.reduceAdd, Int.reduceEq, Int.reduceLT, Int.reduceLE]; rfl, by simp only [sW, sL, aw_block, sXs, sXO, sXP, Int.reduceNegSucc, reduceCtorEq, Nat.reduceEqDiff, ↓reduceIte, Nat.reduceAdd, Int.reduceEq, Int.reduceLT, Int.reduceLE]; try rfl, newT H6.next, P7.more (by omega) (Nat.le_refl _), by simp only [sW, sL, aw_block, sXs, sXO, sXP, Int.reduceNegSucc, reduceCtorEq, Nat.reduceEqDiff, ↓reduceIte, Nat.reduceAdd, Int.reduceEq, Int.reduceLT, Int.reduceLE]; exact .inl ⟨rfl, rfl⟩, by simp only [sW, sL, aw_block, sXs, sXO, sXP, Int.reduceNegSucc, reduceCtorEq, Nat.reduceEqDiff, ↓reduceIte, Nat.reduceAdd, Int.reduceEq, Int.reduceLT, Int.reduceLE]; exact blk_nil _, E7, fun c hc => newT_lt hc⟩ ?_
  rintro q T' H' ⟨j, hj, rfl, f0, f8, f9, f11, f12, f13, f14, f16, τ', P', R', hB15, E', tz'⟩
  have E0' : Ext H0.next H0 H' := E06.trans (E'.less (by omega))
  have n' := E'.next
  have vlen : aLenK false v = some (.int .i64 (b.length : Int)) := byts_len' hv.cel
  by_cases hlt : j < b.length
  · have hlt' : (j : Int) < (b.length : Int) := by omega
    obtain ⟨c, hc⟩ := isSome_of_lt hlt
    obtain ⟨s3, t3, C3⟩ := (hv.ext E0').sub (a := j) (b := j + 1) (by omega) (by rw [byts_len]; omega) (some (.int .i64 (j : Int))) (some (.int .i64 ((j + 1 : Nat) : Int))) (.inl rfl) (.inl rfl)
    have hone : (b.drop j).take (j + 1 - j) = [c] := by
      have : b.drop j = c :: b.drop (j + 1) := by
        obtain ⟨h1, h2⟩ := List.getElem?_eq_some_iff.1 hc
        rw [← h2, ← List.drop_eq_getElem_cons h1]
      rw [this, show j + 1 - j = 1 by omega]; rfl
    rw [byts_part, hone] at C3
    have Bj : Bd 6000 (feedF PS.zero (b.take j)).1 := (bd_feed Bd.zero (b.take j)).more (by rw [List.length_take]; omega)
    have hnx : feedF PS.zero (b.take (j + 1)) = ((feedF (feedF PS.zero (b.take j)).1 [c]).1, (feedF PS.zero (b.take j)).2 ++ (feedF (feedF PS.zero (b.take j)).1 [c]).2) := by
      rw [List.take_add_one, hc, Option.toList_some, feed_app]
    have hstep := rb_feed Bj [c]
    have hlj := feed_len PS.zero (b.take j)
    have hl1 := feed_len (feedF PS.zero (b.take j)).1 [c]
    simp only [List.length_take, List.length_cons, List.length_nil] at hlj hl1
    simp only [sW, sL, aw_block, sXs, sXO, sXP, Int.reduceNegSucc, reduceCtorEq, Nat.reduceEqDiff, ↓reduceIte, Nat.reduceAdd, Int.reduceEq, Int.reduceLT, Int.reduceLE, f0, f8, f9, f11, f12, f13, f14, f16, vlen, hlt', wrap1 j (by omega), t3]
    refine (feed_spec P' Bj (v := s3) C3 (C3.bl.mono fun x hx => ⟨by omega, tz' x (by omega)⟩) (by simp) (by simp)).mono ?_
    rintro w H8 ⟨rfl, τ8, P8, F8⟩
    rw [List.nil_append] at P8
    have n8 := F8.1
    have R8 : RC 0 H8.next τ8 H8 (T' 15) (feedF PS.zero (b.take j)).2 := R'.fr n8 (fun x hx h => (F8.2 x hx (by omega)).1) fun x hx h => (F8.2 x hx (by omega)).2
    have E8 : Ext H6.next H6 H8 := E'.trans ⟨n8, fun x hx => (F8.2 x (by omega) (.inl (tz' x hx))).2⟩
    have tz8 : ∀ x, x < H6.next → τ8 x = 0 := fun x hx => by rw [(F8.2 x (by omega) (.inl (tz' x hx))).1]; exact tz' x hx
    have p8t : τ8 H6.next = 1 := by obtain ⟨_, _, _, _, Q⟩ := P8; exact Q.tp
    have t8z : ∀ x, H8.next ≤ x → τ8 x = 0 := by obtain ⟨_, _, _, _, Q⟩ := P8; exact Q.tz
    simp only [sW, sL, aw_block, sXs, sXO, sXP, Int.reduceNegSucc, reduceCtorEq, Nat.reduceEqDiff, ↓reduceIte, Nat.reduceAdd, Int.reduceEq, Int.reduceLT, Int.reduceLE, f0, f8, f9, f11, f12, f13, f14, f16]
    refine (drained_spec P8 (k := 6002) (by omega) (fun q hq => (hstep q hq).more (by simp)) (by omega)).mono ?_
    rintro d9 H9 ⟨D9, _, P9, n9, o9⟩
    have R9 : RC 0 H9.next τ8 H9 (T' 15) (feedF PS.zero (b.take j)).2 := R8.fr n9 (fun _ _ _ => rfl) fun x hx h => o9 x hx (by rintro rfl; omega) (by omega)
    have E9 : Ext H6.next H6 H9 := E8.trans ⟨n9, fun x hx => o9 x (by omega) (by omega) (by have := tz8 x hx; omega)⟩
    obtain ⟨bv, HA, mA, LA, nA, oA, bA⟩ := R9.app D9 (Nat.le_refl _) (fun x hx => t8z x (by omega)) (by omega)
    simp only [sW, sL, aw_block, sXs, sXO, sXP, Int.reduceNegSucc, reduceCtorEq, Nat.reduceEqDiff, ↓reduceIte, Nat.reduceAdd, Int.reduceEq, Int.reduceLT, Int.reduceLE, f0, f8, f9, f11, f12, f13, f14, f16, mA, wrap1 j (by omega)]
    have hbk : ∀ x, x < H8.next → x ≠ H6.next → True := fun _ _ _ => trivial
    refine ⟨_, by omega, j + 1, by omega, rfl, (by first | trivial | rfl | assumption), (by first | trivial | rfl | assumption), (by first | trivial | rfl | assumption), (by first | trivial | rfl | assumption), (by first | trivial | rfl | assumption), (by first | trivial | rfl | assumption), by rw [hnx], (by first | trivial | rfl | assumption), τ8, ?_, by rw [hnx]; exact LA, (bA _ hB15).mono fun x hx => by omega, E9.trans ⟨nA, fun x hx => oA x (by omega) (hB15.mono fun y hy => by omega)⟩, tz8⟩
    rw [hnx]
    have hd15 : Blk (T' 15) fun x => τ8 x = 0 := R8.bl.mono fun x hx => hx.2
    obtain ⟨a1, a2, a3, a4, Q9⟩ := P9
    have QA := Q9.more (Nat.le_trans Q9.nn (Nat.le_refl _)) (Nat.le_refl _)
    have keepA : ∀ x, x < H9.next → τ8 x ≠ 0 → HA.get x = H9.get x := fun x hx h => oA x hx (hd15.mono fun y hy => by rintro rfl; exact h hy)
    exact ⟨a1, a2, a3, a4, QA.row.same (keepA _ QA.pn (by omega)), by have := QA.pn; omega, Nat.le_refl _, QA.tp, fun x hx => QA.tz x (by omega), QA.l.fr nA nA (fun _ _ h => h) (fun x hx h => keepA x hx (by omega)), QA.h.fr nA nA (fun _ _ h => h) (fun x hx h => keepA x hx (by omega)), QA.b.fr nA nA (fun _ _ h => h) (fun x hx h => keepA x hx (by omega)), QA.r.fr nA (fun _ _ _ => rfl) fun x hx h => keepA x hx (by omega)⟩
  · have hlt' : ¬ (j : Int) < (b.length : Int) := by omega
    have ej : j = b.length := by omega
    subst ej
    rw [List.take_length] at f14 R'
    rw [ef] at f12
    have Lr : RC 0 H6.next τ4 H' lv (feedF PS.zero b).2 := L6.fr (Nat.le_refl _) (fun _ _ _ => rfl) fun c hc _ => E'.old c hc
    have Wr : RC 0 H3.next τw H' want (feedF PS.zero b).2 := W3.fr (Nat.le_refl _) (fun _ _ _ => rfl) fun c hc _ => by rw [E'.old c (by omega), E6.old c hc]
    have hall' : ∀ q ∈ (feedF PS.zero b).2, q.hs.length ≤ 1000000 := fun q hq => by have := (hrb q hq).hs; omega
    simp only [sW, sL, aw_block, sXs, sXO, sXP, Int.reduceNegSucc, reduceCtorEq, Nat.reduceEqDiff, ↓reduceIte, Nat.reduceAdd, Int.reduceEq, Int.reduceLT, Int.reduceLE, f0, f8, f9, f11, f12, f13, f14, f16, vlen, hlt']
    refine (same_spec Lr Wr (by omega) (by omega) (by omega) hall').mono ?_
    rintro x HB ⟨rfl, EB⟩
    simp only [sW, sL, aw_block, sXs, sXO, sXP, Int.reduceNegSucc, reduceCtorEq, Nat.reduceEqDiff, ↓reduceIte, Nat.reduceAdd, Int.reduceEq, Int.reduceLT, Int.reduceLE, f0, f8, f9, f11, f12, f13, f14, f16]
    have nB := EB.next
    refine (same_spec (R'.fr (Nat.le_refl _) (fun _ _ _ => rfl) fun c hc _ => EB.old c hc) (Wr.fr (Nat.le_refl _) (fun _ _ _ => rfl) fun c hc _ => EB.old c (by omega)) (by omega) (by omega) (by omega) hall').mono ?_
    rintro x HC ⟨rfl, EC⟩
    simp only [sW, sL, aw_block, sXs, sXO, sXP, Int.reduceNegSucc, reduceCtorEq, Nat.reduceEqDiff, ↓reduceIte, Nat.reduceAdd, Int.reduceEq, Int.reduceLT, Int.reduceLE]
    refine natB_call ?_
    simp only [sW, sL, aw_block, sXs, sXO, sXP, Int.reduceNegSucc, reduceCtorEq, Nat.reduceEqDiff, ↓reduceIte, Nat.reduceAdd, Int.reduceEq, Int.reduceLT, Int.reduceLE]
theorem law_spec (hv : ArgS H0.next H0 v (byts b)) (cut : Int) (each : Bool) : ACalls Try.prog natH 3 [v, .int .i64 cut, .bool each] H0 fun x _ => x = .bool true := by
  refine acalls_ofN rfl za3 rfl ?_
  have vlen : aLenK false v = some (.int .i64 (b.length : Int)) := byts_len' hv.cel
  by_cases hb : 3000 < b.length
  · have hb' : (3000 : Int) < (b.length : Int) := by omega
    simp only [c3, sW, sL, aw_block, sXs, sXO, sXP, Int.reduceNegSucc, reduceCtorEq, Nat.reduceEqDiff, ↓reduceIte, Nat.reduceAdd, Int.reduceEq, Int.reduceLT, Int.reduceLE, vlen, hb']
    refine natB_call ?_
    simp only [sW, sL, aw_block, sXs, sXO, sXP, Int.reduceNegSucc, reduceCtorEq, Nat.reduceEqDiff, ↓reduceIte, Nat.reduceAdd, Int.reduceEq, Int.reduceLT, Int.reduceLE]
  have hb' : ¬ (3000 : Int) < (b.length : Int) := by omega
  refine wp_cutAt 10 ?_
  simp only [c3, cutAt_0, cutAt_s, sW, sL, aw_block, sXs, sXO, sXP, Int.reduceNegSucc, reduceCtorEq, Nat.reduceEqDiff, ↓reduceIte, Nat.reduceAdd, Int.reduceEq, Int.reduceLT, Int.reduceLE, vlen, hb']
  refine (new_spec H0).mono ?_
  rintro w H1 ⟨rfl, P1, k1, o1⟩
  have E1 : Ext H0.next H0 H1 := ⟨by omega, o1⟩
  have vbl := hv.cel.bl
  simp only [sW, sL, aw_block, sXs, sXO, sXP, Int.reduceNegSucc, reduceCtorEq, Nat.reduceEqDiff, ↓reduceIte, Nat.reduceAdd, Int.reduceEq, Int.reduceLT, Int.reduceLE]
  refine (feed_spec P1 Bd.zero (hv.ext E1).cel (vbl.mono fun c hc => ⟨by omega, newT_lt hc⟩) (by omega) (by simp; omega)).mono ?_
  rintro w H2 ⟨rfl, τ2, P2, F2⟩
  rw [List.nil_append] at P2
  have n2 := F2.1
  have z2 : ∀ c, c < H0.next → τ2 c = 0 := fun c hc => by rw [(F2.2 c (by omega) (.inl (newT_lt hc))).1]; exact newT_lt hc
  have E2 : Ext H0.next H0 H2 := E1.trans ⟨n2, fun c hc => (F2.2 c (by omega) (.inl (newT_lt hc))).2⟩
  have hfew := feed_few PS.zero b rfl rfl
  have hrb : ∀ q ∈ (feedF PS.zero b).2, RB 6000 q := fun q hq => ((rb_feed Bd.zero b) q hq).more (by omega)
  simp only [sW, sL, aw_block, sXs, sXO, sXP, Int.reduceNegSucc, reduceCtorEq, Nat.reduceEqDiff, ↓reduceIte, Nat.reduceAdd, Int.reduceEq, Int.reduceLT, Int.reduceLE]
  refine (drained_spec P2 (k := 6000) (by omega) hrb (by omega)).mono ?_
  rintro want H3 ⟨W3, _, _, n3, o3⟩
  have E3 : Ext H0.next H0 H3 := E2.trans ⟨n3, fun c hc => o3 c (by omega) (by omega) (by have := z2 c hc; omega)⟩
  have e3 := E3.next
  simp only [sW, sL, aw_block, sXs, sXO, sXP, Int.reduceNegSucc, reduceCtorEq, Nat.reduceEqDiff, ↓reduceIte, Nat.reduceAdd, Int.reduceEq, Int.reduceLT, Int.reduceLE]
  refine (new_spec H3).mono ?_
  rintro w H4 ⟨rfl, P4, k4, o4⟩
  have E4 : Ext H3.next H3 H4 := ⟨by omega, o4⟩
  simp only [sW, sL, aw_block, sXs, sXO, sXP, Int.reduceNegSucc, reduceCtorEq, Nat.reduceEqDiff, ↓reduceIte, Nat.reduceAdd, Int.reduceEq, Int.reduceLT, Int.reduceLE, vlen, wrap1 b.length (by omega)]
  refine (pick_spec cut (b.length + 1) (by omega) (by omega)).mono ?_
  rintro w _ ⟨⟨r, hr, rfl⟩, rfl⟩
  have E04 : Ext H0.next H0 H4 := E3.trans (E4.less e3)
  obtain ⟨s1, t1, C1⟩ := (hv.ext E04).sub (a := 0) (b := r) (Nat.zero_le _) (by rw [byts_len]; omega) none (some (.int .i64 (r : Int))) (.inr ⟨rfl, rfl⟩) (.inl rfl)
  rw [byts_part, Nat.sub_zero, List.drop_zero] at C1
  simp only [sW, sL, aw_block, sXs, sXO, sXP, Int.reduceNegSucc, reduceCtorEq, Nat.reduceEqDiff, ↓reduceIte, Nat.reduceAdd, Int.reduceEq, Int.reduceLT, Int.reduceLE, t1]
  refine (feed_spec P4 Bd.zero (v := s1) C1 (C1.bl.mono fun c hc => ⟨by omega, newT_lt (by omega)⟩) (by rw [List.length_take]; omega) (by rw [List.length_take]; simp; omega)).mono ?_
  rintro w H5 ⟨rfl, τ5, P5, F5⟩
  rw [List.nil_append] at P5
  have n5 := F5.1
  have z5 : ∀ c, c < H3.next → τ5 c = 0 := fun c hc => by rw [(F5.2 c (by omega) (.inl (newT_lt hc))).1]; exact newT_lt hc
  have E5 : Ext H3.next H3 H5 := E4.trans ⟨n5, fun c hc => (F5.2 c (by omega) (.inl (newT_lt hc))).2⟩
  have p5t : τ5 H3.next = 1 := by obtain ⟨_, _, _, _, Q⟩ := P5; exact Q.tp
  cases each with
  | false =>
    simp only [sW, sL, aw_block, sXs, sXO, sXP, Int.reduceNegSucc, reduceCtorEq, Nat.reduceEqDiff, ↓reduceIte, Nat.reduceAdd, Int.reduceEq, Int.reduceLT, Int.reduceLE]
    exact law_tail hv (by omega) (by omega) E3 W3 E5 P5 (lx := []) (rdx := (feedF PS.zero (b.take r)).2) (v11 := nilS) (.inl ⟨rfl, rfl⟩) rfl z5 (blk_nil _) (by simp only [sW, sL, aw_block, sXs, sXO, sXP, Int.reduceNegSucc, reduceCtorEq, Nat.reduceEqDiff, ↓reduceIte, Nat.reduceAdd, Int.reduceEq, Int.reduceLT, Int.reduceLE]; try rfl) (by simp only [sW, sL, aw_block, sXs, sXO, sXP, Int.reduceNegSucc, reduceCtorEq, Nat.reduceEqDiff, ↓reduceIte, Nat.reduceAdd, Int.reduceEq, Int.reduceLT, Int.reduceLE]; try rfl) (by simp only [sW, sL, aw_block, sXs, sXO, sXP, Int.reduceNegSucc, reduceCtorEq, Nat.reduceEqDiff, ↓reduceIte, Nat.reduceAdd, Int.reduceEq, Int.reduceLT, Int.reduceLE]; try rfl) (by simp only [sW, sL, aw_block, sXs, sXO, sXP, Int.reduceNegSucc, reduceCtorEq, Nat.reduceEqDiff, ↓reduceIte, Nat.reduceAdd, Int.reduceEq, Int.reduceLT, Int.reduceLE]; try rfl) (by simp only [sW, sL, aw_block, sXs, sXO, sXP, Int.reduceNegSucc, reduceCtorEq, Nat.reduceEqDiff, ↓reduceIte, Nat.reduceAdd, Int.reduceEq, Int.reduceLT, Int.reduceLE]; try rfl) (by simp only [sW, sL, aw_block, sXs, sXO, sXP, Int.reduceNegSucc, reduceCtorEq, Nat.reduceEqDiff, ↓reduceIte, Nat.reduceAdd, Int.reduceEq, Int.reduceLT, Int.reduceLE]; try rfl)
  | true =>
    simp only [sW, sL, aw_block, sXs, sXO, sXP, Int.reduceNegSucc, reduceCtorEq, Nat.reduceEqDiff, ↓reduceIte, Nat.reduceAdd, Int.reduceEq, Int.reduceLT, Int.reduceLE]
    have hfew1 := feed_few PS.zero (b.take r) rfl rfl
    have hlr := List.length_take_le' r b
    refine (drained_spec P5 (k := 6000) (by omega) (fun q hq => (rb_feed Bd.zero (b.take r) q hq).more (by omega)) (by omega)).mono ?_
    rintro d H6 ⟨D6, B6, P6, n6, o6⟩
    have E6 : Ext H3.next H3 H6 := E5.trans ⟨n6, fun c hc => o6 c (by omega) (by omega) (by have := z5 c hc; omega)⟩
    simp only [sW, sL, aw_block, sXs, sXO, sXP, Int.reduceNegSucc, reduceCtorEq, Nat.reduceEqDiff, ↓reduceIte, Nat.reduceAdd, Int.reduceEq, Int.reduceLT, Int.reduceLE]
    exact law_tail hv (by omega) (by omega) E3 W3 E6 (P6.more n6 (Nat.le_refl _)) (lx := (feedF PS.zero (b.take r)).2) (rdx := []) (v11 := d) D6 (List.append_nil _) z5 (B6.mono fun x hx => by omega) (by simp only [sW, sL, aw_block, sXs, sXO, sXP, Int.reduceNegSucc, reduceCtorEq, Nat.reduceEqDiff, ↓reduceIte, Nat.reduceAdd, Int.reduceEq, Int.reduceLT, Int.reduceLE]; try rfl) (by simp only [sW, sL, aw_block, sXs, sXO, sXP, Int.reduceNegSucc, reduceCtorEq, Nat.reduceEqDiff, ↓reduceIte, Nat.reduceAdd, Int.reduceEq, Int.reduceLT, Int.reduceLE]; try rfl) (by simp only [sW, sL, aw_block, sXs, sXO, sXP, Int.reduceNegSucc, reduceCtorEq, Nat.reduceEqDiff, ↓reduceIte, Nat.reduceAdd, Int.reduceEq, Int.reduceLT, Int.reduceLE]; try rfl) (by simp only [sW, sL, aw_block, sXs, sXO, sXP, Int.reduceNegSucc, reduceCtorEq, Nat.reduceEqDiff, ↓reduceIte, Nat.reduceAdd, Int.reduceEq, Int.reduceLT, Int.reduceLE]; try rfl) (by simp only [sW, sL, aw_block, sXs, sXO, sXP, Int.reduceNegSucc, reduceCtorEq, Nat.reduceEqDiff, ↓reduceIte, Nat.reduceAdd, Int.reduceEq, Int.reduceLT, Int.reduceLE]; try rfl) (by simp only [sW, sL, aw_block, sXs, sXO, sXP, Int.reduceNegSucc, reduceCtorEq, Nat.reduceEqDiff, ↓reduceIte, Nat.reduceAdd, Int.reduceEq, Int.reduceLT, Int.reduceLE]; try rfl)
end
end Go.Proofs.Ht
/- A law that returns true and turns nothing that was there: its row's post holds, whatever its arguments are. -/
namespace Go.Abs
open Go.ChangeShapes Go.WideShapes Go.ChangeAt Go.RowKit
section
variable {H : Type} {enc : TypeId × Value → H} {P : Program}
theorem trodAll_below {W W' : World} {base : Nat} {sp : Nat → Bool} {held : Bool} (hb : Below W.heap.size W W') : ∀ {ts : List TypeId} {vs : List Value} {ds : List (DataW H)} {ps : List MemPlace},
    DataW.TrodAll enc P W base sp held ts vs ds ps → DataW.TrodAll enc P W' base sp held ts vs ds ps
  | [], [], [], _, h => h
  | _ :: _, _ :: _, _ :: _, _, ⟨p, q, ⟨n, h1⟩, h2, e⟩ => by
    refine ⟨p, q, ⟨n, DataW.trod_carry n _ _ _ h1 fun x hx => hb.same (DataW.trod_lt n _ _ _ h1 x hx)⟩, trodAll_below hb h2, e⟩
theorem trodVars_below {W W' : World} {sp : Nat → Bool} {gs : List (DataW H)} {q : List MemPlace} (h : DataW.TrodVars enc P W sp [] gs q) : DataW.TrodVars enc P W' sp [] gs q := by
  obtain ⟨rfl, rfl⟩ := trodVars_none h
  exact h
theorem law_post {f : Func} {s : ChangeSpec} {apart : Bool} {W W' : World} {args : Array Value} {ds gs : List (DataW H)} {before : List MemPlace} {tb : TypeId}
    (hl : laidOutB P = true) (hm : mapsRowed P = true)
    (hz : ((List.range P.types.size).all fun t => match P.underlying t with | some (.slice e) => decide (0 < P.cellsOf e) | _ => true) = true)
    (hts : (f.params.toList.all fun t => decide (t < P.types.size)) = true) (hv : s.vars = [])
    (hW : DataW.Whole enc P f.params.toList s.vars apart W args.toList ds gs before)
    (hfn : s.fn H (ds ++ gs) = { results := [.lit (.bool true)], args := ds }) (hr : f.resultTypes = #[tb]) (ht : P.underlying tb = some .bool) (hb : Below W.heap.size W W') :
    s.post enc P f apart true false false W args (.bool true) W' := by
  have hlt : ∀ p ∈ before, p.block < W.heap.size := fun p hp => hW.lt p hp
  have hW0 := hW
  obtain ⟨p, q, hA, hV, rfl, hfz, hnd⟩ := hW
  rw [hv] at hV
  obtain ⟨rfl, rfl⟩ := trodVars_none hV
  have hT : ∀ t ∈ f.params.toList, t < P.types.size := fun t ht => by simpa using List.all_eq_true.1 hts t ht
  refine ⟨ds, [], p ++ [], [], p, [], hW0, ?_, ?_, ?_, World.keptBut_mono (fun x hx => ⟨hx, by simpa using hx⟩) (hb.frame (· ∈ p ++ [])), fun h => by simp at h⟩
  · rw [hfn, hr]
    exact trodAll_cons_mk (shut_bool ht _) trodAll_mk0
  · rw [hfn]
    refine trodAll_below hb (DataW.TrodAll.respare (kids_rows hl hm) (slices_full_of P hz) hT hA fun x hx => ?_)
    simpa using hlt x (by simpa using hx)
  · rw [hfn, hv]
    exact trodVars_below (W := W) hV
end
end Go.Abs
