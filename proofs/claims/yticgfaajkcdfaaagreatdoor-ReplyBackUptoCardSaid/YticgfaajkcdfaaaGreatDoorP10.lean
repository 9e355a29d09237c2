/- Part of a proof (H5 H6 HP H7 H8); no condition. -/
import Derived.Test.YticgfaajkcdfaaaGreatDoorP7
import Derived.Test.YticgfaajkcdfaaaGreatDoorP9
set_option linter.unusedSimpArgs false
set_option linter.unusedVariables false
set_option linter.unnecessarySimpa false
namespace Go.Proofs.Ht
open Go.Abs Go.Abs.S
set_option linter.unusedSimpArgs false
theorem RC.aeq {t n : Nat} {τ : Nat → Nat} {H : AHeap} {v : AVal} {rd : List Rq} (h : RC t n τ H v rd) : aeq v v = true := by
  rcases h with ⟨rfl, _⟩ | ⟨b, o, low, L, rfl, _⟩
  · exact aeq_nilS
  · exact aeq_open _ _ _
theorem HC.aeq {n : Nat} {τ : Nat → Nat} {H : AHeap} {v : AVal} {hs : List (Bs × Bs)} (h : HC n τ H v hs) : aeq v v = true := by
  rcases h.1 with ⟨rfl, _⟩ | ⟨b, low, rfl, _⟩
  · exact aeq_nilS
  · exact aeq_open _ _ _
theorem RC.push {t n : Nat} {τ : Nat → Nat} {H : AHeap} {v : AVal} {rd : List Rq} (h : RC t n τ H v rd) (hn : n ≤ H.next) {r : Rq} {vh vb : AVal} (h1 : vh.one = true) (h2 : vb.one = true) (hl : rd.length ≤ 1000000) :
    ∃ v' H', aAppend 5 88 (H.push (.cells (rqC r vh vb) 0 false)) v (oneM H 5) = some (v', H') ∧ H.next ≤ H'.next ∧ v'.one = true ∧ (∀ c, c < H.next → Blk v (c ≠ ·) → H'.get c = H.get c) ∧ (∀ P, Blk v P → Blk v' fun b => P b ∨ H.next ≤ b) ∧
      ∀ n' τ' G, H'.next ≤ n' → (∀ c, c < n → τ c = t → τ' c = t) → (∀ c, H.next ≤ c → c < n' → τ' c = t) → (∀ c, c < H'.next → ((c < n ∧ τ c = t) ∨ H.next ≤ c) → G.get c = H'.get c) → (∀ (i : Nat) (q : Rq) cs, rd[i]? = some q → RqAt n τ H cs q → RqAt n' τ' G cs q) → RqAt n' τ' G (rqC r vh vb) r → RC t n' τ' G v' (rd ++ [r]) := by
  have ho : (rqC r vh vb).all AVal.one = true := by
    simp only [rqC, List.all_cons, List.all_nil, h1, h2, Bool.and_true]; rfl
  have c1 : ∀ k, k = rd.length → (Nat.blt 0 5 && (Nat.ble ((2 * (k + 1) + 0) * 88) 281474976710656 && (Nat.ble (k + 1) 9223372036854775807 && (Nat.beq (rqC r vh vb).length (1 * 5) && (rqC r vh vb).all AVal.one)))) = true := by
    intro k hk
    subst hk
    have e : Nat.beq (rqC r vh vb).length (1 * 5) = true := rfl
    simp only [Nat.ble_eq_true_of_le (show (2 * (rd.length + 1) + 0) * 88 ≤ 281474976710656 by omega), Nat.ble_eq_true_of_le (show rd.length + 1 ≤ 9223372036854775807 by omega), ho, e, Bool.and_self]
    rfl
  have src := srcM (m := 5) (xs := rqC r vh vb) H rfl
  rcases h with ⟨rfl, rfl⟩ | ⟨b, o, low, L, rfl, e2, e3, e4, e5, e6, e7⟩
  · refine ⟨.slice (some ⟨H.next + 1, 5, 0⟩) 1 (.open_ 5), (H.push (.cells (rqC r vh vb) 0 false)).push (.cells (rqC r vh vb) 0 false), ?_, by simp only [push_next]; omega, rfl, fun c hc _ => by rw [AHeap.get_push, if_neg (by rw [push_next]; omega), get_push_lt hc], fun P _ => blk_some (.inr (Nat.le_succ _)), fun n' τ' G q1 q2 q3 q0 q4 q5 => ?_⟩
    · simp only [aAppend, src, nilS]
      rw [show Nat.beq 1 0 = false from rfl, cond_false, c1 0 rfl, cond_true]
      rfl
    · have hlt : H.next + 1 < n' := Nat.lt_of_lt_of_le (Nat.lt_succ_self _) q1
      refine .inr ⟨H.next + 1, 0, 0, rqC r vh vb, rfl, by rw [q0 (H.next + 1) (Nat.lt_succ_self _) (.inr (by omega)), AHeap.get_push]; exact if_pos rfl, Nat.zero_le _, rfl, hlt, q3 _ (by omega) hlt, fun i q hq => ?_⟩
      cases i with
      | zero => simp at hq; subst hq; exact q5
      | succ i => simp at hq
  · have hg : (H.push (.cells (rqC r vh vb) 0 false)).get b = some (.cells L low false) := by rw [AHeap.get_push, if_neg (by omega)]; exact e2
    have hgrow : growCells (H.push (.cells (rqC r vh vb) 0 false)) ⟨b, L.length, o⟩ L.length (rqC r vh vb) = some ((H.push (.cells (rqC r vh vb) 0 false)).set b (.cells (L ++ rqC r vh vb) low false)) := by
      unfold growCells
      simp only [hg, Nat.ble_eq_true_of_le e3, Nat.beq_refl, Nat.ble_eq_true_of_le (Nat.le_refl _), Nat.ble_eq_true_of_le (show o ≤ L.length by omega), Nat.ble_eq_true_of_le (show L.length + 1 ≤ L.length + (rqC r vh vb).length by show _ ≤ _ + 5; omega), ho, Bool.and_self, cond_true, List.take_length]
    have e1 : Nat.ble (o + (rd.length + 1) * 5) L.length = false := by rw [ble_dec]; exact decide_eq_false (by omega)
    refine ⟨.slice (some ⟨b, L.length + 5, o⟩) (rd.length + 1) (.open_ 5), (H.push (.cells (rqC r vh vb) 0 false)).set b (.cells (L ++ rqC r vh vb) low false), ?_, by rw [set_next, push_next]; omega, rfl, fun c hc hd => by rw [AHeap.get_set, if_neg (hd _ _ _ rfl), get_push_lt hc], fun P hP => (have hP2 : P b := hP _ _ _ rfl; blk_some (.inl hP2)), fun n' τ' G q1 q2 q3 q0 q4 q5 => ?_⟩
    · simp only [aAppend, src]
      rw [show Nat.beq 1 0 = false from rfl, cond_false, c1 _ rfl, cond_true]
      simp only [Nat.beq_refl, cond_true, e1, cond_false, hgrow, e4]
      rfl
    · have hlt : b < n' := by rw [set_next, push_next] at q1; omega
      refine .inr ⟨b, o, low, L ++ rqC r vh vb, ?_, by rw [q0 b (by rw [set_next, push_next]; omega) (.inl ⟨e5, e6⟩), AHeap.get_set, if_pos rfl], by simp; omega, ?_, hlt, q2 b e5 e6, fun i q hq => ?_⟩
      · rw [List.length_append, List.length_append]; rfl
      · rw [List.length_append, List.length_append]
        show o + (rd.length + 1) * 5 = L.length + 5
        omega
      · by_cases hi : i < rd.length
        · rw [List.getElem?_append_left hi] at hq
          have := q4 i q _ hq (e7 i q hq)
          have e : ((L ++ rqC r vh vb).drop (o + i * 5)).take 5 = (L.drop (o + i * 5)).take 5 := by
            rw [List.drop_append_of_le_length (by omega), List.take_append_of_le_length (by simp; omega)]
          rw [e]; exact this
        · have hi' : i = rd.length := by
            rw [List.getElem?_append_right (by omega)] at hq
            have := (List.getElem?_eq_some_iff.1 hq).1
            simp at this; omega
          subst hi'
          rw [List.getElem?_append_right (Nat.le_refl _), Nat.sub_self] at hq
          simp at hq
          subst hq
          rw [e4, List.drop_left]
          exact q5
theorem sumSz_snoc (rd : List Rq) (r : Rq) : sumSz (rd ++ [r]) = sumSz rd + rqSz r := by simp [sumSz]
theorem szF_add (rd : List Rq) (r : Rq) : IntKind.i64.wrap (szF rd + (rqSz r : Int)) = szF (rd ++ [r]) := by
  rw [szF, szF, sumSz_snoc, IntKind.wrap_i64, IntKind.wrap_i64, IntKind.wrap_i64]
  omega
structure Bm (k : Nat) (s : PS) : Prop where
  m : s.now.m.length ≤ k
  t : s.now.t.length ≤ k
  body : s.now.body.length ≤ k
  hs : s.now.hs.length ≤ k
  he : ∀ h ∈ s.now.hs, h.1.length ≤ k ∧ h.2.length ≤ k
theorem Bd.bm {k : Nat} {s : PS} (B : Bd k s) : Bm k s := ⟨B.m, B.t, B.body, B.hs, B.he⟩
theorem whole_spec {n : Nat} {τ : Nat → Nat} {H : AHeap} {p : Nat} {s : PS} {rd : List Rq} {k : Nat} (P : PR n τ H p s rd) (B : Bm k s) (hk : k ≤ 1000000) (hrd : rd.length ≤ 1000000) :
    ACalls Tryz.prog natX 59 [cellR p 15 0] H fun v H' => ∃ τ', PR H'.next τ' H' p (wholeF s).1 (rd ++ (wholeF s).2) ∧ Fr τ H τ' H' := by
  obtain ⟨vl, vh, vb, vr, P⟩ := P
  refine acalls_ofN rfl za59 rfl ?_
  obtain ⟨l0, l1, l2, l3, l4, l7, l8, l9, l10, l11, l12, l13, l14, lN⟩ := P.lds
  have oh : vh.one = true := P.h.1.one
  have ob : vb.one = true := P.b.1.one
  have nn := P.nn
  have pn := P.pn
  have tp := P.tp
  obtain ⟨v', H1, m1, n1, o1, f1', _, g1⟩ := P.r.push nn (r := s.now) oh ob hrd
  have f1 : ∀ c, c < H.next → τ c ≠ 5 → H1.get c = H.get c := fun c hc h5 => f1' c hc (P.r.bl.mono fun b hb => by rintro rfl; exact h5 hb.2)
  have bm := buildM (m := 5) (z := [.str [], .str [], .slice none 0 (.known 0), .slice none 0 (.known 0), .bool false]) (xs := rqC s.now vh vb) H rfl rfl
  have R1 : Row H1 p (pC p s vl vh vb vr (szF rd)) := P.row.same (f1 p (by omega) (by omega))
  obtain ⟨H2, m2, r2, k2, o2⟩ := row_st R1 (n := 15) rfl (i := 13) (by omega) (x := v') o1 rfl
  have r2' : Row H2 p (pC p s vl vh vb v' (szF rd)) := r2
  have l14' : oLoad false 1 H2 (cellR p 15 14) = some (.int .i64 (szF rd)) := row_load r2' rfl rfl
  have lN' : oLoad true 5 H2 (cellR p 15 5) = some (.agg (rqC s.now vh vb)) := row_loadK r2' (n := 15) rfl (by omega)
  have l13' : oLoad false 1 (H.push (.cells (rqC s.now vh vb) 0 false)) (cellR p 15 13) = some vr := row_load (P.row.same (get_push_lt (by omega))) rfl rfl
  have f2 : ∀ c, c < H.next → τ c ≠ 5 → τ c ≠ 1 → H2.get c = H.get c := fun c hc h5 h1 => by rw [o2 c (by rintro rfl; exact h1 tp), f1 c hc h5]
  simp only [c59, sA, Int.reduceNegSucc, reduceCtorEq, Nat.reduceEqDiff, ↓reduceIte, Nat.reduceAdd, Int.reduceEq, Int.reduceLT, Int.reduceLE, Nat.reduceLT]
  refine aw_drawC rfl ?_
  simp only [sA, Int.reduceNegSucc, reduceCtorEq, Nat.reduceEqDiff, ↓reduceIte, Nat.reduceAdd, Int.reduceEq, Int.reduceLT, Int.reduceLE, Nat.reduceLT, sR, nil_cell, fldA, l13, lN, bm, m1, m2]
  simp only [ck_nil', ck_cons, ckP_load, ckP_nil, ck_end, and_true, true_and, List.map_cons, List.map_nil, sA, Int.reduceNegSucc, reduceCtorEq, Nat.reduceEqDiff, ↓reduceIte, Nat.reduceAdd, Int.reduceEq, Int.reduceLT, Int.reduceLE, Nat.reduceLT, fldA, l13']
  refine ⟨⟨_, rfl, fun _ => ⟨_, l13', P.r.aeq⟩⟩, ?_⟩
  refine aw_drawC rfl ?_
  simp only [sA, Int.reduceNegSucc, reduceCtorEq, Nat.reduceEqDiff, ↓reduceIte, Nat.reduceAdd, Int.reduceEq, Int.reduceLT, Int.reduceLE, Nat.reduceLT, sR, nil_cell, fldA, l14', lN']
  have hv : Prs n H2 vh s.now.hs := (P.h.1.prs (P.h.2.mono fun b hb => hb.1)).fr (Nat.le_refl _) (P.h.2.mono fun b hb => f2 b (by omega) (by omega) (by omega))
  have hbl : Lin H2 vb s.now.body := P.b.1.same (by omega) (P.b.2.mono fun b hb => f2 b (by omega) (by omega) (by omega))
  refine (size_spec s.now hv hbl.len (by omega) hk B.m B.t B.body B.hs B.he).mono ?_
  rintro w H3 ⟨rfl, E3⟩
  have R3 : Row H3 p (pC p s vl vh vb v' (szF rd)) := r2'.same (E3.old p (by omega))
  obtain ⟨H4, m4, r4, k4, o4⟩ := row_st R3 (n := 15) rfl (i := 14) (by omega) (x := .int .i64 (szF (rd ++ [s.now]))) rfl rfl
  have r4' : Row H4 p (pC p s vl vh vb v' (szF (rd ++ [s.now]))) := r4
  have l14b : oLoad false 1 H3 (cellR p 15 14) = some (.int .i64 (szF rd)) := row_load R3 rfl rfl
  have lNb : oLoad true 5 H3 (cellR p 15 5) = some (.agg (rqC s.now vh vb)) := row_loadK R3 (n := 15) rfl (by omega)
  have l9b : oLoad false 1 H4 (cellR p 15 9) = some (.bool s.now.close) := row_load r4' rfl rfl
  have f4 : ∀ c, c < H.next → τ c ≠ 5 → τ c ≠ 1 → H4.get c = H.get c := fun c hc h5 h1 => by rw [o4 c (by rintro rfl; exact h1 tp), E3.old c (by omega), f2 c hc h5 h1]
  simp only [sA, Int.reduceNegSucc, reduceCtorEq, Nat.reduceEqDiff, ↓reduceIte, Nat.reduceAdd, Int.reduceEq, Int.reduceLT, Int.reduceLE, Nat.reduceLT, sR, nil_cell, fldA, szF_add, m4]
  simp only [ck_nil', ck_cons, ckP_load, ckP_nil, ck_end, and_true, true_and, List.map_cons, List.map_nil, sA, Int.reduceNegSucc, reduceCtorEq, Nat.reduceEqDiff, ↓reduceIte, Nat.reduceAdd, Int.reduceEq, Int.reduceLT, Int.reduceLE, Nat.reduceLT, fldA, l14b]
  refine ⟨⟨_, rfl, fun _ => ⟨_, l14b, aeq_int _ _⟩⟩, ?_⟩
  let τ' : Nat → Nat := fun c => if c < H.next then (if τ c = 3 ∨ τ c = 4 then 6 else τ c) else if c < H4.next then 5 else 0
  have t6 : ∀ c, c < H.next → τ c = 6 ∨ τ c = 3 ∨ τ c = 4 → τ' c = 6 := fun c hc h => by
    show (if c < H.next then (if τ c = 3 ∨ τ c = 4 then 6 else τ c) else if c < H4.next then 5 else 0) = 6
    rw [if_pos hc]; split <;> omega
  have tk : ∀ c, c < H.next → τ c ≠ 3 → τ c ≠ 4 → τ' c = τ c := fun c hc h3 h4 => by
    show (if c < H.next then (if τ c = 3 ∨ τ c = 4 then 6 else τ c) else if c < H4.next then 5 else 0) = τ c
    rw [if_pos hc, if_neg (by omega)]
  have t5 : ∀ c, H.next ≤ c → c < H4.next → τ' c = 5 := fun c hc h => by
    show (if c < H.next then (if τ c = 3 ∨ τ c = 4 then 6 else τ c) else if c < H4.next then 5 else 0) = 5
    rw [if_neg (by omega), if_pos h]
  have tz : ∀ c, H4.next ≤ c → τ' c = 0 := fun c hc => by
    show (if c < H.next then (if τ c = 3 ∨ τ c = 4 then 6 else τ c) else if c < H4.next then 5 else 0) = 0
    rw [if_neg (by have := E3.next; omega), if_neg (by omega)]
  have n3 := E3.next
  have hv4 : Prs H4.next H4 vh s.now.hs := (P.h.1.prs (P.h.2.mono fun b hb => hb.1)).fr (by omega) (P.h.2.mono fun b hb => f4 b (by omega) (by omega) (by omega))
  have hb4 : Lin H4 vb s.now.body := P.b.1.same (by omega) (P.b.2.mono fun b hb => f4 b (by omega) (by omega) (by omega))
  have hrq : RqAt H4.next τ' H4 (rqC s.now vh vb) s.now := ⟨vh, vb, rfl, oh, ob, hv4, hb4.cel hb4.blk, P.h.2.mono fun b hb => t6 b (by omega) (by omega), P.b.2.mono fun b hb => t6 b (by omega) (by omega)⟩
  have hRC : RC 5 H4.next τ' H4 v' (rd ++ [s.now]) := by
    refine g1 H4.next τ' H4 (by omega) (fun c hc h5 => by rw [tk c (by omega) (by omega) (by omega)]; exact h5) t5 (fun c hc hd => ?_) (fun i q cs _ hq => ?_) hrq
    · have hcp : c ≠ p := by rintro rfl; omega
      rw [o4 c hcp, E3.old c (by omega), o2 c hcp]
    · exact hq.fr (by omega) (fun c hc h0 => t6 c (by omega) (.inl h0)) fun c hc h0 => f4 c (by omega) (by omega) (by omega)
  have hR4 : Row H4 p (pC p s vl vh vb v' (szF (rd ++ [s.now]))) := r4'
  have fin0 : ∀ j : Nat, ACalls Tryz.prog natX 48 [cellR p 15 0, .int .i64 (j : Int)] H4 fun v H' => ∃ τ', PR H'.next τ' H' p (s.reset j) (rd ++ [s.now]) ∧ Fr τ H τ' H' := by
    intro j
    refine acalls_ofN rfl za48 rfl ?_
    obtain ⟨H5, m5, r5, k5, o5⟩ := row_st hR4 (n := 15) rfl (i := 1) (by omega) (x := .int .i64 (j : Int)) rfl rfl
    obtain ⟨H6, m6, r6, k6, o6⟩ := row_st r5 (n := 15) rfl (i := 3) (by omega) (x := .slice none 0 (.known 0)) rfl rfl
    obtain ⟨H7, m7, r7, k7, o7⟩ := row_st r6 (n := 15) rfl (i := 4) (by omega) (x := .bool false) rfl rfl
    obtain ⟨H8, m8, r8, k8, o8⟩ := row_storeK r7 (n := 15) rfl (i := 5) (k := 5) (by omega) (xs := [.str [], .str [], .slice none 0 (.known 0), .slice none 0 (.known 0), .bool false]) rfl rfl
    have r8' : Row H8 p [cellR p 15 0, .int .i64 (j : Int), .int .i64 (s.fault : Int), nilS, .bool false, .str [], .str [], nilS, nilS, .bool false, .int .i64 (s.need : Int), .int .i64 (s.trailers : Int), .int .i64 (s.fed : Int), v', .int .i64 (szF (rd ++ [s.now]))] := r8
    obtain ⟨H9, m9, r9, k9, o9⟩ := row_st r8' (n := 15) rfl (i := 10) (by omega) (x := .int .i64 0) rfl rfl
    obtain ⟨HA, mA, rA, kA, oA⟩ := row_st r9 (n := 15) rfl (i := 11) (by omega) (x := .int .i64 0) rfl rfl
    obtain ⟨HB, mB, rB, kB, oB⟩ := row_st rA (n := 15) rfl (i := 12) (by omega) (x := .int .i64 0) rfl rfl
    have b0 : aBuild [.str [], .str [], .slice none 0 (.known 0), .slice none 0 (.known 0), .bool false] [] = some (.agg [.str [], .str [], .slice none 0 (.known 0), .slice none 0 (.known 0), .bool false]) := rfl
    have o : ∀ c, c ≠ p → HB.get c = H4.get c := fun c hc => by rw [oB c hc, oA c hc, o9 c hc, o8 c hc, o7 c hc, o6 c hc, o5 c hc]
    simp only [c48, sA, Int.reduceNegSucc, reduceCtorEq, Nat.reduceEqDiff, ↓reduceIte, Nat.reduceAdd, Int.reduceEq, Int.reduceLT, Int.reduceLE, Nat.reduceLT, nil_cell, fldA, m5, m6, m7, m8, m9, mA, mB, b0, fin_n0]
    have kk : HB.next = H4.next := by omega
    refine ⟨τ', ⟨nilS, nilS, nilS, v', rB, by omega, Nat.le_refl _, by rw [tk p (by omega) (by omega) (by omega)]; exact tp, fun c hc => tz c (by omega), ⟨Lin.nil _, blk_nil _⟩, ⟨AppN.nil _ _ _, blk_nil _⟩, ⟨Lin.nil _, blk_nil _⟩, hRC.fr (by omega) (fun _ _ _ => rfl) fun c _ hc => o c (by rintro rfl; have := tk c (by omega) (by omega) (by omega); omega)⟩, by omega, fun c hc h0 => ⟨tk c hc (by omega) (by omega), ?_⟩⟩
    rw [o c (by rintro rfl; omega)]
    exact f4 c hc (by omega) (by omega)
  cases hcl : s.now.close with
  | true =>
    rw [hcl] at l9b
    simp only [sA, Int.reduceNegSucc, reduceCtorEq, Nat.reduceEqDiff, ↓reduceIte, Nat.reduceAdd, Int.reduceEq, Int.reduceLT, Int.reduceLE, Nat.reduceLT, nil_cell, fldA, l9b]
    have e : wholeF s = (s.reset 8, [s.now]) := by simp [wholeF, hcl]
    rw [e]
    refine (fin0 8).mono ?_
    rintro v H' h
    simp only [sA, Int.reduceNegSucc, reduceCtorEq, Nat.reduceEqDiff, ↓reduceIte, Nat.reduceAdd, Int.reduceEq, Int.reduceLT, Int.reduceLE, Nat.reduceLT, fin_n0]
    exact h
  | false =>
    rw [hcl] at l9b
    simp only [sA, Int.reduceNegSucc, reduceCtorEq, Nat.reduceEqDiff, ↓reduceIte, Nat.reduceAdd, Int.reduceEq, Int.reduceLT, Int.reduceLE, Nat.reduceLT, nil_cell, fldA, l9b]
    have e : wholeF s = (s.reset 0, [s.now]) := by simp [wholeF, hcl]
    rw [e]
    refine (fin0 0).mono ?_
    rintro v H' h
    simp only [sA, Int.reduceNegSucc, reduceCtorEq, Nat.reduceEqDiff, ↓reduceIte, Nat.reduceAdd, Int.reduceEq, Int.reduceLT, Int.reduceLE, Nat.reduceLT, fin_n0]
    exact h
end Go.Proofs.Ht
namespace Go.Proofs.Ht
open Go.Abs Go.Abs.S
set_option linter.unusedSimpArgs false
def Told (τ : Nat → Nat) (H : AHeap) (p : Nat) (rd : List Rq) (o : Out) : AVal → AHeap → Prop := fun v H' => v = .int .i64 (o.2.2 : Int) ∧ ∃ τ', PR H'.next τ' H' p o.1 (rd ++ o.2.1) ∧ Fr τ H τ' H'
theorem told_own {n : Nat} {τ : Nat → Nat} {H H' : AHeap} {p : Nat} {s : PS} {rd : List Rq} {vl vh vb vr : AVal} (P : PV n τ H' p s rd vl vh vb vr) (F : Fr τ H τ H') (e : Nat) : Told τ H p rd (s, [], e) (.int .i64 (e : Int)) H' :=
  ⟨rfl, τ, by rw [List.append_nil]; exact ⟨_, _, _, _, P.more P.nn (Nat.le_refl _)⟩, F⟩
theorem fr_own {n : Nat} {τ : Nat → Nat} {H H' : AHeap} {p : Nat} {s : PS} {rd : List Rq} {vl vh vb vr : AVal} (P : PV n τ H p s rd vl vh vb vr) (hn : H'.next = H.next) (o : ∀ c, c ≠ p → H'.get c = H.get c) : Fr τ H τ H' :=
  ⟨by omega, fun c _ h0 => ⟨rfl, o c (by have := P.tp; rintro rfl; omega)⟩⟩
section
variable {n : Nat} {τ : Nat → Nat} {H : AHeap} {p : Nat} {s : PS} {rd : List Rq}
theorem reqline_spec (P : PR n τ H p s rd) (l : Bs) (right : Bool) (hl : l.length ≤ 1000000) :
    ACalls Tryz.prog natX 79 [cellR p 15 0, .str l, .bool right] H (Told τ H p rd ((requestF s l right).1, [], (requestF s l right).2)) := by
  obtain ⟨vl, vh, vb, vr, P⟩ := P
  refine acalls_ofN rfl za79 rfl ?_
  obtain ⟨l0, l1, l2, l3, l4, _⟩ := P.lds
  have stay : ∀ e : Nat, requestF s l right = (s, e) → Told τ H p rd ((requestF s l right).1, [], (requestF s l right).2) (.int .i64 (e : Int)) H := fun e h => by rw [h]; exact told_own P (Fr.refl _ _) e
  cases right with
  | false =>
    simp only [c79, sA, Int.reduceNegSucc, reduceCtorEq, Nat.reduceEqDiff, ↓reduceIte, Nat.reduceAdd, Int.reduceEq, Int.reduceLT, Int.reduceLE, Nat.reduceLT]
    exact stay 20 (by simp [requestF])
  | true =>
    by_cases h0 : l = []
    · subst h0
      cases hb : s.blank with
      | true =>
        rw [hb] at l4
        simp only [c79, sA, Int.reduceNegSucc, reduceCtorEq, Nat.reduceEqDiff, ↓reduceIte, Nat.reduceAdd, Int.reduceEq, Int.reduceLT, Int.reduceLE, Nat.reduceLT, nil_cell, fldA, l4]
        exact stay 20 (by simp [requestF, hb])
      | false =>
        rw [hb] at l4
        obtain ⟨H1, m1, r1, k1, o1⟩ := row_st P.row (n := 15) rfl (i := 4) (by omega) (x := .bool true) rfl rfl
        simp only [c79, sA, Int.reduceNegSucc, reduceCtorEq, Nat.reduceEqDiff, ↓reduceIte, Nat.reduceAdd, Int.reduceEq, Int.reduceLT, Int.reduceLE, Nat.reduceLT, nil_cell, fldA, l4, m1]
        have e : requestF s [] true = ({ s with blank := true }, 0) := by simp [requestF, hb]
        rw [e]
        exact told_own (P.own (s' := { s with blank := true }) r1 k1 o1 rfl rfl rfl) (fr_own P k1 o1) 0
    · simp only [c79, sA, Int.reduceNegSucc, reduceCtorEq, Nat.reduceEqDiff, ↓reduceIte, Nat.reduceAdd, Int.reduceEq, Int.reduceLT, Int.reduceLE, Nat.reduceLT, eq_false h0]
      refine (cut_spec l 32 (by omega)).mono ?_
      rintro v _ ⟨rfl, rfl⟩
      have hc1 := cut_len l 32
      have go : ∀ x : PS × Nat, ((cutF l 32).2.2 = true → token (cutF l 32).1 = true → requestF s l true = x) → (cutF l 32).2.2 = true ∧ token (cutF l 32).1 = true → requestF s l true = x := fun x h h' => h h'.1 h'.2
      cases hk : (cutF l 32).2.2 with
      | false =>
        simp only [sA, Int.reduceNegSucc, reduceCtorEq, Nat.reduceEqDiff, ↓reduceIte, Nat.reduceAdd, Int.reduceEq, Int.reduceLT, Int.reduceLE, Nat.reduceLT, ext_0, ext_1, ext_2]
        exact stay 20 (by simp [requestF, h0, hk])
      | true =>
        simp only [sA, Int.reduceNegSucc, reduceCtorEq, Nat.reduceEqDiff, ↓reduceIte, Nat.reduceAdd, Int.reduceEq, Int.reduceLT, Int.reduceLE, Nat.reduceLT, ext_0, ext_1, ext_2]
        refine (token_spec (cutF l 32).1 (by omega)).mono ?_
        rintro v _ ⟨rfl, rfl⟩
        cases ht : token (cutF l 32).1 with
        | false =>
          simp only [sA, Int.reduceNegSucc, reduceCtorEq, Nat.reduceEqDiff, ↓reduceIte, Nat.reduceAdd, Int.reduceEq, Int.reduceLT, Int.reduceLE, Nat.reduceLT]
          exact stay 20 (by simp [requestF, h0, hk, ht])
        | true =>
          simp only [sA, Int.reduceNegSucc, reduceCtorEq, Nat.reduceEqDiff, ↓reduceIte, Nat.reduceAdd, Int.reduceEq, Int.reduceLT, Int.reduceLE, Nat.reduceLT]
          refine (cut_spec (cutF l 32).2.1 32 (by omega)).mono ?_
          rintro v _ ⟨rfl, rfl⟩
          have hc2 := cut_len (cutF l 32).2.1 32
          obtain ⟨tg, vs, ok, hb⟩ : ∃ tg vs ok, cutF (cutF l 32).2.1 32 = (tg, vs, ok) := ⟨_, _, _, rfl⟩
          rw [hb] at hc2
          simp only at hc2
          have eb : requestF s l true = (if ok = false ∨ vs ≠ verW ∨ tg = [] ∨ tg.head? ≠ some 47 then (s, 20) else if tg.all tarB = false then (s, 20) else ({ s with now := { s.now with m := (cutF l 32).1, t := tg }, st := 1 }, 0)) := by
            simp [requestF, h0, hk, ht, hb]
          rw [hb]
          cases ok with
          | false =>
            simp only [sA, Int.reduceNegSucc, reduceCtorEq, Nat.reduceEqDiff, ↓reduceIte, Nat.reduceAdd, Int.reduceEq, Int.reduceLT, Int.reduceLE, Nat.reduceLT, ext_0, ext_1, ext_2]
            exact stay 20 (by rw [eb]; simp)
          | true =>
            by_cases hv : vs = verW
            · subst hv
              by_cases htg : tg = []
              · subst htg
                simp only [sA, Int.reduceNegSucc, reduceCtorEq, Nat.reduceEqDiff, ↓reduceIte, Nat.reduceAdd, Int.reduceEq, Int.reduceLT, Int.reduceLE, Nat.reduceLT, ext_0, ext_1, ext_2, verW]
                exact stay 20 (by rw [eb]; simp)
              · obtain ⟨b, r, rfl⟩ : ∃ b r, tg = b :: r := by
                  cases tg with
                  | nil => exact absurd rfl htg
                  | cons b r => exact ⟨b, r, rfl⟩
                have i0 : aIdxS (.str (b :: r)) (.int .i64 0) = some (by8 b) := str_idx (i := 0) rfl .i64
                by_cases h47 : b = 47
                · subst h47
                  have e47 : (((47 : UInt8).toNat : Nat) : Int) = 47 := rfl
                  simp only [sA, Int.reduceNegSucc, reduceCtorEq, Nat.reduceEqDiff, ↓reduceIte, Nat.reduceAdd, Int.reduceEq, Int.reduceLT, Int.reduceLE, Nat.reduceLT, ext_0, ext_1, ext_2, verW, i0, e47, eq_false htg]
                  refine (all_spec says_tar (47 :: r) (by omega)).mono ?_
                  rintro v _ ⟨rfl, rfl⟩
                  cases ha : (47 :: r : Bs).all tarB with
                  | false =>
                    simp only [sA, Int.reduceNegSucc, reduceCtorEq, Nat.reduceEqDiff, ↓reduceIte, Nat.reduceAdd, Int.reduceEq, Int.reduceLT, Int.reduceLE, Nat.reduceLT]
                    exact stay 20 (by rw [eb, ha]; simp)
                  | true =>
                    obtain ⟨H1, m1, r1, k1, o1⟩ := row_st P.row (n := 15) rfl (i := 5) (by omega) (x := .str (cutF l 32).1) rfl rfl
                    obtain ⟨H2, m2, r2, k2, o2⟩ := row_st r1 (n := 15) rfl (i := 6) (by omega) (x := .str (47 :: r)) rfl rfl
                    obtain ⟨H3, m3, r3, k3, o3⟩ := row_st r2 (n := 15) rfl (i := 1) (by omega) (x := .int .i64 1) rfl rfl
                    simp only [sA, Int.reduceNegSucc, reduceCtorEq, Nat.reduceEqDiff, ↓reduceIte, Nat.reduceAdd, Int.reduceEq, Int.reduceLT, Int.reduceLE, Nat.reduceLT, nil_cell, fldA, m1, m2, m3]
                    have e : requestF s l true = ({ s with now := { s.now with m := (cutF l 32).1, t := 47 :: r }, st := 1 }, 0) := by rw [eb, ha]; simp
                    rw [e]
                    have o : ∀ c, c ≠ p → H3.get c = H.get c := fun c hc => by rw [o3 c hc, o2 c hc, o1 c hc]
                    exact told_own (P.own (s' := { s with now := { s.now with m := (cutF l 32).1, t := 47 :: r }, st := 1 }) r3 (by omega) o rfl rfl rfl) (fr_own P (by omega) o) 0
                · have h47' : ¬ ((b.toNat : Int) = 47) := fun e => h47 (UInt8.toNat_inj.1 (by show b.toNat = 47; omega))
                  simp only [sA, Int.reduceNegSucc, reduceCtorEq, Nat.reduceEqDiff, ↓reduceIte, Nat.reduceAdd, Int.reduceEq, Int.reduceLT, Int.reduceLE, Nat.reduceLT, ext_0, ext_1, ext_2, verW, i0, h47', eq_false htg]
                  exact stay 20 (by rw [eb]; simp [h47])
            · have hv' : ¬ vs = [72, 84, 84, 80, 47, 49, 46, 49] := hv
              simp only [sA, Int.reduceNegSucc, reduceCtorEq, Nat.reduceEqDiff, ↓reduceIte, Nat.reduceAdd, Int.reduceEq, Int.reduceLT, Int.reduceLE, Nat.reduceLT, ext_0, ext_1, ext_2, eq_false hv']
              exact stay 20 (by rw [eb, if_pos (.inr (.inl hv))])
theorem chunk_spec (P : PR n τ H p s rd) {k : Nat} (B : Bd k s) (hk : k ≤ 1000000) (l : Bs) (right : Bool) (hl : l.length ≤ 1000000) :
    ACalls Tryz.prog natX 81 [cellR p 15 0, .str l, .bool right] H (Told τ H p rd ((chunkF s l right).1, [], (chunkF s l right).2)) := by
  obtain ⟨vl, vh, vb, vr, P⟩ := P
  refine acalls_ofN rfl za81 rfl ?_
  obtain ⟨l0, l1, l2, l3, l4, l7, l8, _⟩ := P.lds
  have stay : ∀ e : Nat, chunkF s l right = (s, e) → Told τ H p rd ((chunkF s l right).1, [], (chunkF s l right).2) (.int .i64 (e : Int)) H := fun e h => by rw [h]; exact told_own P (Fr.refl _ _) e
  cases right with
  | false =>
    simp only [c81, sA, Int.reduceNegSucc, reduceCtorEq, Nat.reduceEqDiff, ↓reduceIte, Nat.reduceAdd, Int.reduceEq, Int.reduceLT, Int.reduceLE, Nat.reduceLT]
    exact stay 22 (by simp [chunkF])
  | true =>
    simp only [c81, sA, Int.reduceNegSucc, reduceCtorEq, Nat.reduceEqDiff, ↓reduceIte, Nat.reduceAdd, Int.reduceEq, Int.reduceLT, Int.reduceLE, Nat.reduceLT]
    refine (cut_spec l 59 (by omega)).mono ?_
    rintro v _ ⟨rfl, rfl⟩
    have hc1 := cut_len l 59
    obtain ⟨dg, mo, ok, hb⟩ : ∃ dg mo ok, cutF l 59 = (dg, mo, ok) := ⟨_, _, _, rfl⟩
    rw [hb] at hc1 ⊢
    simp only at hc1
    have eb : chunkF s l true = (if dg.length < 1 ∨ 7 < dg.length ∨ dg.all hexB = false ∨ mo.all valB = false then (s, 22) else if hexF dg = 0 then ({ s with st := 7 }, 0) else if 65536 < s.now.body.length + hexF dg then (s, 3) else ({ s with need := hexF dg, st := 4 }, 0)) := by
      simp [chunkF, hb]
    by_cases h1 : dg.length < 1
    · have h1' : (dg.length : Int) < 1 := by omega
      simp only [sA, Int.reduceNegSucc, reduceCtorEq, Nat.reduceEqDiff, ↓reduceIte, Nat.reduceAdd, Int.reduceEq, Int.reduceLT, Int.reduceLE, Nat.reduceLT, ext_0, ext_1, ext_2, h1']
      exact stay 22 (by rw [eb, if_pos (.inl h1)])
    have h1' : ¬ (dg.length : Int) < 1 := by omega
    by_cases h2 : 7 < dg.length
    · have h2' : (7 : Int) < (dg.length : Int) := by omega
      simp only [sA, Int.reduceNegSucc, reduceCtorEq, Nat.reduceEqDiff, ↓reduceIte, Nat.reduceAdd, Int.reduceEq, Int.reduceLT, Int.reduceLE, Nat.reduceLT, ext_0, ext_1, ext_2, h1', h2']
      exact stay 22 (by rw [eb, if_pos (.inr (.inl h2))])
    have h2' : ¬ (7 : Int) < (dg.length : Int) := by omega
    simp only [sA, Int.reduceNegSucc, reduceCtorEq, Nat.reduceEqDiff, ↓reduceIte, Nat.reduceAdd, Int.reduceEq, Int.reduceLT, Int.reduceLE, Nat.reduceLT, ext_0, ext_1, ext_2, h1', h2']
    refine (all_spec says_hex dg (by omega)).mono ?_
    rintro v _ ⟨rfl, rfl⟩
    cases hx : dg.all hexB with
    | false =>
      simp only [sA, Int.reduceNegSucc, reduceCtorEq, Nat.reduceEqDiff, ↓reduceIte, Nat.reduceAdd, Int.reduceEq, Int.reduceLT, Int.reduceLE, Nat.reduceLT]
      exact stay 22 (by rw [eb, if_pos (.inr (.inr (.inl hx)))])
    | true =>
      simp only [sA, Int.reduceNegSucc, reduceCtorEq, Nat.reduceEqDiff, ↓reduceIte, Nat.reduceAdd, Int.reduceEq, Int.reduceLT, Int.reduceLE, Nat.reduceLT]
      refine (all_spec says_val mo (by omega)).mono ?_
      rintro v _ ⟨rfl, rfl⟩
      cases hm : mo.all valB with
      | false =>
        simp only [sA, Int.reduceNegSucc, reduceCtorEq, Nat.reduceEqDiff, ↓reduceIte, Nat.reduceAdd, Int.reduceEq, Int.reduceLT, Int.reduceLE, Nat.reduceLT]
        exact stay 22 (by rw [eb, if_pos (.inr (.inr (.inr hm)))])
      | true =>
        simp only [sA, Int.reduceNegSucc, reduceCtorEq, Nat.reduceEqDiff, ↓reduceIte, Nat.reduceAdd, Int.reduceEq, Int.reduceLT, Int.reduceLE, Nat.reduceLT]
        have eb' : chunkF s l true = (if hexF dg = 0 then ({ s with st := 7 }, 0) else if 65536 < s.now.body.length + hexF dg then (s, 3) else ({ s with need := hexF dg, st := 4 }, 0)) := by
          rw [eb, if_neg ?_]
          rintro (h | h | h | h)
          · exact h1 h
          · exact h2 h
          · rw [hx] at h; simp at h
          · rw [hm] at h; simp at h
        have hlim := hexF_lt dg hx
        have hlim' : hexF dg < 16 ^ 7 := Nat.lt_of_lt_of_le hlim (Nat.pow_le_pow_right (by omega) (by omega))
        refine aw_loop (fun q (T : Env) H' => ∃ j : Nat, j ≤ dg.length ∧ q = dg.length - j ∧ T 0 = cellR p 15 0 ∧ T 7 = .str dg ∧ T 10 = .int .i64 (hexF (dg.take j) : Int) ∧ T 39 = .int .i64 (dg.length : Int) ∧ T 40 = .int .i64 (j : Int) ∧ H = H') dg.length
          ⟨0, Nat.zero_le _, rfl, by simp only [sA, Int.reduceNegSucc, reduceCtorEq, Nat.reduceEqDiff, ↓reduceIte, Nat.reduceAdd, Int.reduceEq, Int.reduceLT, Int.reduceLE, Nat.reduceLT]; try rfl, by simp only [sA, Int.reduceNegSucc, reduceCtorEq, Nat.reduceEqDiff, ↓reduceIte, Nat.reduceAdd, Int.reduceEq, Int.reduceLT, Int.reduceLE, Nat.reduceLT]; try rfl, by simp only [sA, Int.reduceNegSucc, reduceCtorEq, Nat.reduceEqDiff, ↓reduceIte, Nat.reduceAdd, Int.reduceEq, Int.reduceLT, Int.reduceLE, Nat.reduceLT]; try rfl, by simp only [sA, Int.reduceNegSucc, reduceCtorEq, Nat.reduceEqDiff, ↓reduceIte, Nat.reduceAdd, Int.reduceEq, Int.reduceLT, Int.reduceLE, Nat.reduceLT]; try rfl, by simp only [sA, Int.reduceNegSucc, reduceCtorEq, Nat.reduceEqDiff, ↓reduceIte, Nat.reduceAdd, Int.reduceEq, Int.reduceLT, Int.reduceLE, Nat.reduceLT]; try rfl, rfl⟩ ?_
        rintro q T _ ⟨j, hj, rfl, g0, g7, g10, g39, g40, rfl⟩
        by_cases hlt : j < dg.length
        · have hlt' : (j : Int) < (dg.length : Int) := by omega
          obtain ⟨c, hc⟩ := isSome_of_lt hlt
          have hdc : hexB c = true := List.all_eq_true.1 hx c (List.mem_of_getElem? hc)
          have hn : hexF (dg.take j) < 16 ^ 7 := by
            have h := hexF_lt (dg.take j) (List.all_eq_true.2 fun x hx' => List.all_eq_true.1 hx x (List.mem_of_mem_take hx'))
            exact Nat.lt_of_lt_of_le h (Nat.pow_le_pow_right (by omega) (by simp; omega))
          have hvc := hexV_lt c hdc
          generalize hnn : hexF (dg.take j) = m at *
          have w1 : IntKind.i64.wrap ((m : Int) * 16) = ((m * 16 : Nat) : Int) := by rw [wrap64 (by omega) (by omega)]; omega
          simp only [sA, Int.reduceNegSucc, reduceCtorEq, Nat.reduceEqDiff, ↓reduceIte, Nat.reduceAdd, Int.reduceEq, Int.reduceLT, Int.reduceLE, Nat.reduceLT, g0, g7, g10, g39, g40, hlt', str_idx hc, w1]
          refine (hexw_spec c hdc).mono ?_
          rintro v _ ⟨rfl, rfl⟩
          simp only [sA, Int.reduceNegSucc, reduceCtorEq, Nat.reduceEqDiff, ↓reduceIte, Nat.reduceAdd, Int.reduceEq, Int.reduceLT, Int.reduceLE, Nat.reduceLT, g0, g7, g10, g39, g40, wrapN (m * 16) (hexV c) (by omega), wrap1 j (by omega)]
          refine ⟨_, by omega, j + 1, by omega, rfl, (by first | with_reducible rfl | trivial | rfl | assumption), (by first | with_reducible rfl | trivial | rfl | assumption), ?_, (by first | with_reducible rfl | trivial | rfl | assumption), (by first | with_reducible rfl | trivial | rfl | assumption), (by first | with_reducible rfl | trivial | rfl | assumption)⟩
          rw [List.take_add_one, hc, Option.toList_some, hexF_snoc, hnn]
        · have hlt' : ¬ (j : Int) < (dg.length : Int) := by omega
          rw [List.take_of_length_le (by omega)] at g10
          by_cases hz : hexF dg = 0
          · obtain ⟨H1, m1, r1, k1, o1⟩ := row_st P.row (n := 15) rfl (i := 1) (by omega) (x := .int .i64 7) rfl rfl
            simp only [sA, Int.reduceNegSucc, reduceCtorEq, Nat.reduceEqDiff, ↓reduceIte, Nat.reduceAdd, Int.reduceEq, Int.reduceLT, Int.reduceLE, Nat.reduceLT, g0, g7, g10, g39, g40, hlt', hz, Int.natCast_zero, nil_cell, fldA, m1]
            rw [eb', if_pos hz]
            exact told_own (P.own (s' := { s with st := 7 }) r1 k1 o1 rfl rfl rfl) (fr_own P k1 o1) 0
          · have hz' : ¬ ((hexF dg : Int) = 0) := by omega
            have hbl := B.body
            by_cases hbig : 65536 < s.now.body.length + hexF dg
            · have hbig' : (65536 : Int) < ((s.now.body.length + hexF dg : Nat) : Int) := by omega
              simp only [sA, Int.reduceNegSucc, reduceCtorEq, Nat.reduceEqDiff, ↓reduceIte, Nat.reduceAdd, Int.reduceEq, Int.reduceLT, Int.reduceLE, Nat.reduceLT, g0, g7, g10, g39, g40, hlt', hz', nil_cell, fldA, l8, P.b.1.len, wrapN _ _ (show s.now.body.length + hexF dg ≤ 9223372036854775807 by omega), hbig']
              rw [eb', if_neg hz, if_pos hbig]
              exact told_own P (Fr.refl _ _) 3
            · have hbig' : ¬ (65536 : Int) < ((s.now.body.length + hexF dg : Nat) : Int) := by omega
              obtain ⟨H1, m1, r1, k1, o1⟩ := row_st P.row (n := 15) rfl (i := 10) (by omega) (x := .int .i64 (hexF dg : Int)) rfl rfl
              obtain ⟨H2, m2, r2, k2, o2⟩ := row_st r1 (n := 15) rfl (i := 1) (by omega) (x := .int .i64 4) rfl rfl
              simp only [sA, Int.reduceNegSucc, reduceCtorEq, Nat.reduceEqDiff, ↓reduceIte, Nat.reduceAdd, Int.reduceEq, Int.reduceLT, Int.reduceLE, Nat.reduceLT, g0, g7, g10, g39, g40, hlt', hz', nil_cell, fldA, l8, P.b.1.len, wrapN _ _ (show s.now.body.length + hexF dg ≤ 9223372036854775807 by omega), hbig', m1, m2]
              rw [eb', if_neg hz, if_neg hbig]
              have o : ∀ c, c ≠ p → H2.get c = H.get c := fun c hc => by rw [o2 c hc, o1 c hc]
              exact told_own (P.own (s' := { s with need := hexF dg, st := 4 }) r2 (by omega) o rfl rfl rfl) (fr_own P (by omega) o) 0
theorem trailer_spec (P : PR n τ H p s rd) {k : Nat} (B : Bd k s) (hk : k ≤ 1000000) (hrd : rd.length ≤ 1000000) (l : Bs) (right : Bool) (hl : l.length ≤ 1000000) :
    ACalls Tryz.prog natX 82 [cellR p 15 0, .str l, .bool right] H (Told τ H p rd (trailerF s l right)) := by
  have P0 := P
  obtain ⟨vl, vh, vb, vr, P⟩ := P
  refine acalls_ofN rfl za82 rfl ?_
  obtain ⟨l0, l1, l2, l3, l4, l7, l8, l9, l10, l11, _⟩ := P.lds
  have stay : ∀ e : Nat, trailerF s l right = (s, [], e) → Told τ H p rd (trailerF s l right) (.int .i64 (e : Int)) H := fun e h => by rw [h]; exact told_own P (Fr.refl _ _) e
  have htr := B.trailers
  by_cases h0 : l = []
  · subst h0
    cases right with
    | false =>
      simp only [c82, sA, Int.reduceNegSucc, reduceCtorEq, Nat.reduceEqDiff, ↓reduceIte, Nat.reduceAdd, Int.reduceEq, Int.reduceLT, Int.reduceLE, Nat.reduceLT]
      exact stay 21 (by simp [trailerF])
    | true =>
      simp only [c82, sA, Int.reduceNegSucc, reduceCtorEq, Nat.reduceEqDiff, ↓reduceIte, Nat.reduceAdd, Int.reduceEq, Int.reduceLT, Int.reduceLE, Nat.reduceLT]
      refine (whole_spec P0 B.bm hk hrd).mono ?_
      rintro v H1 ⟨τ', h1, h2⟩
      simp only [sA, Int.reduceNegSucc, reduceCtorEq, Nat.reduceEqDiff, ↓reduceIte, Nat.reduceAdd, Int.reduceEq, Int.reduceLT, Int.reduceLE, Nat.reduceLT]
      exact ⟨by simp [trailerF], τ', h1, h2⟩
  · by_cases h40 : 40 ≤ s.trailers
    · have h40' : (40 : Int) ≤ (s.trailers : Int) := by omega
      simp only [c82, sA, Int.reduceNegSucc, reduceCtorEq, Nat.reduceEqDiff, ↓reduceIte, Nat.reduceAdd, Int.reduceEq, Int.reduceLT, Int.reduceLE, Nat.reduceLT, eq_false h0, nil_cell, fldA, l11, h40']
      exact stay 3 (by simp [trailerF, h0, h40])
    · have h40' : ¬ (40 : Int) ≤ (s.trailers : Int) := by omega
      cases right with
      | false =>
        simp only [c82, sA, Int.reduceNegSucc, reduceCtorEq, Nat.reduceEqDiff, ↓reduceIte, Nat.reduceAdd, Int.reduceEq, Int.reduceLT, Int.reduceLE, Nat.reduceLT, eq_false h0, nil_cell, fldA, l11, h40']
        exact stay 21 (by simp [trailerF, h0, h40])
      | true =>
        simp only [c82, sA, Int.reduceNegSucc, reduceCtorEq, Nat.reduceEqDiff, ↓reduceIte, Nat.reduceAdd, Int.reduceEq, Int.reduceLT, Int.reduceLE, Nat.reduceLT, eq_false h0, nil_cell, fldA, l11, h40']
        refine (header_spec l hl).mono ?_
        rintro v H1 ⟨rfl, E1⟩
        obtain ⟨H2, m2, r2, k2, o2⟩ := row_newL H1 [.str [], .str []] (n := 2) rfl
        have P1 := P.ext E1.next fun c hc => E1.old c (by have := P.nn; omega)
        cases hh : headerF l with
        | none =>
          obtain ⟨H3, m3, r3, k3, o3⟩ := row_storeN r2 (n := 2) rfl (xs := [.str [], .str []]) rfl rfl
          have nn := P1.nn
          have P3 := P1.ext (H' := H3) (by omega) fun c hc => by rw [o3 c (by omega), o2 c (by omega)]
          simp only [optV, sA, Int.reduceNegSucc, reduceCtorEq, Nat.reduceEqDiff, ↓reduceIte, Nat.reduceAdd, Int.reduceEq, Int.reduceLT, Int.reduceLE, Nat.reduceLT, ext_0, ext_1, m2, m3]
          have e : trailerF s l true = (s, [], 21) := by simp [trailerF, h0, h40, hh]
          rw [e]
          exact told_own P3 (Fr.of_ext ⟨by have := E1.next; omega, fun c hc => by rw [o3 c (by have := E1.next; omega), o2 c (by have := E1.next; omega)]; exact E1.old c hc⟩) 21
        | some q =>
          obtain ⟨H3, m3, r3, k3, o3⟩ := row_storeN r2 (n := 2) rfl (xs := [.str q.1, .str q.2]) rfl rfl
          have nn := P1.nn
          have P3 := P1.ext (H' := H3) (by omega) fun c hc => by rw [o3 c (by omega), o2 c (by omega)]
          obtain ⟨_, _, _, _, _, _, _, _, _, l11', _⟩ := P3.lds
          obtain ⟨H4, m4, r4, k4, o4⟩ := row_st P3.row (n := 15) rfl (i := 11) (by omega) (x := .int .i64 ((s.trailers + 1 : Nat) : Int)) rfl rfl
          simp only [optV, sA, Int.reduceNegSucc, reduceCtorEq, Nat.reduceEqDiff, ↓reduceIte, Nat.reduceAdd, Int.reduceEq, Int.reduceLT, Int.reduceLE, Nat.reduceLT, ext_0, ext_1, m2, m3, nil_cell, fldA, l11', wrap1 s.trailers (by omega), m4]
          have e : trailerF s l true = ({ s with trailers := s.trailers + 1 }, [], 0) := by simp [trailerF, h0, h40, hh]
          rw [e]
          have F3 : Fr τ H τ H3 := Fr.of_ext ⟨by have := E1.next; omega, fun c hc => by rw [o3 c (by have := E1.next; omega), o2 c (by have := E1.next; omega)]; exact E1.old c hc⟩
          exact told_own (P3.own (s' := { s with trailers := s.trailers + 1 }) r4 k4 o4 rfl rfl rfl) (F3.trans (fr_own P3 k4 o4)) 0
theorem app_ge {n : Nat} {H : AHeap} {v : AVal} {l : List AVal} (h : App n H v l) : Blk v (n ≤ ·) := by
  rcases h with ⟨rfl, _⟩ | ⟨b, low, rfl, h2, _⟩
  · exact blk_nil _
  · exact blk_some h2
theorem values_spec {vl vh vb vr : AVal} (P : PV n τ H p s rd vl vh vb vr) (name : Bs) (hh : s.now.hs.length ≤ 1000000) :
    ACalls Tryz.prog natX 102 [cellR p 15 0, .str name] H fun v H' => Cel H'.next H' v (strs (valuesF s.now.hs name)) ∧ Blk v (H.next ≤ ·) ∧ Ext H.next H H' := by
  refine acalls_ofN rfl za102 rfl ?_
  obtain ⟨l0, l1, l2, l3, l4, l7, _⟩ := P.lds
  have hv : Prs H.next H vh s.now.hs := P.h.1.prs P.h.1.blk'
  simp only [c102, sA, Int.reduceNegSucc, reduceCtorEq, Nat.reduceEqDiff, ↓reduceIte, Nat.reduceAdd, Int.reduceEq, Int.reduceLT, Int.reduceLE, Nat.reduceLT, nil_cell, fldA, l7, hv.len]
  refine aw_loop (fun q (T : Env) H' => ∃ j : Nat, j ≤ s.now.hs.length ∧ q = s.now.hs.length - j ∧ T 1 = .str name ∧ T 12 = vh ∧ T 13 = .int .i64 (s.now.hs.length : Int) ∧ T 14 = .int .i64 (j : Int) ∧ App H.next H' (T 5) (strs (valuesF (s.now.hs.take j) name)) ∧ Ext H.next H H') s.now.hs.length
    ⟨0, Nat.zero_le _, rfl, by simp only [sA, Int.reduceNegSucc, reduceCtorEq, Nat.reduceEqDiff, ↓reduceIte, Nat.reduceAdd, Int.reduceEq, Int.reduceLT, Int.reduceLE, Nat.reduceLT]; try rfl, by simp only [sA, Int.reduceNegSucc, reduceCtorEq, Nat.reduceEqDiff, ↓reduceIte, Nat.reduceAdd, Int.reduceEq, Int.reduceLT, Int.reduceLE, Nat.reduceLT]; try rfl, by simp only [sA, Int.reduceNegSucc, reduceCtorEq, Nat.reduceEqDiff, ↓reduceIte, Nat.reduceAdd, Int.reduceEq, Int.reduceLT, Int.reduceLE, Nat.reduceLT]; try rfl, by simp only [sA, Int.reduceNegSucc, reduceCtorEq, Nat.reduceEqDiff, ↓reduceIte, Nat.reduceAdd, Int.reduceEq, Int.reduceLT, Int.reduceLE, Nat.reduceLT]; try rfl, by simp only [sA, Int.reduceNegSucc, reduceCtorEq, Nat.reduceEqDiff, ↓reduceIte, Nat.reduceAdd, Int.reduceEq, Int.reduceLT, Int.reduceLE, Nat.reduceLT]; exact App.nil _ _, Ext.refl _ _⟩ ?_
  rintro q T H' ⟨j, hj, rfl, g1, g12, g13, g14, hA, E⟩
  by_cases hlt : j < s.now.hs.length
  · have hlt' : (j : Int) < (s.now.hs.length : Int) := by omega
    obtain ⟨x, hx⟩ := isSome_of_lt hlt
    obtain ⟨a, a1, a2, _⟩ := (hv.ext E).at hx
    obtain ⟨H3, m3, r3, k3, o3⟩ := row_newL H' [.str [], .str []] (n := 2) rfl
    obtain ⟨H4, m4, r4, k4, o4⟩ := row_storeN r3 (n := 2) rfl (xs := [.str x.1, .str x.2]) rfl rfl
    have en := E.next
    have E4' : Ext H'.next H' H4 := ⟨by omega, fun c hc => by rw [o4 c (by omega), o3 c (by omega)]⟩
    have E4 : Ext H.next H H4 := E.trans (E4'.less en)
    have q0 := row_load r4 (n := 2) rfl (i := 0) rfl
    have q1 := row_load r4 (n := 2) rfl (i := 1) rfl
    have hA4 := hA.ext E4'
    by_cases he : x.1 = name
    · have hvl : (valuesF (s.now.hs.take j) name).length ≤ 1000000 := by
        have h1 : (valuesF (s.now.hs.take j) name).length ≤ (s.now.hs.take j).length := by
          unfold valuesF; rw [List.length_map]; exact List.length_filter_le _ _
        have h2 := List.length_take_le' j s.now.hs
        omega
      obtain ⟨v', H5, m5, A5, E5⟩ := hA4.push (by omega) (x := .str x.2) rfl (bytes := 16) (by rw [strs_len]; omega) (by omega)
      have q0' : oLoad false 1 H4 (cellR H'.next 2 0) = some (.str x.1) := q0
      have q1' : oLoad false 1 H4 (cellR H'.next 2 1) = some (.str x.2) := q1
      have bm : aBuildSl 1 [.str []] H4 [(0, 1, .str x.2)] = some (oneS H4, H4.push (.cells [.str x.2] 0 false)) := build1 _ _ rfl
      simp only [sA, Int.reduceNegSucc, reduceCtorEq, Nat.reduceEqDiff, ↓reduceIte, Nat.reduceAdd, Int.reduceEq, Int.reduceLT, Int.reduceLE, Nat.reduceLT, g1, g12, g13, g14, hlt', a1, a2, m3, m4, fld0, q0', q1', eq_true he, bm, m5, wrap1 j (by omega)]
      refine ⟨_, by omega, j + 1, by omega, rfl, (by first | with_reducible rfl | trivial | rfl | assumption), (by first | with_reducible rfl | trivial | rfl | assumption), (by first | with_reducible rfl | trivial | rfl | assumption), (by first | with_reducible rfl | trivial | rfl | assumption), ?_, E4.trans E5⟩
      rw [List.take_add_one, hx]
      have : valuesF (s.now.hs.take j ++ (some x).toList) name = valuesF (s.now.hs.take j) name ++ [x.2] := by simp [valuesF, he]
      rw [this, strs_snoc]
      exact A5
    · have q0' : oLoad false 1 H4 (cellR H'.next 2 0) = some (.str x.1) := q0
      simp only [sA, Int.reduceNegSucc, reduceCtorEq, Nat.reduceEqDiff, ↓reduceIte, Nat.reduceAdd, Int.reduceEq, Int.reduceLT, Int.reduceLE, Nat.reduceLT, g1, g12, g13, g14, hlt', a1, a2, m3, m4, fld0, q0', eq_false he, wrap1 j (by omega)]
      refine ⟨_, by omega, j + 1, by omega, rfl, (by first | with_reducible rfl | trivial | rfl | assumption), (by first | with_reducible rfl | trivial | rfl | assumption), (by first | with_reducible rfl | trivial | rfl | assumption), (by first | with_reducible rfl | trivial | rfl | assumption), ?_, E4⟩
      rw [List.take_add_one, hx]
      have : valuesF (s.now.hs.take j ++ (some x).toList) name = valuesF (s.now.hs.take j) name := by simp [valuesF, he]
      rw [this]
      exact hA4
  · have hlt' : ¬ (j : Int) < (s.now.hs.length : Int) := by omega
    rw [List.take_of_length_le (by omega)] at hA
    simp only [sA, Int.reduceNegSucc, reduceCtorEq, Nat.reduceEqDiff, ↓reduceIte, Nat.reduceAdd, Int.reduceEq, Int.reduceLT, Int.reduceLE, Nat.reduceLT, g1, g12, g13, g14, hlt']
    exact ⟨hA.cel, app_ge hA, E⟩
end
end Go.Proofs.Ht
namespace Go.Proofs.Ht
open Go.Abs Go.Abs.S
theorem Bd.more {k m : Nat} {s : PS} (h : Bd k s) (hm : k ≤ m) : Bd m s :=
  ⟨h.st, h.fault, by have := h.line; omega, by have := h.m; omega, by have := h.t; omega, by have := h.body; omega, by have := h.hs; omega, fun x hx => by have := h.he x hx; omega, by have := h.trailers; omega, by have := h.fed; omega, h.need, h.pos⟩
theorem Bd.zero : Bd 0 PS.zero := ⟨by decide, by decide, Nat.le_refl _, Nat.le_refl _, Nat.le_refl _, Nat.le_refl _, Nat.le_refl _, fun x hx => by simp [PS.zero, Rq.none] at hx, Nat.le_refl _, Nat.le_refl _, by decide, fun h => by simp [PS.zero] at h⟩
theorem Bd.reset {k j : Nat} {s : PS} (h : Bd k s) (hj : j = 0 ∨ j = 8) : Bd k (s.reset j) :=
  ⟨by simp only [PS.reset]; omega, h.fault, Nat.zero_le _, Nat.zero_le _, Nat.zero_le _, Nat.zero_le _, Nat.zero_le _, fun x hx => by simp [PS.reset, Rq.none] at hx, Nat.zero_le _, Nat.zero_le _, by simp [PS.reset], fun h => by simp only [PS.reset] at h; omega⟩
theorem Bd.whole {k : Nat} {s : PS} (h : Bd k s) : Bd k (wholeF s).1 := by
  unfold wholeF
  refine h.reset ?_
  split <;> simp
structure Ok (k : Nat) (o : Out) : Prop where
  b : Bd k o.1
  e : o.2.2 ≤ 100
theorem bd_request {k : Nat} {s : PS} (h : Bd k s) (l : Bs) (r : Bool) (hl : l.length ≤ k) : Bd k (requestF s l r).1 ∧ (requestF s l r).2 ≤ 100 := by
  have hc1 := cut_len l 32
  have hc2 := cut_len (cutF l 32).2.1 32
  unfold requestF
  split
  · exact ⟨h, by simp⟩
  · split
    · split
      · exact ⟨h, by simp⟩
      · exact ⟨⟨h.st, h.fault, h.line, h.m, h.t, h.body, h.hs, h.he, h.trailers, h.fed, h.need, h.pos⟩, by simp⟩
    · simp only
      split
      · exact ⟨h, by simp⟩
      · split
        · exact ⟨h, by simp⟩
        · split
          · exact ⟨h, by simp⟩
          · exact ⟨⟨by simp, h.fault, h.line, by simp only; omega, by simp only; omega, h.body, h.hs, h.he, h.trailers, h.fed, h.need, fun h => by simp at h⟩, by simp⟩
theorem ok_headersEnd {k : Nat} {s : PS} (h : Bd k s) : Ok k (headersEndF s) := by
  have go : ∀ (n : Nat) (c : Bool) (b : Prop) [Decidable b], n ≤ 65536 → Ok k (if b then (({ s with now := { s.now with close := c }, need := n, st := 3 } : PS), [], 0) else if 0 < n then (({ s with now := { s.now with close := c }, need := n, st := 2 } : PS), [], 0) else ((wholeF { s with now := { s.now with close := c }, need := n }).1, (wholeF { s with now := { s.now with close := c }, need := n }).2, 0)) := by
    intro n c b _ hn
    split
    · exact ⟨⟨by simp, h.fault, h.line, h.m, h.t, h.body, h.hs, h.he, h.trailers, h.fed, by simp only; omega, fun h => by simp at h⟩, by simp⟩
    · split
      · rename_i hp
        exact ⟨⟨by simp, h.fault, h.line, h.m, h.t, h.body, h.hs, h.he, h.trailers, h.fed, by simp only; omega, fun _ => hp⟩, by simp⟩
      · refine ⟨?_, by simp⟩
        unfold wholeF
        have : ∀ j, (j = 0 ∨ j = 8) → Bd k (PS.reset { s with now := { s.now with close := c }, need := n } j) := fun j hj => ⟨by simp only [PS.reset]; omega, h.fault, Nat.zero_le _, Nat.zero_le _, Nat.zero_le _, Nat.zero_le _, Nat.zero_le _, fun x hx => by simp [PS.reset, Rq.none] at hx, Nat.zero_le _, Nat.zero_le _, by simp [PS.reset], fun h => by simp only [PS.reset] at h; omega⟩
        refine this _ ?_
        split <;> simp
  unfold headersEndF
  simp only
  split
  · exact ⟨h, by simp⟩
  · split
    · exact ⟨h, by simp⟩
    · split
      · split
        · exact ⟨h, by simp⟩
        · rename_i n hn
          split
          · exact ⟨h, by simp⟩
          · exact go n _ _ (by omega)
      · exact go 0 _ _ (by omega)
theorem headerF_len {l : Bs} {q : Bs × Bs} (h : headerF l = some q) : q.1.length ≤ l.length ∧ q.2.length ≤ l.length := by
  have hc := cut_len l 58
  unfold headerF at h
  split at h
  · simp at h
  · split at h
    · simp only [Option.some.injEq] at h
      subst h
      have := trim_len (cutF l 58).2.1
      simp only [low, List.length_map]
      omega
    · simp at h
theorem ok_headerLine {k : Nat} {s : PS} (h : Bd k s) (l : Bs) (r : Bool) (hl : l.length ≤ k) : Ok (k + 1) (headerLineF s l r) := by
  have h' := h.more (Nat.le_succ k)
  unfold headerLineF
  split
  · exact ⟨h', by simp⟩
  · split
    · exact ⟨h', by simp⟩
    · split
      · have := ok_headersEnd h
        exact ⟨this.b.more (Nat.le_succ k), this.e⟩
      · split
        · exact ⟨h', by simp⟩
        · rename_i q hq
          have hq' := headerF_len hq
          refine ⟨⟨h.st, h.fault, h'.line, h'.m, h'.t, h'.body, by have := h.hs; simp; omega, ?_, h'.trailers, h'.fed, h.need, h.pos⟩, by simp⟩
          intro x hx
          simp only [List.mem_append, List.mem_singleton] at hx
          rcases hx with hx | rfl
          · exact h'.he x hx
          · omega
theorem ok_trailer {k : Nat} {s : PS} (h : Bd k s) (l : Bs) (r : Bool) : Ok (k + 1) (trailerF s l r) := by
  have h' := h.more (Nat.le_succ k)
  unfold trailerF
  split
  · exact ⟨h', by simp⟩
  · split
    · exact ⟨h', by simp⟩
    · split
      · exact ⟨h'.whole, by simp⟩
      · split
        · exact ⟨h', by simp⟩
        · exact ⟨⟨h.st, h.fault, h'.line, h'.m, h'.t, h'.body, h'.hs, h'.he, by have := h.trailers; simp only; omega, h'.fed, h.need, h.pos⟩, by simp⟩
theorem bd_chunk {k : Nat} {s : PS} (h : Bd k s) (l : Bs) (r : Bool) : Bd k (chunkF s l r).1 ∧ (chunkF s l r).2 ≤ 100 := by
  unfold chunkF
  split
  · exact ⟨h, by simp⟩
  · simp only
    split
    · exact ⟨h, by simp⟩
    · rename_i hn
      split
      · exact ⟨⟨by simp, h.fault, h.line, h.m, h.t, h.body, h.hs, h.he, h.trailers, h.fed, h.need, fun h => by simp at h⟩, by simp⟩
      · rename_i hz
        split
        · exact ⟨h, by simp⟩
        · have hx : (cutF l 59).1.all hexB = true := by
            cases hb : (cutF l 59).1.all hexB with
            | true => rfl
            | false => exact absurd (.inr (.inr (.inl hb))) hn
          have h7 : (cutF l 59).1.length ≤ 7 := by
            by_cases h7 : 7 < (cutF l 59).1.length
            · exact absurd (.inr (.inl h7)) hn
            · omega
          have := Nat.lt_of_lt_of_le (hexF_lt _ hx) (Nat.pow_le_pow_right (show 0 < 16 by omega) h7)
          exact ⟨⟨by simp, h.fault, h.line, h.m, h.t, h.body, h.hs, h.he, h.trailers, h.fed, by simp only; omega, fun _ => by simp only; omega⟩, by simp⟩
theorem ok_ended {k : Nat} {s : PS} (h : Bd k s) : Ok (k + 1) (endedF s) := by
  have hs : Bd k { s with line := [] } := ⟨h.st, h.fault, Nat.zero_le _, h.m, h.t, h.body, h.hs, h.he, h.trailers, h.fed, h.need, h.pos⟩
  have hs' := hs.more (Nat.le_succ k)
  have hl := h.line
  unfold endedF
  simp only
  generalize hL : (if decide (s.line.getLast? = some 13) = true then s.line.take (s.line.length - 1) else s.line) = L
  have hLl : L.length ≤ k := by
    rw [← hL]; split
    · simp; omega
    · exact hl
  split
  · exact ⟨hs', by simp⟩
  · split
    · refine ⟨hs', ?_⟩
      simp only [wantF]; split
      · omega
      · split <;> omega
    · split
      · have := bd_request hs L (L.all no13) hLl
        exact ⟨this.1.more (Nat.le_succ k), this.2⟩
      · split
        · exact ok_headerLine hs L _ hLl
        · split
          · have := bd_chunk hs L (L.all no13)
            exact ⟨this.1.more (Nat.le_succ k), this.2⟩
          · exact ok_trailer hs L _
theorem ok_take {k : Nat} {s : PS} (h : Bd k s) (c : UInt8) : Ok (k + 1) (takeF s c) := by
  have h' := h.more (Nat.le_succ k)
  unfold takeF
  split
  · rename_i hst
    have hp := h.pos hst
    simp only
    have hb : (s.now.body ++ [c]).length ≤ k + 1 := by have := h.body; simp; omega
    have hn := h.need
    split
    · rename_i h0
      exact ⟨⟨h.st, h.fault, h'.line, h'.m, h'.t, hb, h'.hs, h'.he, h'.trailers, h'.fed, by simp only; omega, fun _ => h0⟩, by simp⟩
    · split
      · refine ⟨?_, by simp⟩
        unfold wholeF
        have : ∀ (x : PS) (j : Nat), x.fault = s.fault → (j = 0 ∨ j = 8) → Bd (k + 1) (x.reset j) := fun x j hx hj => ⟨by simp only [PS.reset]; omega, by simp only [PS.reset]; rw [hx]; exact h.fault, Nat.zero_le _, Nat.zero_le _, Nat.zero_le _, Nat.zero_le _, Nat.zero_le _, fun x hx => by simp [PS.reset, Rq.none] at hx, Nat.zero_le _, Nat.zero_le _, by simp [PS.reset], fun h => by simp only [PS.reset] at h; omega⟩
        refine this _ _ rfl ?_
        split <;> simp
      · exact ⟨⟨by simp, h.fault, h'.line, h'.m, h'.t, hb, h'.hs, h'.he, h'.trailers, h'.fed, by simp only; omega, fun h => by simp at h⟩, by simp⟩
  · split
    · split
      · exact ⟨h', by simp⟩
      · exact ⟨⟨by simp, h.fault, h'.line, h'.m, h'.t, h'.body, h'.hs, h'.he, h'.trailers, h'.fed, h.need, fun h => by simp at h⟩, by simp⟩
    · split
      · split
        · exact ⟨h', by simp⟩
        · exact ⟨⟨by simp, h.fault, h'.line, h'.m, h'.t, h'.body, h'.hs, h'.he, h'.trailers, h'.fed, h.need, fun h => by simp at h⟩, by simp⟩
      · split
        · exact ok_ended h
        · have hb : (s.line ++ [c]).length ≤ k + 1 := by have := h.line; simp; omega
          split
          · exact ⟨⟨h.st, h.fault, hb, h'.m, h'.t, h'.body, h'.hs, h'.he, h'.trailers, h'.fed, h.need, h.pos⟩, by simp⟩
          · exact ⟨⟨h.st, h.fault, hb, h'.m, h'.t, h'.body, h'.hs, h'.he, h'.trailers, h'.fed, h.need, h.pos⟩, by simp⟩
theorem Bd.fedUp {k : Nat} {s : PS} (h : Bd k s) : Bd (k + 1) { s with fed := s.fed + 1 } := by
  have h' := h.more (Nat.le_succ k)
  exact ⟨h.st, h.fault, h'.line, h'.m, h'.t, h'.body, h'.hs, h'.he, h'.trailers, by have := h.fed; simp only; omega, h.need, h.pos⟩
theorem bd_step {k : Nat} {s : PS} (h : Bd k s) (c : UInt8) : Bd (k + 2) (stepF s c).1 := by
  unfold stepF
  split
  · exact h.more (by omega)
  · have := ok_take h.fedUp c
    simp only
    split
    · exact this.b
    · have hb : Bd (k + 2) { (takeF { s with fed := s.fed + 1 } c).1 with fault := (takeF { s with fed := s.fed + 1 } c).2.2 } := ⟨this.b.st, this.e, this.b.line, this.b.m, this.b.t, this.b.body, this.b.hs, this.b.he, this.b.trailers, this.b.fed, this.b.need, this.b.pos⟩
      exact hb.reset (.inr rfl)
theorem bd_feed {k : Nat} {s : PS} (h : Bd k s) (l : Bs) : Bd (k + 2 * l.length) (feedF s l).1 := by
  induction l generalizing s k with
  | nil => exact h
  | cons c r ih =>
    have := ih (bd_step h c)
    simp only [feedF, List.length_cons]
    exact this.more (by omega)
theorem feed_8 {s : PS} (h : s.st = 8) (l : Bs) : feedF s l = (s, []) := by
  induction l with
  | nil => rfl
  | cons c r ih =>
    have e : stepF s c = (s, []) := by simp [stepF, h]
    simp only [feedF, e, ih, List.append_nil]
def pot (s : PS) : Nat := if s.st = 0 then min s.line.length 3 else if s.st = 8 then 0 else 3
theorem pot_le (s : PS) : pot s ≤ 3 := by
  unfold pot
  split
  · omega
  · split <;> omega
theorem pot_reset (s : PS) {j : Nat} (hj : j = 0 ∨ j = 8) : pot (s.reset j) = 0 := by
  rcases hj with rfl | rfl <;> simp [pot, PS.reset]
theorem pot_whole (s : PS) : 3 * (wholeF s).2.length + pot (wholeF s).1 = 3 := by
  unfold wholeF
  rw [pot_reset s (by split <;> simp)]; rfl
theorem pot_headersEnd (s : PS) : 3 * (headersEndF s).2.1.length + pot (headersEndF s).1 ≤ 3 := by
  have z := pot_le
  have z0 : ∀ (x : PS) (e : Nat), 3 * ((x, ([] : List Rq), e) : Out).2.1.length + pot ((x, ([] : List Rq), e) : Out).1 ≤ 3 := fun x e => by simpa using z x
  unfold headersEndF
  simp only
  split
  · exact z0 _ _
  · split
    · exact z0 _ _
    · split
      · split
        · exact z0 _ _
        · split
          · exact z0 _ _
          · split
            · exact z0 _ _
            · split
              · exact z0 _ _
              · exact Nat.le_of_eq (pot_whole _)
      · split
        · exact z0 _ _
        · split
          · exact z0 _ _
          · exact Nat.le_of_eq (pot_whole _)
theorem pot_ended (s : PS) (h8 : s.st ≠ 8) : 3 * (endedF s).2.1.length + pot (endedF s).1 ≤ pot s + 1 := by
  have z := pot_le
  have hsl : pot { s with line := [] } ≤ pot s := by unfold pot; simp only; split <;> simp
  have z0 : ∀ (x : PS) (e : Nat), pot x ≤ pot s + 1 → 3 * ((x, ([] : List Rq), e) : Out).2.1.length + pot ((x, ([] : List Rq), e) : Out).1 ≤ pot s + 1 := fun x e h => by simpa using h
  unfold endedF
  simp only
  generalize hL : (if decide (s.line.getLast? = some 13) = true then s.line.take (s.line.length - 1) else s.line) = L
  have hLl : L.length ≤ s.line.length := by
    rw [← hL]; split
    · simp
    · exact Nat.le_refl _
  split
  · exact z0 _ _ (by omega)
  · split
    · exact z0 _ _ (by omega)
    · split
      · rename_i h0
        have hc1 := cut_len L 32
        have hc2 := cut_len (cutF L 32).2.1 32
        have hp0 : pot s = min s.line.length 3 := by unfold pot; rw [if_pos h0]
        refine z0 _ _ ?_
        unfold requestF
        split
        · exact Nat.le_succ_of_le hsl
        · split
          · split
            · exact Nat.le_succ_of_le hsl
            · have : pot { s with line := [], blank := true } = 0 := by unfold pot; simp [h0]
              show pot { s with line := [], blank := true } ≤ _
              omega
          · dsimp only
            split
            · exact Nat.le_succ_of_le hsl
            · split
              · exact Nat.le_succ_of_le hsl
              · rename_i hn
                split
                · exact Nat.le_succ_of_le hsl
                · have hv : (cutF (cutF L 32).2.1 32).2.1 = verW := by
                    by_cases hv : (cutF (cutF L 32).2.1 32).2.1 = verW
                    · exact hv
                    · exact absurd (.inr (.inl hv)) hn
                  have h8 : (cutF (cutF L 32).2.1 32).2.1.length = 8 := by rw [hv]; rfl
                  refine Nat.le_trans (z _) ?_
                  omega
      · rename_i h0
        have hp : pot s = 3 := by unfold pot; rw [if_neg h0, if_neg h8]
        have z3 : ∀ (x : PS) (e : Nat), 3 * ((x, ([] : List Rq), e) : Out).2.1.length + pot ((x, ([] : List Rq), e) : Out).1 ≤ pot s + 1 := fun x e => z0 x e (by have := z x; omega)
        split
        · unfold headerLineF
          split
          · exact z3 _ _
          · split
            · exact z3 _ _
            · split
              · have := pot_headersEnd { s with line := [] }
                omega
              · split
                · exact z3 _ _
                · exact z3 _ _
        · split
          · exact z3 _ _
          · unfold trailerF
            split
            · exact z3 _ _
            · split
              · exact z3 _ _
              · split
                · have := pot_whole { s with line := [] }
                  show 3 * (wholeF { s with line := [] }).2.length + pot (wholeF { s with line := [] }).1 ≤ _
                  omega
                · split
                  · exact z3 _ _
                  · exact z3 _ _
theorem pot_take (s : PS) (c : UInt8) (h8 : s.st ≠ 8) : 3 * (takeF s c).2.1.length + pot (takeF s c).1 ≤ pot s + 1 := by
  have z := pot_le
  have z0 : ∀ (x : PS) (e : Nat), pot x ≤ pot s + 1 → 3 * ((x, ([] : List Rq), e) : Out).2.1.length + pot ((x, ([] : List Rq), e) : Out).1 ≤ pot s + 1 := fun x e h => by simpa using h
  have z3 : ∀ (x : PS) (e : Nat), pot s = 3 → 3 * ((x, ([] : List Rq), e) : Out).2.1.length + pot ((x, ([] : List Rq), e) : Out).1 ≤ pot s + 1 := fun x e h => z0 x e (by have := z x; omega)
  unfold takeF
  split
  · rename_i h
    have hp : pot s = 3 := by unfold pot; rw [if_neg (by omega), if_neg (by omega)]
    dsimp only
    split
    · exact z3 _ _ hp
    · split
      · exact Nat.le_trans (Nat.le_of_eq (pot_whole _)) (by omega)
      · exact z3 _ _ hp
  · split
    · rename_i h
      have hp : pot s = 3 := by unfold pot; rw [if_neg (by omega), if_neg (by omega)]
      split
      · exact z3 _ _ hp
      · exact z3 _ _ hp
    · split
      · rename_i h
        have hp : pot s = 3 := by unfold pot; rw [if_neg (by omega), if_neg (by omega)]
        split
        · exact z3 _ _ hp
        · exact z3 _ _ hp
      · split
        · exact pot_ended s h8
        · have : pot { s with line := s.line ++ [c] } ≤ pot s + 1 := by
            unfold pot
            simp only
            split
            · simp; omega
            · omega
          split
          · exact z0 _ _ this
          · exact z0 _ _ this
theorem pot_step (s : PS) (c : UInt8) : 3 * (stepF s c).2.length + pot (stepF s c).1 ≤ pot s + 1 := by
  unfold stepF
  split
  · simp
  · rename_i h8
    have h : 3 * (takeF { s with fed := s.fed + 1 } c).2.1.length + pot (takeF { s with fed := s.fed + 1 } c).1 ≤ pot s + 1 := pot_take { s with fed := s.fed + 1 } c h8
    dsimp only
    split
    · exact h
    · refine Nat.le_trans (Nat.add_le_add_left (Nat.le_of_eq (pot_reset _ (.inr rfl))) _) ?_
      exact Nat.le_trans (Nat.le_add_right _ _) h
theorem pot_feed (s : PS) (l : Bs) : 3 * (feedF s l).2.length + pot (feedF s l).1 ≤ pot s + l.length := by
  induction l generalizing s with
  | nil => simp [feedF]
  | cons c r ih =>
    have h1 := pot_step s c
    have h2 := ih (stepF s c).1
    simp only [feedF, List.length_append, List.length_cons]
    omega
end Go.Proofs.Ht
namespace Go.Proofs.Ht
open Go.Abs Go.Abs.S
set_option linter.unusedSimpArgs false
section
variable {n : Nat} {τ : Nat → Nat} {H : AHeap} {p : Nat} {s : PS} {rd : List Rq}
theorem values_le (hs : List (Bs × Bs)) (name : Bs) : (valuesF hs name).length ≤ hs.length := by
  unfold valuesF; rw [List.length_map]; exact List.length_filter_le _ _
theorem values_mem {hs : List (Bs × Bs)} {name v : Bs} {k : Nat} (h : v ∈ valuesF hs name) (he : ∀ h ∈ hs, h.1.length ≤ k ∧ h.2.length ≤ k) : v.length ≤ k := by
  unfold valuesF at h
  obtain ⟨x, hx, rfl⟩ := List.mem_map.1 h
  exact (he x (List.mem_filter.1 hx).1).2
theorem fst_of_one {l : List Bs} (h : l.length = 1) : ∃ x, l = [x] := by
  match l, h with
  | [x], _ => exact ⟨x, rfl⟩
def clF (c : Bool) (l : List Bs) : Bool := l.foldl (fun c v => c || closesF v) c
theorem clF_snoc (c : Bool) (l : List Bs) (v : Bs) : clF c (l ++ [v]) = (clF c l || closesF v) := by simp [clF, List.foldl_append]
def goF (s : PS) (m : Nat) : Out :=
  let s' : PS := { s with now := { s.now with close := clF s.now.close (valuesF s.now.hs conN) }, need := m }
  if (valuesF s.now.hs teN).length = 1 then ({ s' with st := 3 }, [], 0)
  else if 0 < m then ({ s' with st := 2 }, [], 0)
  else ((wholeF s').1, (wholeF s').2, 0)
theorem hdrsend_tail {vl vh vb vr : AVal} {H' : AHeap} (P : PV n τ H' p s rd vl vh vb vr) (F : Ext H.next H H') {k : Nat} (B : Bd k s) (hst : s.st = 1) (hk : k ≤ 1000000) (hrd : rd.length ≤ 1000000) {m : Nat} (hm : m ≤ 65536) {T : Env} {v4 : AVal} (g0 : T 0 = cellR p 15 0) (g4 : T 4 = v4) (h4 : Cel H'.next H' v4 (strs (valuesF s.now.hs teN))) (g5 : T 5 = .int .i64 (m : Int)) :
    wp (ACalls Tryz.prog natX) (hold (restAt 6 c94.body)) (fin c94.res (Told τ H p rd (goF s m))) T H' := by
  simp only [c94, restAt, hold_eq, sA, Int.reduceNegSucc, reduceCtorEq, Nat.reduceEqDiff, ↓reduceIte, Nat.reduceAdd, Int.reduceEq, Int.reduceLT, Int.reduceLE, Nat.reduceLT, g0, g4, g5]
  have bh := B.hs
  refine (values_spec P [99, 111, 110, 110, 101, 99, 116, 105, 111, 110] (by omega)).mono ?_
  rintro v H1 ⟨hC, hge, E1⟩
  have nn := P.nn
  have P1 := P.ext E1.next fun c hc => E1.old c (by omega)
  have F1 := F.trans (E1.less F.next)
  obtain ⟨cv, hcv⟩ : ∃ cv, cv = valuesF s.now.hs conN := ⟨_, rfl⟩
  have hC : Cel H1.next H1 v (strs cv) := by rw [hcv]; exact hC
  have hlen : aLenK false v = some (.int .i64 (cv.length : Int)) := by have := hC.len; rwa [strs_len] at this
  have hcl : cv.length ≤ 1000000 := by rw [hcv]; have := values_le s.now.hs conN; omega
  simp only [sA, Int.reduceNegSucc, reduceCtorEq, Nat.reduceEqDiff, ↓reduceIte, Nat.reduceAdd, Int.reduceEq, Int.reduceLT, Int.reduceLE, Nat.reduceLT, hlen]
  have h4' : Cel H1.next H1 v4 (strs (valuesF s.now.hs teN)) := (h4.ext E1).more E1.next
  refine aw_loop (fun q (T2 : Env) H2 => ∃ j : Nat, j ≤ cv.length ∧ q = cv.length - j ∧ T2 0 = cellR p 15 0 ∧ T2 4 = v4 ∧ T2 5 = .int .i64 (m : Int) ∧ T2 52 = v ∧ T2 53 = .int .i64 (cv.length : Int) ∧ T2 54 = .int .i64 (j : Int) ∧ PV n τ H2 p { s with now := { s.now with close := clF s.now.close (cv.take j) } } rd vl vh vb vr ∧ H1.next ≤ H2.next ∧ (∀ c, c < H1.next → c ≠ p → H2.get c = H1.get c)) cv.length
    ⟨0, Nat.zero_le _, rfl, by simp only [sA, Int.reduceNegSucc, reduceCtorEq, Nat.reduceEqDiff, ↓reduceIte, Nat.reduceAdd, Int.reduceEq, Int.reduceLT, Int.reduceLE, Nat.reduceLT, g0]; try rfl, by simp only [sA, Int.reduceNegSucc, reduceCtorEq, Nat.reduceEqDiff, ↓reduceIte, Nat.reduceAdd, Int.reduceEq, Int.reduceLT, Int.reduceLE, Nat.reduceLT, g4]; try rfl, by simp only [sA, Int.reduceNegSucc, reduceCtorEq, Nat.reduceEqDiff, ↓reduceIte, Nat.reduceAdd, Int.reduceEq, Int.reduceLT, Int.reduceLE, Nat.reduceLT, g5]; try rfl, by simp only [sA, Int.reduceNegSucc, reduceCtorEq, Nat.reduceEqDiff, ↓reduceIte, Nat.reduceAdd, Int.reduceEq, Int.reduceLT, Int.reduceLE, Nat.reduceLT]; try rfl, by simp only [sA, Int.reduceNegSucc, reduceCtorEq, Nat.reduceEqDiff, ↓reduceIte, Nat.reduceAdd, Int.reduceEq, Int.reduceLT, Int.reduceLE, Nat.reduceLT]; try rfl, by simp only [sA, Int.reduceNegSucc, reduceCtorEq, Nat.reduceEqDiff, ↓reduceIte, Nat.reduceAdd, Int.reduceEq, Int.reduceLT, Int.reduceLE, Nat.reduceLT]; try rfl, P1, Nat.le_refl _, fun _ _ _ => rfl⟩ ?_
  rintro q T2 H2 ⟨j, hj, rfl, f0, f4, f5, f52, f53, f54, P2, n2, o2⟩
  have pn := P.pn
  have hbk : Blk v fun b => b ≠ p := hge.mono fun b hb => by omega
  have hC2 : Cel H2.next H2 v (strs cv) := hC.fr n2 ((hC.bl.and hbk).mono fun b hb => o2 b hb.1 hb.2)
  by_cases hlt : j < cv.length
  · have hlt' : (j : Int) < (cv.length : Int) := by omega
    obtain ⟨x, hx⟩ := isSome_of_lt hlt
    have hxl : x.length ≤ 1000000 := by
      have := List.mem_of_getElem? hx
      rw [hcv] at this
      have := values_mem this B.he
      omega
    obtain ⟨_, _, _, _, _, _, _, l9, _⟩ := P2.lds
    have nx : ∀ b : Bool, (clF s.now.close (cv.take j) || closesF x) = b → clF s.now.close (cv.take (j + 1)) = b := fun b h => by
      rw [List.take_add_one, hx, Option.toList_some, clF_snoc]; exact h
    simp only [sA, Int.reduceNegSucc, reduceCtorEq, Nat.reduceEqDiff, ↓reduceIte, Nat.reduceAdd, Int.reduceEq, Int.reduceLT, Int.reduceLE, Nat.reduceLT, f0, f4, f5, f52, f53, f54, hlt', hC2.idx .i64 (show j < (strs cv).length by rw [strs_len]; exact hlt), hC2.load (strs_get hx), nil_cell, fldA, l9]
    cases hc : clF s.now.close (cv.take j) with
    | true =>
      obtain ⟨H3, m3, r3, k3, o3⟩ := row_st P2.row (n := 15) rfl (i := 9) (by omega) (x := .bool true) rfl rfl
      simp only [sA, Int.reduceNegSucc, reduceCtorEq, Nat.reduceEqDiff, ↓reduceIte, Nat.reduceAdd, Int.reduceEq, Int.reduceLT, Int.reduceLE, Nat.reduceLT, nil_cell, fldA, m3, f54, wrap1 j (by omega)]
      have r3' : Row H3 p (pC p { s with now := { s.now with close := clF s.now.close (cv.take (j + 1)) } } vl vh vb vr (szF rd)) := by
        rw [nx true (by rw [hc]; rfl)]; exact r3
      refine ⟨_, by omega, j + 1, by omega, rfl, (by first | with_reducible rfl | trivial | rfl | assumption), (by first | with_reducible rfl | trivial | rfl | assumption), (by first | with_reducible rfl | trivial | rfl | assumption), (by first | with_reducible rfl | trivial | rfl | assumption), (by first | with_reducible rfl | trivial | rfl | assumption), (by first | with_reducible rfl | trivial | rfl | assumption), P2.own r3' k3 o3 rfl rfl rfl, by omega, fun c hc hcp => by rw [o3 c hcp]; exact o2 c hc hcp⟩
    | false =>
      simp only [sA, Int.reduceNegSucc, reduceCtorEq, Nat.reduceEqDiff, ↓reduceIte, Nat.reduceAdd, Int.reduceEq, Int.reduceLT, Int.reduceLE, Nat.reduceLT, f0, f4, f5, f52, f53, f54]
      refine (closes_spec x hxl).mono ?_
      rintro w H3 ⟨rfl, E3⟩
      have nn2 := P2.nn
      have P3 := P2.ext E3.next fun c hc => E3.old c (by omega)
      obtain ⟨H4, m4, r4, k4, o4⟩ := row_st P3.row (n := 15) rfl (i := 9) (by omega) (x := .bool (closesF x)) rfl rfl
      have n3 := E3.next
      simp only [sA, Int.reduceNegSucc, reduceCtorEq, Nat.reduceEqDiff, ↓reduceIte, Nat.reduceAdd, Int.reduceEq, Int.reduceLT, Int.reduceLE, Nat.reduceLT, nil_cell, fldA, m4, f0, f4, f5, f52, f53, f54, wrap1 j (by omega)]
      have r4' : Row H4 p (pC p { s with now := { s.now with close := clF s.now.close (cv.take (j + 1)) } } vl vh vb vr (szF rd)) := by
        rw [nx (closesF x) (by rw [hc]; rfl)]; exact r4
      refine ⟨_, by omega, j + 1, by omega, rfl, (by first | with_reducible rfl | trivial | rfl | assumption), (by first | with_reducible rfl | trivial | rfl | assumption), (by first | with_reducible rfl | trivial | rfl | assumption), (by first | with_reducible rfl | trivial | rfl | assumption), (by first | with_reducible rfl | trivial | rfl | assumption), (by first | with_reducible rfl | trivial | rfl | assumption), P3.own r4' k4 o4 rfl rfl rfl, by omega, fun c hc hcp => by rw [o4 c hcp, E3.old c (by omega)]; exact o2 c hc hcp⟩
  · have hlt' : ¬ (j : Int) < (cv.length : Int) := by omega
    have hj : j = cv.length := by omega
    subst hj
    rw [List.take_length, hcv] at P2
    obtain ⟨H3, m3, r3, k3, o3⟩ := row_st P2.row (n := 15) rfl (i := 10) (by omega) (x := .int .i64 (m : Int)) rfl rfl
    have P3 : PV n τ H3 p { s with now := { s.now with close := clF s.now.close (valuesF s.now.hs conN) }, need := m } rd vl vh vb vr := P2.own (s' := { s with now := { s.now with close := clF s.now.close (valuesF s.now.hs conN) }, need := m }) r3 k3 o3 rfl rfl rfl
    have tp := P.tp
    have F3 : Fr τ H τ H3 := ⟨by have := F1.next; omega, fun c hc h0 => ⟨rfl, by
      have hcp : c ≠ p := by rintro rfl; omega
      rw [o3 c hcp, o2 c (by have := F1.next; omega) hcp]; exact F1.old c hc⟩⟩
    have h4l : aLenK false v4 = some (.int .i64 ((valuesF s.now.hs teN).length : Int)) := by have := h4.len; rwa [strs_len] at this
    by_cases ht : (valuesF s.now.hs teN).length = 1
    · have ht' : ((valuesF s.now.hs teN).length : Int) = 1 := by omega
      obtain ⟨H4, m4, r4, k4, o4⟩ := row_st P3.row (n := 15) rfl (i := 1) (by omega) (x := .int .i64 3) rfl rfl
      simp only [sA, Int.reduceNegSucc, reduceCtorEq, Nat.reduceEqDiff, ↓reduceIte, Nat.reduceAdd, Int.reduceEq, Int.reduceLT, Int.reduceLE, Nat.reduceLT, f0, f4, f5, f52, f53, f54, hlt', nil_cell, fldA, m3, h4l, ht', m4]
      have e : goF s m = ({ s with now := { s.now with close := clF s.now.close (valuesF s.now.hs conN) }, need := m, st := 3 }, [], 0) := by simp [goF, ht]
      rw [e]
      exact told_own (P3.own (s' := { s with now := { s.now with close := clF s.now.close (valuesF s.now.hs conN) }, need := m, st := 3 }) r4 k4 o4 rfl rfl rfl) (F3.trans (fr_own P3 k4 o4)) 0
    · have ht' : ¬ ((valuesF s.now.hs teN).length : Int) = 1 := by omega
      by_cases hm0 : 0 < m
      · have hm0' : (0 : Int) < (m : Int) := by omega
        obtain ⟨H4, m4, r4, k4, o4⟩ := row_st P3.row (n := 15) rfl (i := 1) (by omega) (x := .int .i64 2) rfl rfl
        simp only [sA, Int.reduceNegSucc, reduceCtorEq, Nat.reduceEqDiff, ↓reduceIte, Nat.reduceAdd, Int.reduceEq, Int.reduceLT, Int.reduceLE, Nat.reduceLT, f0, f4, f5, f52, f53, f54, hlt', nil_cell, fldA, m3, h4l, ht', hm0', m4]
        have e : goF s m = ({ s with now := { s.now with close := clF s.now.close (valuesF s.now.hs conN) }, need := m, st := 2 }, [], 0) := by simp [goF, ht, hm0]
        rw [e]
        exact told_own (P3.own (s' := { s with now := { s.now with close := clF s.now.close (valuesF s.now.hs conN) }, need := m, st := 2 }) r4 k4 o4 rfl rfl rfl) (F3.trans (fr_own P3 k4 o4)) 0
      · have hm0' : ¬ (0 : Int) < (m : Int) := by omega
        simp only [sA, Int.reduceNegSucc, reduceCtorEq, Nat.reduceEqDiff, ↓reduceIte, Nat.reduceAdd, Int.reduceEq, Int.reduceLT, Int.reduceLE, Nat.reduceLT, f0, f4, f5, f52, f53, f54, hlt', nil_cell, fldA, m3, h4l, ht', hm0']
        have B3 : Bd k { s with now := { s.now with close := clF s.now.close (valuesF s.now.hs conN) }, need := m } := ⟨B.st, B.fault, B.line, B.m, B.t, B.body, B.hs, B.he, B.trailers, B.fed, by simp only; omega, fun h => by simp only [hst] at h; omega⟩
        refine (whole_spec ⟨_, _, _, _, P3⟩ B3.bm hk hrd).mono ?_
        rintro w H4 ⟨τ', q1, q2⟩
        simp only [sA, Int.reduceNegSucc, reduceCtorEq, Nat.reduceEqDiff, ↓reduceIte, Nat.reduceAdd, Int.reduceEq, Int.reduceLT, Int.reduceLE, Nat.reduceLT]
        have e : goF s m = ((wholeF { s with now := { s.now with close := clF s.now.close (valuesF s.now.hs conN) }, need := m }).1, (wholeF { s with now := { s.now with close := clF s.now.close (valuesF s.now.hs conN) }, need := m }).2, 0) := by simp [goF, ht, hm0]
        rw [e]
        exact ⟨rfl, τ', q1, F3.trans q2⟩
theorem hdrsend_spec (P : PR n τ H p s rd) {k : Nat} (B : Bd k s) (hst : s.st = 1) (hk : k ≤ 1000000) (hrd : rd.length ≤ 1000000) :
    ACalls Tryz.prog natX 94 [cellR p 15 0] H (Told τ H p rd (headersEndF s)) := by
  obtain ⟨vl, vh, vb, vr, P⟩ := P
  refine acalls_ofN rfl za94 rfl ?_
  refine wp_cutAt 4 ?_
  have bh := B.hs
  simp only [c94, cutAt_0, cutAt_s, sA, Int.reduceNegSucc, reduceCtorEq, Nat.reduceEqDiff, ↓reduceIte, Nat.reduceAdd, Int.reduceEq, Int.reduceLT, Int.reduceLE, Nat.reduceLT]
  refine (values_spec P [99, 111, 110, 116, 101, 110, 116, 45, 108, 101, 110, 103, 116, 104] (by omega)).mono ?_
  rintro v3 H1 ⟨C3, g3, E1⟩
  have nn := P.nn
  have P1 := P.ext E1.next fun c hc => E1.old c (by omega)
  simp only [sA, Int.reduceNegSucc, reduceCtorEq, Nat.reduceEqDiff, ↓reduceIte, Nat.reduceAdd, Int.reduceEq, Int.reduceLT, Int.reduceLE, Nat.reduceLT]
  refine (values_spec P1 [116, 114, 97, 110, 115, 102, 101, 114, 45, 101, 110, 99, 111, 100, 105, 110, 103] (by omega)).mono ?_
  rintro v4 H2 ⟨C4, g4, E2⟩
  have P2 := P1.ext E2.next fun c hc => E2.old c (by have := E1.next; omega)
  simp only [sA, Int.reduceNegSucc, reduceCtorEq, Nat.reduceEqDiff, ↓reduceIte, Nat.reduceAdd, Int.reduceEq, Int.reduceLT, Int.reduceLE, Nat.reduceLT]
  refine (values_spec P2 [104, 111, 115, 116] (by omega)).mono ?_
  rintro v5 H3 ⟨C5, g5, E3⟩
  have n1 := E1.next
  have n2 := E2.next
  have n3 := E3.next
  have P3 := P2.ext E3.next fun c hc => E3.old c (by omega)
  have E13 : Ext H.next H H3 := (E1.trans (E2.less n1)).trans (E3.less (by omega))
  have C3' : Cel H3.next H3 v3 (strs (valuesF s.now.hs clN)) := ((C3.ext E2).ext (E3.less n2)).more (by omega)
  have C4' : Cel H3.next H3 v4 (strs (valuesF s.now.hs teN)) := (C4.ext E3).more (by omega)
  have C5' : Cel H3.next H3 v5 (strs (valuesF s.now.hs hostN)) := C5
  have e3 : aLenK false v3 = some (.int .i64 ((valuesF s.now.hs clN).length : Int)) := by have := C3'.len; rwa [strs_len] at this
  have e4 : aLenK false v4 = some (.int .i64 ((valuesF s.now.hs teN).length : Int)) := by have := C4'.len; rwa [strs_len] at this
  have e5 : aLenK false v5 = some (.int .i64 ((valuesF s.now.hs hostN).length : Int)) := by have := C5'.len; rwa [strs_len] at this
  have m3 := values_le s.now.hs clN
  have m4 := values_le s.now.hs teN
  have m5 := values_le s.now.hs hostN
  have w34 := wrapN (valuesF s.now.hs clN).length (valuesF s.now.hs teN).length (by omega)
  have stay : ∀ (H' : AHeap) (e : Nat), Ext H.next H H' → headersEndF s = (s, [], e) → Told τ H p rd (headersEndF s) (.int .i64 (e : Int)) H' := fun H' e F h => by
    rw [h]; exact told_own (P.ext F.next fun c hc => F.old c (by omega)) (Fr.of_ext F) e
  by_cases hh0 : ¬ (valuesF s.now.hs hostN).length = 1
  · have hh := hh0
    have hh' : ¬ ((valuesF s.now.hs hostN).length : Int) = 1 := by omega
    simp only [sA, Int.reduceNegSucc, reduceCtorEq, Nat.reduceEqDiff, ↓reduceIte, Nat.reduceAdd, Int.reduceEq, Int.reduceLT, Int.reduceLE, Nat.reduceLT, e5, hh']
    exact stay H3 21 E13 (by unfold headersEndF; exact if_pos (.inl hh))
  have hh : (valuesF s.now.hs hostN).length = 1 := Classical.not_not.1 hh0
  have hh' : ((valuesF s.now.hs hostN).length : Int) = 1 := by omega
  by_cases hs : 1 < (valuesF s.now.hs clN).length + (valuesF s.now.hs teN).length
  · have hs' : (1 : Int) < (((valuesF s.now.hs clN).length + (valuesF s.now.hs teN).length : Nat) : Int) := by omega
    simp only [sA, Int.reduceNegSucc, reduceCtorEq, Nat.reduceEqDiff, ↓reduceIte, Nat.reduceAdd, Int.reduceEq, Int.reduceLT, Int.reduceLE, Nat.reduceLT, e5, hh', e3, e4, w34, hs']
    exact stay H3 21 E13 (by unfold headersEndF; exact if_pos (.inr hs))
  have hs' : ¬ (1 : Int) < (((valuesF s.now.hs clN).length + (valuesF s.now.hs teN).length : Nat) : Int) := by omega
  have hn1 : ¬ ((valuesF s.now.hs hostN).length ≠ 1 ∨ 1 < (valuesF s.now.hs clN).length + (valuesF s.now.hs teN).length) := by omega
  have pn := P.pn
  have he := B.he
  have hgo : ∀ m, goF s m = goF s m := fun _ => rfl
  have part : ∀ (T : Env) (H4 : AHeap), Ext H.next H H4 → Ext H3.next H3 H4 → T 0 = cellR p 15 0 → T 3 = v3 → T 4 = v4 → (¬ ((valuesF s.now.hs teN).length = 1 ∧ low ((valuesF s.now.hs teN).headD []) ≠ chW)) →
      wp (ACalls Tryz.prog natX) (hold (restAt 4 c94.body)) (fin c94.res (Told τ H p rd (headersEndF s))) T H4 := by
    intro T H4 F4 E4 f0 f3 f4 hn2
    rw [hold_eq]
    refine wp_cutAt 2 ?_
    have C3b := C3'.ext E4
    have C4b := (C4'.ext E4).more E4.next
    have P4 := P.ext F4.next fun c hc => F4.old c (by omega)
    by_cases hl : (valuesF s.now.hs clN).length = 1
    · obtain ⟨x, hx⟩ := fst_of_one hl
      have hxl : x.length ≤ 1000000 := by
        have := values_mem (hs := s.now.hs) (name := clN) (v := x) (by rw [hx]; simp) he
        omega
      have hl' : ((valuesF s.now.hs clN).length : Int) = 1 := by omega
      have ix := C3b.idx .i64 (i := 0) (by rw [strs_len]; omega)
      have lx := C3b.load (i := 0) (x := .str x) (by rw [hx]; rfl)
      simp only [Int.natCast_zero] at ix
      simp only [c94, restAt, cutAt_0, cutAt_s, sA, Int.reduceNegSucc, reduceCtorEq, Nat.reduceEqDiff, ↓reduceIte, Nat.reduceAdd, Int.reduceEq, Int.reduceLT, Int.reduceLE, Nat.reduceLT, f0, f3, f4, e3, hl', ix, lx]
      refine (number_spec x hxl).mono ?_
      rintro w _ ⟨rfl, rfl⟩
      have ex : headersEndF s = (match numberF x with | none => (s, [], 21) | some n => if 65536 < n then (s, [], 3) else goF s n) := by
        unfold headersEndF
        simp only
        rw [if_neg hn1, if_neg hn2, if_pos hl, hx]
        rfl
      cases hnx : numberF x with
      | none =>
        simp only [numV, sA, Int.reduceNegSucc, reduceCtorEq, Nat.reduceEqDiff, ↓reduceIte, Nat.reduceAdd, Int.reduceEq, Int.reduceLT, Int.reduceLE, Nat.reduceLT, ext_0, ext_1, f0, f3, f4]
        exact stay H4 21 F4 (by rw [ex, hnx])
      | some m =>
        rw [hnx] at ex
        simp only at ex
        by_cases hb : 65536 < m
        · have hb' : (65536 : Int) < (m : Int) := by omega
          simp only [numV, sA, Int.reduceNegSucc, reduceCtorEq, Nat.reduceEqDiff, ↓reduceIte, Nat.reduceAdd, Int.reduceEq, Int.reduceLT, Int.reduceLE, Nat.reduceLT, ext_0, ext_1, f0, f3, f4, hb']
          exact stay H4 3 F4 (by rw [ex, if_pos hb])
        · have hb' : ¬ (65536 : Int) < (m : Int) := by omega
          simp only [numV, sA, Int.reduceNegSucc, reduceCtorEq, Nat.reduceEqDiff, ↓reduceIte, Nat.reduceAdd, Int.reduceEq, Int.reduceLT, Int.reduceLE, Nat.reduceLT, ext_0, ext_1, f0, f3, f4, hb']
          rw [ex, if_neg hb]
          exact hdrsend_tail P4 F4 B hst hk hrd (by omega) (by simp only [sA, Int.reduceNegSucc, reduceCtorEq, Nat.reduceEqDiff, ↓reduceIte, Nat.reduceAdd, Int.reduceEq, Int.reduceLT, Int.reduceLE, Nat.reduceLT, f0]) (v4 := v4) (by simp only [sA, Int.reduceNegSucc, reduceCtorEq, Nat.reduceEqDiff, ↓reduceIte, Nat.reduceAdd, Int.reduceEq, Int.reduceLT, Int.reduceLE, Nat.reduceLT, f4]) C4b (by simp only [sA, Int.reduceNegSucc, reduceCtorEq, Nat.reduceEqDiff, ↓reduceIte, Nat.reduceAdd, Int.reduceEq, Int.reduceLT, Int.reduceLE, Nat.reduceLT])
    · have hl' : ¬ ((valuesF s.now.hs clN).length : Int) = 1 := by omega
      simp only [c94, restAt, cutAt_0, cutAt_s, sA, Int.reduceNegSucc, reduceCtorEq, Nat.reduceEqDiff, ↓reduceIte, Nat.reduceAdd, Int.reduceEq, Int.reduceLT, Int.reduceLE, Nat.reduceLT, f0, f3, f4, e3, hl']
      have ex : headersEndF s = goF s 0 := by
        unfold headersEndF
        simp only
        rw [if_neg hn1, if_neg hn2, if_neg hl]
        rfl
      rw [ex]
      exact hdrsend_tail P4 F4 B hst hk hrd (m := 0) (by omega) (by simp only [sA, Int.reduceNegSucc, reduceCtorEq, Nat.reduceEqDiff, ↓reduceIte, Nat.reduceAdd, Int.reduceEq, Int.reduceLT, Int.reduceLE, Nat.reduceLT, f0]) (v4 := v4) (by simp only [sA, Int.reduceNegSucc, reduceCtorEq, Nat.reduceEqDiff, ↓reduceIte, Nat.reduceAdd, Int.reduceEq, Int.reduceLT, Int.reduceLE, Nat.reduceLT, f4]) C4b (by simp only [sA, Int.reduceNegSucc, reduceCtorEq, Nat.reduceEqDiff, ↓reduceIte, Nat.reduceAdd, Int.reduceEq, Int.reduceLT, Int.reduceLE, Nat.reduceLT]; try rfl)
  by_cases ht : (valuesF s.now.hs teN).length = 1
  · obtain ⟨x, hx⟩ := fst_of_one ht
    have hxl : x.length ≤ 1000000 := by
      have := values_mem (hs := s.now.hs) (name := teN) (v := x) (by rw [hx]; simp) he
      omega
    have ht' : ((valuesF s.now.hs teN).length : Int) = 1 := by omega
    have ix := C4'.idx .i64 (i := 0) (by rw [strs_len]; omega)
    have lx := C4'.load (i := 0) (x := .str x) (by rw [hx]; rfl)
    simp only [Int.natCast_zero] at ix
    simp only [sA, Int.reduceNegSucc, reduceCtorEq, Nat.reduceEqDiff, ↓reduceIte, Nat.reduceAdd, Int.reduceEq, Int.reduceLT, Int.reduceLE, Nat.reduceLT, e5, hh', e3, e4, w34, hs', eq_true ht', ix, lx]
    refine (lower_spec x hxl).mono ?_
    rintro w H4 ⟨rfl, E4⟩
    have F4 : Ext H.next H H4 := E13.trans (E4.less (by omega))
    by_cases hc : low x = chW
    · have hc' : low x = [99, 104, 117, 110, 107, 101, 100] := hc
      simp only [sA, Int.reduceNegSucc, reduceCtorEq, Nat.reduceEqDiff, ↓reduceIte, Nat.reduceAdd, Int.reduceEq, Int.reduceLT, Int.reduceLE, Nat.reduceLT, eq_true hc']
      exact part _ H4 F4 E4 (by simp only [sA, Int.reduceNegSucc, reduceCtorEq, Nat.reduceEqDiff, ↓reduceIte, Nat.reduceAdd, Int.reduceEq, Int.reduceLT, Int.reduceLE, Nat.reduceLT]; try rfl) (by simp only [sA, Int.reduceNegSucc, reduceCtorEq, Nat.reduceEqDiff, ↓reduceIte, Nat.reduceAdd, Int.reduceEq, Int.reduceLT, Int.reduceLE, Nat.reduceLT]; try rfl) (by simp only [sA, Int.reduceNegSucc, reduceCtorEq, Nat.reduceEqDiff, ↓reduceIte, Nat.reduceAdd, Int.reduceEq, Int.reduceLT, Int.reduceLE, Nat.reduceLT]; try rfl) (by rw [hx]; simp [hc])
    · have hc' : ¬ low x = [99, 104, 117, 110, 107, 101, 100] := hc
      simp only [sA, Int.reduceNegSucc, reduceCtorEq, Nat.reduceEqDiff, ↓reduceIte, Nat.reduceAdd, Int.reduceEq, Int.reduceLT, Int.reduceLE, Nat.reduceLT, eq_false hc']
      exact stay H4 21 F4 (by
        unfold headersEndF
        simp only
        rw [if_neg hn1, if_pos ⟨ht, by rw [hx]; exact hc⟩])
  · have ht' : ¬ ((valuesF s.now.hs teN).length : Int) = 1 := by omega
    simp only [sA, Int.reduceNegSucc, reduceCtorEq, Nat.reduceEqDiff, ↓reduceIte, Nat.reduceAdd, Int.reduceEq, Int.reduceLT, Int.reduceLE, Nat.reduceLT, e5, hh', e3, e4, w34, hs', ht']
    exact part _ H3 E13 (Ext.refl _ _) (by simp only [sA, Int.reduceNegSucc, reduceCtorEq, Nat.reduceEqDiff, ↓reduceIte, Nat.reduceAdd, Int.reduceEq, Int.reduceLT, Int.reduceLE, Nat.reduceLT]; try rfl) (by simp only [sA, Int.reduceNegSucc, reduceCtorEq, Nat.reduceEqDiff, ↓reduceIte, Nat.reduceAdd, Int.reduceEq, Int.reduceLT, Int.reduceLE, Nat.reduceLT]; try rfl) (by simp only [sA, Int.reduceNegSucc, reduceCtorEq, Nat.reduceEqDiff, ↓reduceIte, Nat.reduceAdd, Int.reduceEq, Int.reduceLT, Int.reduceLE, Nat.reduceLT]; try rfl) (fun h => ht h.1)
end
end Go.Proofs.Ht
namespace Go.Proofs.Ht
open Go.Abs Go.Abs.S
set_option linter.unusedSimpArgs false
def upT (τ : Nat → Nat) (H H' : AHeap) (k : Nat) : Nat → Nat := fun c => if c < H.next then τ c else if c < H'.next then k else 0
theorem upT_old {τ : Nat → Nat} {H H' : AHeap} {k c : Nat} (h : c < H.next) : upT τ H H' k c = τ c := if_pos h
theorem upT_new {τ : Nat → Nat} {H H' : AHeap} {k c : Nat} (h : H.next ≤ c) (h' : c < H'.next) : upT τ H H' k c = k := by
  unfold upT; rw [if_neg (by omega), if_pos h']
theorem upT_z {τ : Nat → Nat} {H H' : AHeap} {k c : Nat} (hn : H.next ≤ H'.next) (h : H'.next ≤ c) : upT τ H H' k c = 0 := by
  unfold upT; rw [if_neg (by omega), if_neg (by omega)]
section
variable {n : Nat} {τ : Nat → Nat} {H : AHeap} {p : Nat} {s : PS} {rd : List Rq} {vl vh vb vr : AVal}
structure Grown (τ : Nat → Nat) (H : AHeap) (p : Nat) (s : PS) (rd : List Rq) (vl vh vb vr : AVal) (k : Nat) (H' : AHeap) : Prop where
  row : Row H' p (pC p s vl vh vb vr (szF rd))
  pn : p < H'.next
  tp : upT τ H H' k p = 1
  tz : ∀ c, H'.next ≤ c → upT τ H H' k c = 0
  l : k ≠ 2 → LC H'.next (upT τ H H' k) H' vl s.line 2
  h : k ≠ 3 → HC H'.next (upT τ H H' k) H' vh s.now.hs
  b : k ≠ 4 → LC H'.next (upT τ H H' k) H' vb s.now.body 4
  r : k ≠ 5 → RC 5 H'.next (upT τ H H' k) H' vr rd
  f : Fr τ H (upT τ H H' k) H'
theorem PV.grown (P : PV n τ H p s rd vl vh vb vr) {k : Nat} {H' : AHeap} (h1 : k ≠ 1) (h0 : k ≠ 0 ∧ k ≠ 6) (hn : H.next ≤ H'.next) (e : ∀ c, c < H.next → τ c ≠ k → H'.get c = H.get c) : Grown τ H p s rd vl vh vb vr k H' := by
  have nn := P.nn
  have pn := P.pn
  have tp := P.tp
  have to : ∀ c, c < n → upT τ H H' k c = τ c := fun c hc => upT_old (by omega)
  exact ⟨P.row.same (e p (by omega) (by omega)), by omega, by rw [to p pn]; exact tp, fun c hc => upT_z hn hc,
    fun h => P.l.fr (by omega) hn (fun c hc hk => by rw [to c hc]; exact hk) (fun c hc hk => e c (by omega) (by omega)),
    fun h => P.h.fr (by omega) hn (fun c hc hk => by rw [to c hc]; exact hk) (fun c hc hk => e c (by omega) (by omega)),
    fun h => P.b.fr (by omega) hn (fun c hc hk => by rw [to c hc]; exact hk) (fun c hc hk => e c (by omega) (by omega)),
    fun h => P.r.fr (by omega) (fun c hc _ => to c hc) (fun c hc hk => e c (by omega) (by omega)),
    ⟨hn, fun c hc h0' => ⟨upT_old hc, e c hc (by omega)⟩⟩⟩
theorem PV.of {n' : Nat} {τ' : Nat → Nat} {H' H'' : AHeap} {s' : PS} (hR : Row H'' p (pC p s' vl vh vb vr (szF rd))) (hn : H''.next = H'.next) (o : ∀ c, c ≠ p → H''.get c = H'.get c) (pn : p < n') (nn : n' ≤ H'.next) (tp : τ' p = 1) (tz : ∀ c, n' ≤ c → τ' c = 0)
    (l : LC n' τ' H' vl s'.line 2) (h : HC n' τ' H' vh s'.now.hs) (b : LC n' τ' H' vb s'.now.body 4) (r : RC 5 n' τ' H' vr rd) : PV n' τ' H'' p s' rd vl vh vb vr := by
  have f : ∀ k, k ≠ 1 → ∀ c, c < n' → τ' c = k → H''.get c = H'.get c := fun k hk c _ hc => o c (by rintro rfl; omega)
  have hle : H'.next ≤ H''.next := by omega
  exact ⟨hR, pn, by omega, tp, tz, l.fr (Nat.le_refl _) hle (fun _ _ h => h) (f 2 (by omega)), h.fr (Nat.le_refl _) hle (fun _ _ h => h) (f 3 (by omega)), b.fr (Nat.le_refl _) hle (fun _ _ h => h) (f 4 (by omega)), r.fr (Nat.le_refl _) (fun _ _ _ => rfl) (fun c _ hc => o c (by rintro rfl; omega))⟩
theorem told_pv {τ' : Nat → Nat} {H' : AHeap} {s' : PS} (P : PV H'.next τ' H' p s' rd vl vh vb vr) (F : Fr τ H τ' H') (e : Nat) : Told τ H p rd (s', [], e) (.int .i64 (e : Int)) H' :=
  ⟨rfl, τ', by rw [List.append_nil]; exact ⟨_, _, _, _, P⟩, F⟩
theorem hdrline_spec (P : PR n τ H p s rd) {k : Nat} (B : Bd k s) (hst : s.st = 1) (hk : k ≤ 1000000) (hrd : rd.length ≤ 1000000) (l : Bs) (right : Bool) (hl : l.length ≤ 1000000) :
    ACalls Tryz.prog natX 80 [cellR p 15 0, .str l, .bool right] H (Told τ H p rd (headerLineF s l right)) := by
  have P0 := P
  obtain ⟨vl, vh, vb, vr, P⟩ := P
  refine acalls_ofN rfl za80 rfl ?_
  obtain ⟨l0, l1, l2, l3, l4, l7, _⟩ := P.lds
  have hlen := P.h.1.len
  have bh := B.hs
  have stay : ∀ e : Nat, headerLineF s l right = (s, [], e) → Told τ H p rd (headerLineF s l right) (.int .i64 (e : Int)) H := fun e h => by rw [h]; exact told_own P (Fr.refl _ _) e
  by_cases h0 : l = []
  · subst h0
    cases right with
    | false =>
      simp only [c80, sA, Int.reduceNegSucc, reduceCtorEq, Nat.reduceEqDiff, ↓reduceIte, Nat.reduceAdd, Int.reduceEq, Int.reduceLT, Int.reduceLE, Nat.reduceLT]
      exact stay 21 (by simp [headerLineF])
    | true =>
      simp only [c80, sA, Int.reduceNegSucc, reduceCtorEq, Nat.reduceEqDiff, ↓reduceIte, Nat.reduceAdd, Int.reduceEq, Int.reduceLT, Int.reduceLE, Nat.reduceLT]
      refine (hdrsend_spec P0 B hst hk hrd).mono ?_
      rintro v H1 ⟨rfl, h1⟩
      have e : headerLineF s [] true = headersEndF s := by simp [headerLineF]
      rw [e]
      simp only [sA, Int.reduceNegSucc, reduceCtorEq, Nat.reduceEqDiff, ↓reduceIte, Nat.reduceAdd, Int.reduceEq, Int.reduceLT, Int.reduceLE, Nat.reduceLT]
      exact ⟨rfl, h1⟩
  · by_cases h40 : 40 ≤ s.now.hs.length
    · have h40' : (40 : Int) ≤ (s.now.hs.length : Int) := by omega
      simp only [c80, sA, Int.reduceNegSucc, reduceCtorEq, Nat.reduceEqDiff, ↓reduceIte, Nat.reduceAdd, Int.reduceEq, Int.reduceLT, Int.reduceLE, Nat.reduceLT, eq_false h0, nil_cell, fldA, l7, hlen, h40']
      exact stay 3 (by simp [headerLineF, h0, h40])
    · have h40' : ¬ (40 : Int) ≤ (s.now.hs.length : Int) := by omega
      cases right with
      | false =>
        simp only [c80, sA, Int.reduceNegSucc, reduceCtorEq, Nat.reduceEqDiff, ↓reduceIte, Nat.reduceAdd, Int.reduceEq, Int.reduceLT, Int.reduceLE, Nat.reduceLT, eq_false h0, nil_cell, fldA, l7, hlen, h40']
        exact stay 21 (by simp [headerLineF, h0, h40])
      | true =>
        simp only [c80, sA, Int.reduceNegSucc, reduceCtorEq, Nat.reduceEqDiff, ↓reduceIte, Nat.reduceAdd, Int.reduceEq, Int.reduceLT, Int.reduceLE, Nat.reduceLT, eq_false h0, nil_cell, fldA, l7, hlen, h40']
        refine (header_spec l hl).mono ?_
        rintro v H1 ⟨rfl, E1⟩
        obtain ⟨H2, m2, r2, k2, o2⟩ := row_newL H1 [.str [], .str []] (n := 2) rfl
        have nn := P.nn
        have n1 := E1.next
        have P1 := P.ext E1.next fun c hc => E1.old c (by omega)
        cases hh : headerF l with
        | none =>
          obtain ⟨H3, m3, r3, k3, o3⟩ := row_storeN r2 (n := 2) rfl (xs := [.str [], .str []]) rfl rfl
          have P3 := P1.ext (H' := H3) (by omega) fun c hc => by rw [o3 c (by omega), o2 c (by omega)]
          simp only [optV, sA, Int.reduceNegSucc, reduceCtorEq, Nat.reduceEqDiff, ↓reduceIte, Nat.reduceAdd, Int.reduceEq, Int.reduceLT, Int.reduceLE, Nat.reduceLT, ext_0, ext_1, m2, m3]
          have e : headerLineF s l true = (s, [], 21) := by simp [headerLineF, h0, h40, hh]
          rw [e]
          exact told_own P3 (Fr.of_ext ⟨by omega, fun c hc => by rw [o3 c (by omega), o2 c (by omega)]; exact E1.old c hc⟩) 21
        | some q =>
          obtain ⟨H3, m3, r3, k3, o3⟩ := row_storeN r2 (n := 2) rfl (xs := [.str q.1, .str q.2]) rfl rfl
          have P3 := P1.ext (H' := H3) (by omega) fun c hc => by rw [o3 c (by omega), o2 c (by omega)]
          have F3 : Fr τ H τ H3 := Fr.of_ext ⟨by omega, fun c hc => by rw [o3 c (by omega), o2 c (by omega)]; exact E1.old c hc⟩
          obtain ⟨_, _, _, _, _, l7', _⟩ := P3.lds
          have nn3 := P3.nn
          have pn := P.pn
          have lq := row_loadN r3 (n := 2) rfl
          have bm := buildM (m := 2) (z := [.str [], .str []]) (xs := [.str q.1, .str q.2]) H3 rfl rfl
          obtain ⟨v', H4, m4, A4, n4, b4, o4⟩ := P3.h.1.pushB (xs := [.str q.1, .str q.2]) rfl rfl (by omega) (bytes := 32) (by omega) (by omega)
          have l7p : oLoad false 1 (H3.push (.cells [.str q.1, .str q.2] 0 false)) (cellR p 15 7) = some vh := row_load (P3.row.same (get_push_lt (by omega))) rfl rfl
          have G := P3.grown (k := 3) (H' := H4) (by omega) (by omega) n4 fun c hc ht => o4 c hc (P3.h.2.mono fun b hb => by rintro rfl; exact ht hb.2)
          obtain ⟨H5, m5, r5, k5, o5⟩ := row_st G.row (n := 15) rfl (i := 7) (by omega) (x := v') A4.one rfl
          simp only [optV, sA, Int.reduceNegSucc, reduceCtorEq, Nat.reduceEqDiff, ↓reduceIte, Nat.reduceAdd, Int.reduceEq, Int.reduceLT, Int.reduceLE, Nat.reduceLT, ext_0, ext_1, m2, m3]
          refine aw_drawC rfl ?_
          simp only [sA, Int.reduceNegSucc, reduceCtorEq, Nat.reduceEqDiff, ↓reduceIte, Nat.reduceAdd, Int.reduceEq, Int.reduceLT, Int.reduceLE, Nat.reduceLT, sR, nil_cell, fldA, l7', lq, bm, m4, m5]
          simp only [ck_nil', ck_cons, ckP_load, ckP_nil, ck_end, and_true, true_and, List.map_cons, List.map_nil, sA, Int.reduceNegSucc, reduceCtorEq, Nat.reduceEqDiff, ↓reduceIte, Nat.reduceAdd, Int.reduceEq, Int.reduceLT, Int.reduceLE, Nat.reduceLT, fldA, l7p]
          refine ⟨⟨_, rfl, fun _ => ⟨_, l7p, P3.h.aeq⟩⟩, ?_⟩
          have e : headerLineF s l true = ({ s with now := { s.now with hs := s.now.hs ++ [q] } }, [], 0) := by simp [headerLineF, h0, h40, hh]
          rw [e]
          have hHC : HC H4.next (upT τ H3 H4 3) H4 v' (s.now.hs ++ [q]) := by
            refine ⟨by rw [prC_snoc, List.length_append]; exact A4, ?_⟩
            have hb := b4 (fun b => b < n ∧ τ b = 3) P3.h.2
            have hb' := hb.and A4.blk'
            refine hb'.mono fun b hb => ⟨hb.2, ?_⟩
            rcases hb.1 with h | h
            · rw [upT_old (by omega)]; exact h.2
            · exact upT_new h hb.2
          have P5 : PV H4.next (upT τ H3 H4 3) H5 p { s with now := { s.now with hs := s.now.hs ++ [q] } } rd vl v' vb vr :=
            PV.of (s' := { s with now := { s.now with hs := s.now.hs ++ [q] } }) r5 k5 o5 G.pn (Nat.le_refl _) G.tp G.tz (G.l (by omega)) hHC (G.b (by omega)) (G.r (by omega))
          have k5' : H4.next = H5.next := k5.symm
          refine told_pv (by rw [k5'] at P5; exact P5) (F3.trans (G.f.trans ⟨by omega, fun c hc h0 => ⟨rfl, o5 c (by have := G.tp; rintro rfl; omega)⟩⟩)) 0
theorem want_spec (P : PR n τ H p s rd) : ACalls Tryz.prog natX 76 [cellR p 15 0] H fun v H' => v = .int .i64 (wantF s : Int) ∧ H = H' := by
  obtain ⟨vl, vh, vb, vr, P⟩ := P
  refine acalls_ofN rfl za76 rfl ?_
  obtain ⟨l0, l1, _⟩ := P.lds
  by_cases h0 : s.st = 0
  · have h0' : (s.st : Int) = 0 := by omega
    simp only [c76, sA, Int.reduceNegSucc, reduceCtorEq, Nat.reduceEqDiff, ↓reduceIte, Nat.reduceAdd, Int.reduceEq, Int.reduceLT, Int.reduceLE, Nat.reduceLT, nil_cell, fldA, l1, eq_true h0']
    exact ⟨by simp [wantF, h0], (by first | with_reducible rfl | trivial | rfl | assumption)⟩
  · have h0' : ¬ (s.st : Int) = 0 := by omega
    by_cases h3 : s.st = 3
    · have h3' : (s.st : Int) = 3 := by omega
      simp only [c76, sA, Int.reduceNegSucc, reduceCtorEq, Nat.reduceEqDiff, ↓reduceIte, Nat.reduceAdd, Int.reduceEq, Int.reduceLT, Int.reduceLE, Nat.reduceLT, nil_cell, fldA, l1, eq_false h0', eq_true h3']
      exact ⟨by simp [wantF, h3], (by first | with_reducible rfl | trivial | rfl | assumption)⟩
    · have h3' : ¬ (s.st : Int) = 3 := by omega
      simp only [c76, sA, Int.reduceNegSucc, reduceCtorEq, Nat.reduceEqDiff, ↓reduceIte, Nat.reduceAdd, Int.reduceEq, Int.reduceLT, Int.reduceLE, Nat.reduceLT, nil_cell, fldA, l1, eq_false h0', eq_false h3']
      exact ⟨by simp [wantF, h0, h3], (by first | with_reducible rfl | trivial | rfl | assumption)⟩
theorem ended_spec (P : PR n τ H p s rd) {k : Nat} (B : Bd k s) (hk : k ≤ 1000000) (hrd : rd.length ≤ 1000000) :
    ACalls Tryz.prog natX 60 [cellR p 15 0] H (Told τ H p rd (endedF s)) := by
  obtain ⟨vl, vh, vb, vr, P⟩ := P
  refine acalls_ofN rfl za60 rfl ?_
  obtain ⟨l0, l1, l2, l3, _⟩ := P.lds
  have bl := B.line
  have nn := P.nn
  have pn := P.pn
  have tp := P.tp
  obtain ⟨v0, t0, L0, b0⟩ := P.l.1.take (Nat.zero_le _)
  have t0' : aSl 1 vl none (some (.int .i64 0)) none = some v0 := t0
  have L0' : Lin H v0 [] := L0
  obtain ⟨H1, m1, r1, k1, o1⟩ := row_st P.row (n := 15) rfl (i := 3) (by omega) (x := v0) L0'.one rfl
  have P1 : PV n τ H1 p { s with line := [] } rd v0 vh vb vr := PV.of (s' := { s with line := [] }) r1 k1 o1 P.pn P.nn P.tp P.tz ⟨L0', b0 _ P.l.2⟩ P.h P.b P.r
  have F1 : Fr τ H τ H1 := fr_own P k1 o1
  have B1 : Bd k { s with line := [] } := ⟨B.st, B.fault, Nat.zero_le _, B.m, B.t, B.body, B.hs, B.he, B.trailers, B.fed, B.need, B.pos⟩
  have LL : Lin H1 vl s.line := P.l.1.same (by omega) (P.l.2.mono fun b hb => o1 b (by rintro rfl; omega))
  obtain ⟨wh, hwh⟩ : ∃ wh, wh = decide (s.line.getLast? = some 13) := ⟨_, rfl⟩
  obtain ⟨L, hL⟩ : ∃ L, L = (if wh then s.line.take (s.line.length - 1) else s.line) := ⟨_, rfl⟩
  have hLl : L.length ≤ s.line.length := by
    rw [hL]; split
    · simp
    · exact Nat.le_refl _
  have es : endedF s = (if 2000 < L.length then ({ s with line := [] }, [], 3) else if wh = false then ({ s with line := [] }, [], wantF { s with line := [] }) else
      if s.st = 0 then ((requestF { s with line := [] } L (L.all no13)).1, [], (requestF { s with line := [] } L (L.all no13)).2) else if s.st = 1 then headerLineF { s with line := [] } L (L.all no13) else if s.st = 3 then ((chunkF { s with line := [] } L (L.all no13)).1, [], (chunkF { s with line := [] } L (L.all no13)).2) else trailerF { s with line := [] } L (L.all no13)) := by
    rw [hL, hwh]; rfl
  have lift : ∀ {H' : AHeap} {v : AVal} {o : Out}, Told τ H1 p rd o v H' → Told τ H p rd o v H' := fun h => ⟨h.1, by obtain ⟨τ', q1, q2⟩ := h.2; exact ⟨τ', q1, F1.trans q2⟩⟩
  obtain ⟨_, l1b, _⟩ := P1.lds
  have part : ∀ (T : Env) (v3 : AVal), T 0 = cellR p 15 0 → T 3 = v3 → T 4 = .bool wh → Lin H1 v3 L → wp (ACalls Tryz.prog natX) (hold (restAt 5 c60.body)) (fin c60.res (Told τ H p rd (endedF s))) T H1 := by
    intro T v3 g0 g3 g4 L3
    by_cases hbig : 2000 < L.length
    · have hbig' : (2000 : Int) < (L.length : Int) := by omega
      simp only [c60, restAt, hold_eq, sA, Int.reduceNegSucc, reduceCtorEq, Nat.reduceEqDiff, ↓reduceIte, Nat.reduceAdd, Int.reduceEq, Int.reduceLT, Int.reduceLE, Nat.reduceLT, g0, g3, g4, L3.len, hbig']
      rw [es, if_pos hbig]
      exact told_own P1 F1 3
    · have hbig' : ¬ (2000 : Int) < (L.length : Int) := by omega
      cases hw : wh with
      | false =>
        rw [hw] at g4
        simp only [c60, restAt, hold_eq, sA, Int.reduceNegSucc, reduceCtorEq, Nat.reduceEqDiff, ↓reduceIte, Nat.reduceAdd, Int.reduceEq, Int.reduceLT, Int.reduceLE, Nat.reduceLT, g0, g3, g4, L3.len, hbig']
        refine (want_spec ⟨_, _, _, _, P1⟩).mono ?_
        rintro v _ ⟨rfl, rfl⟩
        simp only [sA, Int.reduceNegSucc, reduceCtorEq, Nat.reduceEqDiff, ↓reduceIte, Nat.reduceAdd, Int.reduceEq, Int.reduceLT, Int.reduceLE, Nat.reduceLT]
        rw [es, if_neg hbig, if_pos hw]
        exact told_own P1 F1 (wantF _)
      | true =>
        rw [hw] at g4
        simp only [c60, restAt, hold_eq, sA, Int.reduceNegSucc, reduceCtorEq, Nat.reduceEqDiff, ↓reduceIte, Nat.reduceAdd, Int.reduceEq, Int.reduceLT, Int.reduceLE, Nat.reduceLT, g0, g3, g4, L3.len, hbig', L3.str]
        refine (all_spec says_no13 L (by omega)).mono ?_
        rintro v _ ⟨rfl, rfl⟩
        have es' : endedF s = (if s.st = 0 then ((requestF { s with line := [] } L (L.all no13)).1, [], (requestF { s with line := [] } L (L.all no13)).2) else if s.st = 1 then headerLineF { s with line := [] } L (L.all no13) else if s.st = 3 then ((chunkF { s with line := [] } L (L.all no13)).1, [], (chunkF { s with line := [] } L (L.all no13)).2) else trailerF { s with line := [] } L (L.all no13)) := by
          rw [es, if_neg hbig, if_neg (by rw [hw]; simp)]
        by_cases h0 : s.st = 0
        · have h0' : (s.st : Int) = 0 := by omega
          simp only [sA, Int.reduceNegSucc, reduceCtorEq, Nat.reduceEqDiff, ↓reduceIte, Nat.reduceAdd, Int.reduceEq, Int.reduceLT, Int.reduceLE, Nat.reduceLT, nil_cell, fldA, l1b, g0, eq_true h0']
          rw [es', if_pos h0]
          refine (reqline_spec ⟨_, _, _, _, P1⟩ L (L.all no13) (by omega)).mono ?_
          rintro v H2 ⟨rfl, hh⟩
          simp only [sA, Int.reduceNegSucc, reduceCtorEq, Nat.reduceEqDiff, ↓reduceIte, Nat.reduceAdd, Int.reduceEq, Int.reduceLT, Int.reduceLE, Nat.reduceLT]
          exact lift ⟨rfl, hh⟩
        · have h0' : ¬ (s.st : Int) = 0 := by omega
          by_cases h1 : s.st = 1
          · have h1' : (s.st : Int) = 1 := by omega
            simp only [sA, Int.reduceNegSucc, reduceCtorEq, Nat.reduceEqDiff, ↓reduceIte, Nat.reduceAdd, Int.reduceEq, Int.reduceLT, Int.reduceLE, Nat.reduceLT, nil_cell, fldA, l1b, g0, eq_false h0', eq_true h1']
            rw [es', if_neg h0, if_pos h1]
            refine (hdrline_spec ⟨_, _, _, _, P1⟩ B1 h1 hk hrd L (L.all no13) (by omega)).mono ?_
            rintro v H2 ⟨rfl, hh⟩
            simp only [sA, Int.reduceNegSucc, reduceCtorEq, Nat.reduceEqDiff, ↓reduceIte, Nat.reduceAdd, Int.reduceEq, Int.reduceLT, Int.reduceLE, Nat.reduceLT]
            exact lift ⟨rfl, hh⟩
          · have h1' : ¬ (s.st : Int) = 1 := by omega
            by_cases h3 : s.st = 3
            · have h3' : (s.st : Int) = 3 := by omega
              simp only [sA, Int.reduceNegSucc, reduceCtorEq, Nat.reduceEqDiff, ↓reduceIte, Nat.reduceAdd, Int.reduceEq, Int.reduceLT, Int.reduceLE, Nat.reduceLT, nil_cell, fldA, l1b, g0, eq_false h0', eq_false h1', eq_true h3']
              rw [es', if_neg h0, if_neg h1, if_pos h3]
              refine (chunk_spec ⟨_, _, _, _, P1⟩ B1 hk L (L.all no13) (by omega)).mono ?_
              rintro v H2 ⟨rfl, hh⟩
              simp only [sA, Int.reduceNegSucc, reduceCtorEq, Nat.reduceEqDiff, ↓reduceIte, Nat.reduceAdd, Int.reduceEq, Int.reduceLT, Int.reduceLE, Nat.reduceLT]
              exact lift ⟨rfl, hh⟩
            · have h3' : ¬ (s.st : Int) = 3 := by omega
              simp only [sA, Int.reduceNegSucc, reduceCtorEq, Nat.reduceEqDiff, ↓reduceIte, Nat.reduceAdd, Int.reduceEq, Int.reduceLT, Int.reduceLE, Nat.reduceLT, nil_cell, fldA, l1b, g0, eq_false h0', eq_false h1', eq_false h3']
              rw [es', if_neg h0, if_neg h1, if_neg h3]
              refine (trailer_spec ⟨_, _, _, _, P1⟩ B1 hk hrd L (L.all no13) (by omega)).mono ?_
              rintro v H2 ⟨rfl, hh⟩
              simp only [sA, Int.reduceNegSucc, reduceCtorEq, Nat.reduceEqDiff, ↓reduceIte, Nat.reduceAdd, Int.reduceEq, Int.reduceLT, Int.reduceLE, Nat.reduceLT]
              exact lift ⟨rfl, hh⟩
  refine wp_cutAt 5 ?_
  by_cases hz : s.line = []
  · have hw : wh = false := by rw [hwh, hz]; rfl
    have z0 : (s.line.length : Int) = 0 := by rw [hz]; rfl
    have z1 : ¬ ((0 : Int) < (s.line.length : Int)) := by omega
    simp only [c60, cutAt_0, cutAt_s, sA, Int.reduceNegSucc, reduceCtorEq, Nat.reduceEqDiff, ↓reduceIte, Nat.reduceAdd, Int.reduceEq, Int.reduceLT, Int.reduceLE, Nat.reduceLT, nil_cell, fldA, l3, t0', m1, P.l.1.len, z1]
    exact part _ vl (by simp only [sA, Int.reduceNegSucc, reduceCtorEq, Nat.reduceEqDiff, ↓reduceIte, Nat.reduceAdd, Int.reduceEq, Int.reduceLT, Int.reduceLE, Nat.reduceLT]; try rfl) (by simp only [sA, Int.reduceNegSucc, reduceCtorEq, Nat.reduceEqDiff, ↓reduceIte, Nat.reduceAdd, Int.reduceEq, Int.reduceLT, Int.reduceLE, Nat.reduceLT]; try rfl) (by simp only [sA, Int.reduceNegSucc, reduceCtorEq, Nat.reduceEqDiff, ↓reduceIte, Nat.reduceAdd, Int.reduceEq, Int.reduceLT, Int.reduceLE, Nat.reduceLT]; rw [hw]) (by rw [hL, hw]; exact LL)
  · have hpos := List.length_pos_iff.2 hz
    have z1 : (0 : Int) < (s.line.length : Int) := by omega
    obtain ⟨b, hb⟩ := isSome_of_lt (l := s.line) (i := s.line.length - 1) (by omega)
    have hlast : s.line.getLast? = some b := by rw [List.getLast?_eq_getElem?]; exact hb
    have w1 : IntKind.i64.wrap ((s.line.length : Int) - 1) = ((s.line.length - 1 : Nat) : Int) := by
      rw [wrap64 (by omega) (by omega)]; omega
    obtain ⟨a, a1, a2⟩ := LL.idx hb
    by_cases h13 : b = 13
    · have hw : wh = true := by rw [hwh, hlast, h13]; rfl
      have e13 : ((b.toNat : Nat) : Int) = 13 := by rw [h13]; rfl
      obtain ⟨v2, t2, L2, _⟩ := LL.take (k := s.line.length - 1) (by omega)
      simp only [c60, cutAt_0, cutAt_s, sA, Int.reduceNegSucc, reduceCtorEq, Nat.reduceEqDiff, ↓reduceIte, Nat.reduceAdd, Int.reduceEq, Int.reduceLT, Int.reduceLE, Nat.reduceLT, nil_cell, fldA, l3, t0', m1, P.l.1.len, z1, w1, a1, a2, e13, t2]
      exact part _ v2 (by simp only [sA, Int.reduceNegSucc, reduceCtorEq, Nat.reduceEqDiff, ↓reduceIte, Nat.reduceAdd, Int.reduceEq, Int.reduceLT, Int.reduceLE, Nat.reduceLT]; try rfl) (by simp only [sA, Int.reduceNegSucc, reduceCtorEq, Nat.reduceEqDiff, ↓reduceIte, Nat.reduceAdd, Int.reduceEq, Int.reduceLT, Int.reduceLE, Nat.reduceLT]; try rfl) (by simp only [sA, Int.reduceNegSucc, reduceCtorEq, Nat.reduceEqDiff, ↓reduceIte, Nat.reduceAdd, Int.reduceEq, Int.reduceLT, Int.reduceLE, Nat.reduceLT]; rw [hw]) (by rw [hL, hw]; exact L2)
    · have hw : wh = false := by rw [hwh, hlast]; simp [h13]
      have e13 : ¬ ((b.toNat : Nat) : Int) = 13 := fun e => h13 (UInt8.toNat_inj.1 (by show b.toNat = 13; omega))
      simp only [c60, cutAt_0, cutAt_s, sA, Int.reduceNegSucc, reduceCtorEq, Nat.reduceEqDiff, ↓reduceIte, Nat.reduceAdd, Int.reduceEq, Int.reduceLT, Int.reduceLE, Nat.reduceLT, nil_cell, fldA, l3, t0', m1, P.l.1.len, z1, w1, a1, a2, e13]
      exact part _ vl (by simp only [sA, Int.reduceNegSucc, reduceCtorEq, Nat.reduceEqDiff, ↓reduceIte, Nat.reduceAdd, Int.reduceEq, Int.reduceLT, Int.reduceLE, Nat.reduceLT]; try rfl) (by simp only [sA, Int.reduceNegSucc, reduceCtorEq, Nat.reduceEqDiff, ↓reduceIte, Nat.reduceAdd, Int.reduceEq, Int.reduceLT, Int.reduceLE, Nat.reduceLT]; try rfl) (by simp only [sA, Int.reduceNegSucc, reduceCtorEq, Nat.reduceEqDiff, ↓reduceIte, Nat.reduceAdd, Int.reduceEq, Int.reduceLT, Int.reduceLE, Nat.reduceLT]; rw [hw]) (by rw [hL, hw]; exact LL)
end
end Go.Proofs.Ht
