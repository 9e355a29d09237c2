/- Part of a proof (Z7 Z8 Z9 S26 Z10 Z11); no condition. -/
import Derived.Test.YtbighbbpahngiaaP14
set_option linter.unusedSimpArgs false
set_option linter.unusedVariables false
set_option linter.unnecessarySimpa false
namespace Go.Proofs.Zt
open Go.Abs Go.Abs.S
set_option linter.unusedSimpArgs false
def Holds (H : AHeap) (q : Nat) (w : AVal) : Prop := ∃ cs, w = .agg cs ∧ cs.length = 2 ∧ Row H q cs
theorem Holds.load {H : AHeap} {q : Nat} {w : AVal} (h : Holds H q w) : oLoad true 2 H (cellR q 2 0) = some w := by
  obtain ⟨cs, rfl, h1, h2⟩ := h; exact row_loadN h2 h1
theorem Holds.same {H H' : AHeap} {q : Nat} {w : AVal} (h : Holds H q w) (e : H'.get q = H.get q) : Holds H' q w := by
  obtain ⟨cs, h0, h1, h2⟩ := h; exact ⟨cs, h0, h1, h2.same e⟩
theorem rw_same {H H' : AHeap} {w : AVal} {L : List Bool} {t : Nat} (h : RW H.next H w L t) (hn : H.next ≤ H'.next) (e : VB w fun b => H'.get b = H.get b) : RW H'.next H' w L t := by
  obtain ⟨sv, rfl, hC⟩ := h
  exact ⟨sv, rfl, cel_same hC hn (e _ _ rfl)⟩
theorem rw_store {H : AHeap} {w : AVal} {L : List Bool} {t : Nat} (h : RW H.next H w L t) {q : Nat} {u : AVal} (hR : Holds H q u) (hb : VB w (· ≠ q)) :
    ∃ H', oStore 2 H (cellR q 2 0) w = some H' ∧ Holds H' q w ∧ RW H'.next H' w L t ∧ H'.next = H.next ∧ ∀ c, c ≠ q → H'.get c = H.get c := by
  obtain ⟨cs, rfl, h1, h2⟩ := hR
  have h' := h
  obtain ⟨sv, rfl, hC⟩ := h
  obtain ⟨H', m, r, k, o⟩ := row_storeN h2 h1 (xs := [sv, .int .i64 (t : Int)]) rfl (by simp only [List.all_cons, List.all_nil, cel_one hC]; rfl)
  exact ⟨H', m, ⟨_, rfl, rfl, r⟩, rw_same h' (by omega) (hb.mono fun b hb => o b hb), k, o⟩
def RB (H : AHeap) (v : AVal) (L : List Bool) (t : Nat) (w : AVal) (H' : AHeap) : Prop := RW H'.next H' w L t ∧ (∀ P, VB v P → VB w fun b => P b ∨ H.next ≤ b) ∧ Ext H.next H H'
def WS (n0 : Nat) (H : AHeap) (q : Nat) (v w : AVal) (L : List Bool) (t : Nat) : Prop := Holds H q w ∧ RW H.next H w L t ∧ (∀ P, VB v P → VB w fun b => P b ∨ n0 ≤ b) ∧ VB v (· < q) ∧ q < n0 ∧ n0 ≤ H.next
def Kp (n0 q : Nat) (H H' : AHeap) : Prop := H.next ≤ H'.next ∧ ∀ c, c < n0 → c ≠ q → H'.get c = H.get c
theorem Kp.trans {n0 q : Nat} {H H' H'' : AHeap} (h : Kp n0 q H H') (k : Kp n0 q H' H'') : Kp n0 q H H'' := ⟨Nat.le_trans h.1 k.1, fun c h1 h2 => (k.2 c h1 h2).trans (h.2 c h1 h2)⟩
theorem WS.load {n0 : Nat} {H : AHeap} {q : Nat} {v w : AVal} {L : List Bool} {t : Nat} (h : WS n0 H q v w L t) : oLoad true 2 H (cellR q 2 0) = some w := h.1.load
theorem WS.ext {n0 : Nat} {H H' : AHeap} {q : Nat} {v w : AVal} {L : List Bool} {t : Nat} (h : WS n0 H q v w L t) (e : Ext H.next H H') : WS n0 H' q v w L t := by
  obtain ⟨h1, h2, h3, h4, h5, h6⟩ := h
  exact ⟨h1.same (e.old _ (by omega)), h2.fwd e, h3, h4, h5, Nat.le_trans h6 e.next⟩
theorem WS.step {n0 : Nat} {H : AHeap} {q : Nat} {v w : AVal} {L L' : List Bool} {t : Nat} (h : WS n0 H q v w L t) {w' : AVal} {H' : AHeap} (k : RB H w L' t w' H') :
    ∃ H2, oStore 2 H' (cellR q 2 0) w' = some H2 ∧ WS n0 H2 q v w' L' t ∧ Kp n0 q H H2 := by
  obtain ⟨h1, h2, h3, h4, h5, h6⟩ := h
  obtain ⟨k1, k2, k3⟩ := k
  have n3 := k3.next
  have hb : ∀ P, VB v P → VB w' fun b => P b ∨ n0 ≤ b := fun P hP => (k2 _ (h3 P hP)).mono fun b hb => by
    rcases hb with hb | hb
    · exact hb
    · exact .inr (by omega)
  obtain ⟨H2, m, q1, q2, q3, q4⟩ := rw_store k1 (h1.same (k3.old _ (by omega))) ((hb _ h4).mono fun b hb => by omega)
  exact ⟨H2, m, ⟨q1, q2, hb, h4, h5, by omega⟩, by omega, fun c h1 h2 => by rw [q4 c h2, k3.old c (by omega)]⟩
theorem ws_start {H : AHeap} {v : AVal} {L : List Bool} {t : Nat} (h : RW H.next H v L t) : ∃ H1 H2, oNew H v.cells = (cellR H.next 2 0, H1) ∧ oNew H1 [.slice none 0 (.known 0), .int .i64 0] = (cellR H1.next 2 0, H2) ∧ H1.next = H.next + 1 ∧ H2.next = H.next + 2 ∧ WS (H.next + 2) H2 H.next v v L t ∧ Holds H2 (H.next + 1) (.agg [.slice none 0 (.known 0), .int .i64 0]) ∧ Ext H.next H H2 := by
  have h' := h
  obtain ⟨sv, rfl, hC⟩ := h
  obtain ⟨H1, m1, r1, k1, o1⟩ := row_newL H [sv, .int .i64 (t : Int)] (n := 2) rfl
  obtain ⟨H2, m2, r2, k2', o2⟩ := row_newL H1 [.slice none 0 (.known 0), .int .i64 0] (n := 2) rfl
  have E2 : Ext H.next H H2 := ⟨by omega, fun c hc => by rw [o2 c (by omega), o1 c (by omega)]⟩
  exact ⟨H1, H2, m1, m2, k1, by omega, ⟨⟨_, rfl, rfl, r1.same (o2 _ (by omega))⟩, h'.fwd E2, fun P hP => hP.mono fun b hb => .inl hb, h'.vb, by omega, by omega⟩, ⟨_, rfl, rfl, by rw [← k1]; exact r2⟩, E2⟩
theorem ws_end {H H' : AHeap} {v w u : AVal} {L : List Bool} {t : Nat} (h : WS (H.next + 2) H' H.next v w L t) (hu : Holds H' (H.next + 1) u) (e : Ext H.next H H') :
    ∃ H2, oStore 2 H' (cellR (H.next + 1) 2 0) w = some H2 ∧ oLoad true 2 H2 (cellR (H.next + 1) 2 0) = some w ∧ RB H v L t w H2 := by
  obtain ⟨h1, h2, h3, h4, h5, h6⟩ := h
  obtain ⟨H2, m, q1, q2, q3, q4⟩ := rw_store h2 hu ((h3 _ h4).mono fun b hb => by omega)
  exact ⟨H2, m, q1.load, q2, fun P hP => (h3 P hP).mono fun b hb => hb.imp (fun q => q) fun q => by omega, ⟨by have := e.next; omega, fun c hc => by rw [q4 c (by omega)]; exact e.old c hc⟩⟩
theorem bitsT_f (x k : Nat) : bitsT x k false = bitsN x k := rfl
theorem bitsT_t (x k : Nat) : bitsT x k true = (bitsN x k).reverse := rfl
theorem rfixed_spec {H : AHeap} {v : AVal} {L : List Bool} {t : Nat} (h : RW H.next H v L t) (s : Nat) (hs : s ≤ 287) (hL : L.length + 100 ≤ 10000000) :
    ACalls Try.prog natZ 83 [v, .int .i64 (s : Int)] H fun w H' => RB H v (L ++ fixB s) t w H' := by
  refine acalls_ofN rfl za83 rfl ?_
  obtain ⟨H1, H2, m1, m2, n1, n2, W, U, E⟩ := ws_start h
  have ld := W.load
  have key : ∀ (c w : Nat), codeF s = (c, w) → c ≤ 1000 → w ≤ 32 → ∀ Q : AVal → AHeap → Prop, (∀ (w : AVal) (H3 H4 : AHeap), oStore 2 H3 (cellR H1.next 2 0) w = some H4 → oLoad true 2 H4 (cellR H1.next 2 0) = some w → RB H v (L ++ fixB s) t w H4 → Q w H3) → ACalls Try.prog natZ 82 [v, .int .i64 (c : Int), .int .i64 (w : Int), .bool true] H2 Q := by
    intro c w hc h1 h2 Q hQ
    refine (rbits_spec (h.fwd E) c w true h2 (by omega) hL).mono ?_
    intro w' H3 hw
    have e : bitsT c w true = fixB s := by unfold fixB; rw [hc]; rfl
    rw [e] at hw
    have n3 := hw.2.2.next
    obtain ⟨H4, m4, q1, q2, q3, q4⟩ := rw_store hw.1 (U.same (hw.2.2.old _ (by omega))) ((hw.2.1 _ h.vb).mono fun b hb => by omega)
    rw [← n1] at m4 q1
    exact hQ w' H3 H4 m4 q1.load ⟨q2, fun P hP => (hw.2.1 P hP).mono fun b hb => hb.imp (fun q => q) fun q => by omega, ⟨by omega, fun c hc => by rw [q4 c (by omega), hw.2.2.old c (by omega)]; exact E.old c hc⟩⟩
  by_cases h1 : s ≤ 143
  · have h1' : (s : Int) ≤ 143 := by omega
    have w1 : IntKind.i64.wrap (48 + (s : Int)) = ((48 + s : Nat) : Int) := by rw [wrap64 (by omega) (by omega)]; omega
    have e : codeF s = (48 + s, 8) := by unfold codeF; rw [if_pos h1]
    simp only [c83, sA, Int.reduceNegSucc, reduceCtorEq, Nat.reduceEqDiff, ↓reduceIte, Nat.reduceAdd, Int.reduceEq, Int.reduceLT, Int.reduceLE, m1, m2, h1', w1, ld]
    refine key _ 8 e (by omega) (by omega) _ ?_
    intro w H3 H4 m4 l4 hR
    simp only [sA, Int.reduceNegSucc, reduceCtorEq, Nat.reduceEqDiff, ↓reduceIte, Nat.reduceAdd, Int.reduceEq, Int.reduceLT, Int.reduceLE, m4]
    exact fin_1 _ _ _ (by simp only [sA, Int.reduceNegSucc, reduceCtorEq, Nat.reduceEqDiff, ↓reduceIte, Nat.reduceAdd, Int.reduceEq, Int.reduceLT, Int.reduceLE]; exact l4) hR
  · have h1' : ¬ (s : Int) ≤ 143 := by omega
    by_cases h2 : s ≤ 255
    · have h2' : (s : Int) ≤ 255 := by omega
      have w1 : IntKind.i64.wrap (400 + (s : Int)) = ((400 + s : Nat) : Int) := by rw [wrap64 (by omega) (by omega)]; omega
      have w2 : IntKind.i64.wrap (((400 + s : Nat) : Int) - 144) = ((400 + s - 144 : Nat) : Int) := by rw [wrap64 (by omega) (by omega)]; omega
      have e : codeF s = (400 + s - 144, 9) := by unfold codeF; rw [if_neg h1, if_pos h2]
      simp only [c83, sA, Int.reduceNegSucc, reduceCtorEq, Nat.reduceEqDiff, ↓reduceIte, Nat.reduceAdd, Int.reduceEq, Int.reduceLT, Int.reduceLE, m1, m2, h1', h2', w1, w2, ld]
      refine key _ 9 e (by omega) (by omega) _ ?_
      intro w H3 H4 m4 l4 hR
      simp only [sA, Int.reduceNegSucc, reduceCtorEq, Nat.reduceEqDiff, ↓reduceIte, Nat.reduceAdd, Int.reduceEq, Int.reduceLT, Int.reduceLE, m4]
      exact fin_1 _ _ _ (by simp only [sA, Int.reduceNegSucc, reduceCtorEq, Nat.reduceEqDiff, ↓reduceIte, Nat.reduceAdd, Int.reduceEq, Int.reduceLT, Int.reduceLE]; exact l4) hR
    · have h2' : ¬ (s : Int) ≤ 255 := by omega
      by_cases h3 : s ≤ 279
      · have h3' : (s : Int) ≤ 279 := by omega
        have w1 : IntKind.i64.wrap ((s : Int) - 256) = ((s - 256 : Nat) : Int) := by rw [wrap64 (by omega) (by omega)]; omega
        have e : codeF s = (s - 256, 7) := by unfold codeF; rw [if_neg h1, if_neg h2, if_pos h3]
        simp only [c83, sA, Int.reduceNegSucc, reduceCtorEq, Nat.reduceEqDiff, ↓reduceIte, Nat.reduceAdd, Int.reduceEq, Int.reduceLT, Int.reduceLE, m1, m2, h1', h2', h3', w1, ld]
        refine key _ 7 e (by omega) (by omega) _ ?_
        intro w H3 H4 m4 l4 hR
        simp only [sA, Int.reduceNegSucc, reduceCtorEq, Nat.reduceEqDiff, ↓reduceIte, Nat.reduceAdd, Int.reduceEq, Int.reduceLT, Int.reduceLE, m4]
        exact fin_1 _ _ _ (by simp only [sA, Int.reduceNegSucc, reduceCtorEq, Nat.reduceEqDiff, ↓reduceIte, Nat.reduceAdd, Int.reduceEq, Int.reduceLT, Int.reduceLE]; exact l4) hR
      · have h3' : ¬ (s : Int) ≤ 279 := by omega
        have w1 : IntKind.i64.wrap (192 + (s : Int)) = ((192 + s : Nat) : Int) := by rw [wrap64 (by omega) (by omega)]; omega
        have w2 : IntKind.i64.wrap (((192 + s : Nat) : Int) - 280) = ((192 + s - 280 : Nat) : Int) := by rw [wrap64 (by omega) (by omega)]; omega
        have e : codeF s = (192 + s - 280, 8) := by unfold codeF; rw [if_neg h1, if_neg h2, if_neg h3]
        simp only [c83, sA, Int.reduceNegSucc, reduceCtorEq, Nat.reduceEqDiff, ↓reduceIte, Nat.reduceAdd, Int.reduceEq, Int.reduceLT, Int.reduceLE, m1, m2, h1', h2', h3', w1, w2, ld]
        refine key _ 8 e (by omega) (by omega) _ ?_
        intro w H3 H4 m4 l4 hR
        simp only [sA, Int.reduceNegSucc, reduceCtorEq, Nat.reduceEqDiff, ↓reduceIte, Nat.reduceAdd, Int.reduceEq, Int.reduceLT, Int.reduceLE, m4]
        exact fin_1 _ _ _ (by simp only [sA, Int.reduceNegSucc, reduceCtorEq, Nat.reduceEqDiff, ↓reduceIte, Nat.reduceAdd, Int.reduceEq, Int.reduceLT, Int.reduceLE]; exact l4) hR
def ints (l : List Nat) : List AVal := l.map fun n : Nat => .int .i64 (n : Int)
theorem ints_len (l : List Nat) : (ints l).length = l.length := by simp [ints]
theorem ints_get {l : List Nat} {i n : Nat} (h : l[i]? = some n) : (ints l)[i]? = some (.int .i64 (n : Int)) := by simp [ints, h]
theorem two_tables {H : AHeap} {a b : List Nat} {n : Nat} (ha : a.length = n) (hb : b.length = n) : Cel (H.next + 2) ((H.push (.cells (ints a) 0 false)).push (.cells (ints b) 0 false)) (.slice (some ⟨H.next, n, 0⟩) n (.known n)) (ints a) ∧ Cel (H.next + 2) ((H.push (.cells (ints a) 0 false)).push (.cells (ints b) 0 false)) (.slice (some ⟨H.next + 1, n, 0⟩) n (.known n)) (ints b) ∧ Ext H.next H ((H.push (.cells (ints a) 0 false)).push (.cells (ints b) 0 false)) := by
  have ra := row_push H (ints a)
  have rb := row_push (H.push (.cells (ints a) 0 false)) (ints b)
  refine ⟨(ra.same (get_push_lt (Nat.lt_succ_self _))).cel (r := .known n) (by rw [ints_len, ha]) (by omega), rb.cel (r := .known n) (by rw [ints_len, hb]) (by rw [push_next]; omega), ⟨by simp only [push_next]; omega, fun c hc => by rw [get_push_lt (by rw [push_next]; omega), get_push_lt hc]⟩⟩
set_option maxRecDepth 100000 in
theorem rlengths_spec (H : AHeap) : ACalls Try.prog natZ 84 [] H fun w H' => ∃ u v, w = .tuple [u, v] ∧ Cel H'.next H' u (ints lenL) ∧ Cel H'.next H' v (ints lenE) ∧ Blk u (H.next ≤ ·) ∧ Blk v (H.next ≤ ·) ∧ Ext H.next H H' := by
  refine acalls_ofN rfl za84 rfl ?_
  obtain ⟨t1, t2, t3⟩ := two_tables (H := H) (a := lenL) (b := lenE) (n := 29) rfl rfl
  have b1 : ∀ (l : List (Nat × Nat × AVal)), aFill (rep [.int .i64 0] 29) l = some (ints lenL) → aBuildSl 29 [.int .i64 0] H l = some (.slice (some ⟨H.next, 29, 0⟩) 29 (.known 29), H.push (.cells (ints lenL) 0 false)) := fun l hl => by simp only [aBuildSl, hl]; rfl
  have b2 : ∀ (l : List (Nat × Nat × AVal)), aFill (rep [.int .i64 0] 29) l = some (ints lenE) → aBuildSl 29 [.int .i64 0] (H.push (.cells (ints lenL) 0 false)) l = some (.slice (some ⟨H.next + 1, 29, 0⟩) 29 (.known 29), (H.push (.cells (ints lenL) 0 false)).push (.cells (ints lenE) 0 false)) := fun l hl => by simp only [aBuildSl, hl]; rfl
  simp only [c84, sA, Int.reduceNegSucc, reduceCtorEq, Nat.reduceEqDiff, ↓reduceIte, Nat.reduceAdd, Int.reduceEq, Int.reduceLT, Int.reduceLE]
  rw [b1 _ rfl]
  simp only [sA, Int.reduceNegSucc, reduceCtorEq, Nat.reduceEqDiff, ↓reduceIte, Nat.reduceAdd, Int.reduceEq, Int.reduceLT, Int.reduceLE]
  rw [b2 _ rfl]
  simp only [sA, Int.reduceNegSucc, reduceCtorEq, Nat.reduceEqDiff, ↓reduceIte, Nat.reduceAdd, Int.reduceEq, Int.reduceLT, Int.reduceLE]
  exact ⟨_, _, by first | trivial | rfl, t1, t2, blk_some (Nat.le_refl _), blk_some (Nat.le_succ _), t3⟩
set_option maxRecDepth 100000 in
theorem rdist_spec (H : AHeap) : ACalls Try.prog natZ 86 [] H fun w H' => ∃ u v, w = .tuple [u, v] ∧ Cel H'.next H' u (ints disL) ∧ Cel H'.next H' v (ints disE) ∧ Blk u (H.next ≤ ·) ∧ Blk v (H.next ≤ ·) ∧ Ext H.next H H' := by
  refine acalls_ofN rfl za86 rfl ?_
  obtain ⟨t1, t2, t3⟩ := two_tables (H := H) (a := disL) (b := disE) (n := 30) rfl rfl
  have b1 : ∀ (l : List (Nat × Nat × AVal)), aFill (rep [.int .i64 0] 30) l = some (ints disL) → aBuildSl 30 [.int .i64 0] H l = some (.slice (some ⟨H.next, 30, 0⟩) 30 (.known 30), H.push (.cells (ints disL) 0 false)) := fun l hl => by simp only [aBuildSl, hl]; rfl
  have b2 : ∀ (l : List (Nat × Nat × AVal)), aFill (rep [.int .i64 0] 30) l = some (ints disE) → aBuildSl 30 [.int .i64 0] (H.push (.cells (ints disL) 0 false)) l = some (.slice (some ⟨H.next + 1, 30, 0⟩) 30 (.known 30), (H.push (.cells (ints disL) 0 false)).push (.cells (ints disE) 0 false)) := fun l hl => by simp only [aBuildSl, hl]; rfl
  simp only [c86, sA, Int.reduceNegSucc, reduceCtorEq, Nat.reduceEqDiff, ↓reduceIte, Nat.reduceAdd, Int.reduceEq, Int.reduceLT, Int.reduceLE]
  rw [b1 _ rfl]
  simp only [sA, Int.reduceNegSucc, reduceCtorEq, Nat.reduceEqDiff, ↓reduceIte, Nat.reduceAdd, Int.reduceEq, Int.reduceLT, Int.reduceLE]
  rw [b2 _ rfl]
  simp only [sA, Int.reduceNegSucc, reduceCtorEq, Nat.reduceEqDiff, ↓reduceIte, Nat.reduceAdd, Int.reduceEq, Int.reduceLT, Int.reduceLE]
  exact ⟨_, _, by first | trivial | rfl, t1, t2, blk_some (Nat.le_refl _), blk_some (Nat.le_succ _), t3⟩
theorem rfind_spec {n : Nat} {H : AHeap} {v : AVal} {l : List Nat} (h : Cel n H v (ints l)) (hl : 0 < l.length) (hl2 : l.length ≤ 1000) (x : Nat) :
    ACalls Try.prog natZ 85 [v, .int .i64 (x : Int)] H fun w H' => w = .int .i64 ((find l x : Nat) : Int) ∧ H = H' := by
  refine acalls_ofN rfl za85 rfl ?_
  have hlen : aLenK false v = some (.int .i64 (l.length : Int)) := by have := h.len; rwa [ints_len] at this
  simp only [c85, sA, Int.reduceNegSucc, reduceCtorEq, Nat.reduceEqDiff, ↓reduceIte, Nat.reduceAdd, Int.reduceEq, Int.reduceLT, Int.reduceLE]
  refine aw_loop (fun q (T : Env) H' => ∃ k : Nat, k < l.length ∧ l.length ≤ k + q ∧ findF l x q k = find l x ∧ T 0 = v ∧ T 1 = .int .i64 (x : Int) ∧ T 5 = .int .i64 (k : Int) ∧ H = H') l.length
    ⟨0, hl, by omega, rfl, by simp only [sA, Int.reduceNegSucc, reduceCtorEq, Nat.reduceEqDiff, ↓reduceIte, Nat.reduceAdd, Int.reduceEq, Int.reduceLT, Int.reduceLE]; try rfl, by simp only [sA, Int.reduceNegSucc, reduceCtorEq, Nat.reduceEqDiff, ↓reduceIte, Nat.reduceAdd, Int.reduceEq, Int.reduceLT, Int.reduceLE]; try rfl, by simp only [sA, Int.reduceNegSucc, reduceCtorEq, Nat.reduceEqDiff, ↓reduceIte, Nat.reduceAdd, Int.reduceEq, Int.reduceLT, Int.reduceLE]; try rfl, rfl⟩ ?_
  rintro q T _ ⟨k, hk, hq, hf, g0, g1, g5, rfl⟩
  cases q with
  | zero => omega
  | succ q =>
  simp only [findF] at hf
  by_cases hlt : k + 1 < l.length
  · have hlt' : ((k + 1 : Nat) : Int) < (l.length : Int) := by omega
    obtain ⟨y, hy⟩ : ∃ y, l[k + 1]? = some y := ⟨_, List.getElem?_eq_getElem hlt⟩
    have hidx := h.idx .i64 (i := k + 1) (by rw [ints_len]; exact hlt)
    have hld := h.load (ints_get hy)
    have hyd : l.getD (k + 1) 0 = y := by rw [List.getD_eq_getElem?_getD, hy]; rfl
    by_cases hle : y ≤ x
    · have hle' : (y : Int) ≤ (x : Int) := by omega
      rw [if_pos ⟨hlt, by rw [hyd]; exact hle⟩] at hf
      simp only [sA, Int.reduceNegSucc, reduceCtorEq, Nat.reduceEqDiff, ↓reduceIte, Nat.reduceAdd, Int.reduceEq, Int.reduceLT, Int.reduceLE, g0, g1, g5, wrap1 k (by omega), hlen, hlt', hidx, hld, hle']
      exact ⟨q, by omega, k + 1, hlt, by omega, hf, (by first | with_reducible rfl | trivial | rfl | assumption), (by first | with_reducible rfl | trivial | rfl | assumption), (by first | with_reducible rfl | trivial | rfl | assumption), (by first | with_reducible rfl | trivial | rfl | assumption)⟩
    · have hle' : ¬ (y : Int) ≤ (x : Int) := by omega
      rw [if_neg (by rw [hyd]; omega)] at hf
      simp only [sA, Int.reduceNegSucc, reduceCtorEq, Nat.reduceEqDiff, ↓reduceIte, Nat.reduceAdd, Int.reduceEq, Int.reduceLT, Int.reduceLE, g0, g1, g5, wrap1 k (by omega), hlen, hlt', hidx, hld, hle']
      exact ⟨by rw [hf], (by first | with_reducible rfl | trivial | rfl | assumption)⟩
  · have hlt' : ¬ ((k + 1 : Nat) : Int) < (l.length : Int) := by omega
    rw [if_neg (fun h => hlt h.1)] at hf
    simp only [sA, Int.reduceNegSucc, reduceCtorEq, Nat.reduceEqDiff, ↓reduceIte, Nat.reduceAdd, Int.reduceEq, Int.reduceLT, Int.reduceLE, g0, g1, g5, wrap1 k (by omega), hlen, hlt']
    exact ⟨by rw [hf], (by first | with_reducible rfl | trivial | rfl | assumption)⟩
theorem rstored_spec {n : Nat} {H : AHeap} {v bv : AVal} {L : List Bool} {t : Nat} {s : Bs} (h : RW H.next H v L t) (hb : Cel n H bv (byts s)) (hn : n ≤ H.next) (last : Nat) (hla : last ≤ 1) (hs : s.length ≤ 60000) (hL : L.length ≤ 1000000) :
    ACalls Try.prog natZ 67 [v, bv, .int .i64 (last : Int)] H fun w H' => RB H v (L ++ storedB L.length s last) t w H' := by
  refine acalls_ofN rfl za67 rfl ?_
  obtain ⟨H1, H2, m1, m2, n1, n2, W, U, E⟩ := ws_start h
  have hlen : aLenK false bv = some (.int .i64 (s.length : Int)) := by have := hb.len; rwa [byts_len] at this
  simp only [c67, sA, Int.reduceNegSucc, reduceCtorEq, Nat.reduceEqDiff, ↓reduceIte, Nat.reduceAdd, Int.reduceEq, Int.reduceLT, Int.reduceLE, m1, m2, W.load]
  refine (rbits_spec W.2.1 last 1 false (by omega) (by omega) (by omega)).mono ?_
  intro w1 H3 R1
  obtain ⟨H4, m4, W4, K4⟩ := W.step R1
  simp only [sA, Int.reduceNegSucc, reduceCtorEq, Nat.reduceEqDiff, ↓reduceIte, Nat.reduceAdd, Int.reduceEq, Int.reduceLT, Int.reduceLE, m4, W4.load]
  refine (rbits_spec W4.2.1 0 2 false (by omega) (by omega) (by simp only [List.length_append, bitsT_len]; omega)).mono ?_
  intro w2 H5 R2
  obtain ⟨H6, m6, W6, K6⟩ := W4.step R2
  simp only [sA, Int.reduceNegSucc, reduceCtorEq, Nat.reduceEqDiff, ↓reduceIte, Nat.reduceAdd, Int.reduceEq, Int.reduceLT, Int.reduceLE, m6, W6.load]
  have l6 : (L ++ bitsT last 1 false ++ bitsT 0 2 false).length = L.length + 3 := by simp only [List.length_append, bitsT_len]
  refine (ralign_spec W6.2.1 (by omega)).mono ?_
  intro w3 H7 R3
  obtain ⟨H8, m8, W8, K8⟩ := W6.step R3
  rw [l6] at W8
  have hf : fillN (L.length + 3) < 8 := by unfold fillN; omega
  simp only [sA, Int.reduceNegSucc, reduceCtorEq, Nat.reduceEqDiff, ↓reduceIte, Nat.reduceAdd, Int.reduceEq, Int.reduceLT, Int.reduceLE, m8, W8.load, hlen]
  refine (rbits_spec W8.2.1 s.length 16 false (by omega) (by omega) (by simp only [List.length_append, bitsT_len, List.length_replicate]; omega)).mono ?_
  intro w4 H9 R4
  obtain ⟨H10, m10, W10, K10⟩ := W8.step R4
  have ws : IntKind.i64.wrap (65535 - (s.length : Int)) = ((65535 - s.length : Nat) : Int) := by rw [wrap64 (by omega) (by omega)]; omega
  simp only [sA, Int.reduceNegSucc, reduceCtorEq, Nat.reduceEqDiff, ↓reduceIte, Nat.reduceAdd, Int.reduceEq, Int.reduceLT, Int.reduceLE, m10, W10.load, hlen, ws]
  refine (rbits_spec W10.2.1 (65535 - s.length) 16 false (by omega) (by omega) (by simp only [List.length_append, bitsT_len, List.length_replicate]; omega)).mono ?_
  intro w5 H11 R5
  obtain ⟨H12, m12, W12, K12⟩ := W10.step R5
  simp only [sA, Int.reduceNegSucc, reduceCtorEq, Nat.reduceEqDiff, ↓reduceIte, Nat.reduceAdd, Int.reduceEq, Int.reduceLT, Int.reduceLE, m12]
  obtain ⟨X, hX⟩ : ∃ X, X = L ++ bitsT last 1 false ++ bitsT 0 2 false ++ List.replicate (fillN (L.length + 3)) false ++ bitsT s.length 16 false ++ bitsT (65535 - s.length) 16 false := ⟨_, rfl⟩
  rw [← hX] at W12
  have hXl : X.length ≤ L.length + 100 := by rw [hX]; simp only [List.length_append, bitsT_len, List.length_replicate]; omega
  have K : Kp (H.next + 2) H.next H2 H12 := K4.trans (K6.trans (K8.trans (K10.trans K12)))
  clear R1 R2 R3 R4 R5 K4 K6 K8 K10 K12 W4 W6 W8 W10
  have hfl : ∀ j, j ≤ s.length → ((s.take j).flatMap fun x => bitsN x.toNat 8).length = 8 * j := by
    intro j hj
    rw [List.length_flatMap]
    have : (s.take j).map (fun x => (bitsN x.toNat 8).length) = List.replicate j 8 := by
      rw [List.eq_replicate_iff]
      refine ⟨by simp; omega, fun b hb => ?_⟩
      rw [List.mem_map] at hb
      obtain ⟨x, _, rfl⟩ := hb
      exact bitsN_len _ _
    rw [this]; simp; omega
  refine aw_loop (fun q (T : Env) H' => ∃ (j : Nat) (w : AVal), j ≤ s.length ∧ q = s.length - j ∧ T 1 = bv ∧ T 3 = cellR H.next 2 0 ∧ T 6 = cellR H1.next 2 0 ∧ T 7 = .int .i64 (j : Int) ∧ WS (H.next + 2) H' H.next v w (X ++ (s.take j).flatMap fun x => bitsN x.toNat 8) t ∧ Kp (H.next + 2) H.next H2 H') s.length
    ⟨0, w5, Nat.zero_le _, rfl, by simp only [sA, Int.reduceNegSucc, reduceCtorEq, Nat.reduceEqDiff, ↓reduceIte, Nat.reduceAdd, Int.reduceEq, Int.reduceLT, Int.reduceLE]; try rfl, by simp only [sA, Int.reduceNegSucc, reduceCtorEq, Nat.reduceEqDiff, ↓reduceIte, Nat.reduceAdd, Int.reduceEq, Int.reduceLT, Int.reduceLE]; try rfl, by simp only [sA, Int.reduceNegSucc, reduceCtorEq, Nat.reduceEqDiff, ↓reduceIte, Nat.reduceAdd, Int.reduceEq, Int.reduceLT, Int.reduceLE]; try rfl, by simp only [sA, Int.reduceNegSucc, reduceCtorEq, Nat.reduceEqDiff, ↓reduceIte, Nat.reduceAdd, Int.reduceEq, Int.reduceLT, Int.reduceLE]; try rfl, by simpa using W12, K⟩ ?_
  rintro q T H' ⟨j, w, hj, rfl, g1, g3, g6, g7, WJ, KJ⟩
  have EJ : Ext H.next H H' := ⟨by have := KJ.1; omega, fun c hc => by rw [KJ.2 c (by omega) (by omega)]; exact E.old c hc⟩
  by_cases hlt : j < s.length
  · have hlt' : (j : Int) < (s.length : Int) := by omega
    obtain ⟨x, hx⟩ : ∃ x, s[j]? = some x := ⟨_, List.getElem?_eq_getElem hlt⟩
    have hb' := hb.ext (EJ.less hn)
    have hidx := hb'.idx .i64 (i := j) (by rw [byts_len]; exact hlt)
    have hld := hb'.load (byts_get hx)
    have hxl := x.toNat_lt
    have wx : IntKind.i64.wrap (x.toNat : Int) = (x.toNat : Int) := wrap64 (by omega) (by omega)
    have := hfl j hj
    simp only [sA, Int.reduceNegSucc, reduceCtorEq, Nat.reduceEqDiff, ↓reduceIte, Nat.reduceAdd, Int.reduceEq, Int.reduceLT, Int.reduceLE, g1, g3, g6, g7, hlen, hlt', WJ.load, hidx, hld, wx]
    refine (rbits_spec WJ.2.1 x.toNat 8 false (by omega) (by omega) (by rw [List.length_append, this]; omega)).mono ?_
    intro w' H3' R'
    obtain ⟨H4', m4', W4', K4'⟩ := WJ.step R'
    simp only [sA, Int.reduceNegSucc, reduceCtorEq, Nat.reduceEqDiff, ↓reduceIte, Nat.reduceAdd, Int.reduceEq, Int.reduceLT, Int.reduceLE, g1, g3, g6, g7, m4', wrap1 j (by omega)]
    refine ⟨_, by omega, j + 1, w', by omega, rfl, (by first | with_reducible rfl | trivial | rfl | assumption), (by first | with_reducible rfl | trivial | rfl | assumption), (by first | with_reducible rfl | trivial | rfl | assumption), (by first | with_reducible rfl | trivial | rfl | assumption), ?_, KJ.trans K4'⟩
    rw [take_snoc hx, List.flatMap_append, ← List.append_assoc]
    simpa [bitsT_f] using W4'
  · have hlt' : ¬ (j : Int) < (s.length : Int) := by omega
    obtain rfl : j = s.length := by omega
    obtain ⟨H3', m3', l3', R3'⟩ := ws_end WJ (U.same (KJ.2 _ (by omega) (by omega))) EJ
    rw [← n1] at m3' l3'
    simp only [sA, Int.reduceNegSucc, reduceCtorEq, Nat.reduceEqDiff, ↓reduceIte, Nat.reduceAdd, Int.reduceEq, Int.reduceLT, Int.reduceLE, g1, g3, g6, g7, hlen, hlt', WJ.load, m3']
    refine fin_1 _ _ _ (by simp only [sA, Int.reduceNegSucc, reduceCtorEq, Nat.reduceEqDiff, ↓reduceIte, Nat.reduceAdd, Int.reduceEq, Int.reduceLT, Int.reduceLE, g6]; exact l3') ?_
    have e : L ++ storedB L.length s last = X ++ (s.take s.length).flatMap fun x => bitsN x.toNat 8 := by
      rw [List.take_length, hX]; simp only [storedB, bitsT_f, List.append_assoc]
    rw [e]; exact R3'
end Go.Proofs.Zt
namespace Go.Proofs.Zt
open Go.Abs Go.Abs.S
set_option linter.unusedSimpArgs false
def tailP : List Nat := [1, 1, 0, 1, 2, 3, 1, 0, 2, 1, 1]
theorem rmatch_tail {T : Env} {H : AHeap} {Q : Post} (p r x1 x2 : Nat) (g8 : T 8 = .int .i64 (x1 : Int)) (g9 : T 9 = .int .i64 (x2 : Int)) (g10 : T 10 = .int .i64 (p : Int)) (g11 : T 11 = .int .i64 (r : Int))
    (hQ : ∀ T2 : Env, T2 8 = .int .i64 (((if x1 < r then (r, p) else (x1, x2)).1 : Nat) : Int) → T2 9 = .int .i64 (((if x1 < r then (r, p) else (x1, x2)).2 : Nat) : Int) → T2 0 = T 0 → T2 1 = T 1 → T2 2 = T 2 → T2 10 = T 10 → Q .normal T2 H) :
    wp (ACalls Try.prog natZ) (hold (restP tailP c87.body)) Q T H := by
  by_cases hc : x1 < r
  · have hc' : (x1 : Int) < (r : Int) := by omega
    simp only [c87, restP, tailP, hold_eq, sA, Int.reduceNegSucc, reduceCtorEq, Nat.reduceEqDiff, ↓reduceIte, Nat.reduceAdd, Int.reduceEq, Int.reduceLT, Int.reduceLE, g8, g9, g10, g11, hc']
    exact hQ _ (by simp only [sA, Int.reduceNegSucc, reduceCtorEq, Nat.reduceEqDiff, ↓reduceIte, Nat.reduceAdd, Int.reduceEq, Int.reduceLT, Int.reduceLE, if_pos hc]) (by simp only [sA, Int.reduceNegSucc, reduceCtorEq, Nat.reduceEqDiff, ↓reduceIte, Nat.reduceAdd, Int.reduceEq, Int.reduceLT, Int.reduceLE, if_pos hc]) (by simp only [sA, Int.reduceNegSucc, reduceCtorEq, Nat.reduceEqDiff, ↓reduceIte, Nat.reduceAdd, Int.reduceEq, Int.reduceLT, Int.reduceLE]) (by simp only [sA, Int.reduceNegSucc, reduceCtorEq, Nat.reduceEqDiff, ↓reduceIte, Nat.reduceAdd, Int.reduceEq, Int.reduceLT, Int.reduceLE]) (by simp only [sA, Int.reduceNegSucc, reduceCtorEq, Nat.reduceEqDiff, ↓reduceIte, Nat.reduceAdd, Int.reduceEq, Int.reduceLT, Int.reduceLE]) (by simp only [sA, Int.reduceNegSucc, reduceCtorEq, Nat.reduceEqDiff, ↓reduceIte, Nat.reduceAdd, Int.reduceEq, Int.reduceLT, Int.reduceLE, g10])
  · have hc' : ¬ (x1 : Int) < (r : Int) := by omega
    simp only [c87, restP, tailP, hold_eq, sA, Int.reduceNegSucc, reduceCtorEq, Nat.reduceEqDiff, ↓reduceIte, Nat.reduceAdd, Int.reduceEq, Int.reduceLT, Int.reduceLE, g8, g9, g10, g11, hc']
    exact hQ _ (by simp only [sA, Int.reduceNegSucc, reduceCtorEq, Nat.reduceEqDiff, ↓reduceIte, Nat.reduceAdd, Int.reduceEq, Int.reduceLT, Int.reduceLE, if_neg hc, g8]) (by simp only [sA, Int.reduceNegSucc, reduceCtorEq, Nat.reduceEqDiff, ↓reduceIte, Nat.reduceAdd, Int.reduceEq, Int.reduceLT, Int.reduceLE, if_neg hc, g9]) (by simp only [sA, Int.reduceNegSucc, reduceCtorEq, Nat.reduceEqDiff, ↓reduceIte, Nat.reduceAdd, Int.reduceEq, Int.reduceLT, Int.reduceLE]) (by simp only [sA, Int.reduceNegSucc, reduceCtorEq, Nat.reduceEqDiff, ↓reduceIte, Nat.reduceAdd, Int.reduceEq, Int.reduceLT, Int.reduceLE]) (by simp only [sA, Int.reduceNegSucc, reduceCtorEq, Nat.reduceEqDiff, ↓reduceIte, Nat.reduceAdd, Int.reduceEq, Int.reduceLT, Int.reduceLE]) (by simp only [sA, Int.reduceNegSucc, reduceCtorEq, Nat.reduceEqDiff, ↓reduceIte, Nat.reduceAdd, Int.reduceEq, Int.reduceLT, Int.reduceLE, g10])
theorem run_step (b : Bs) (p i m j : Nat) (h : j < m) : run b (p + j) (i + j) (m - j) = if b[p + j]? = b[i + j]? then 1 + run b (p + (j + 1)) (i + (j + 1)) (m - (j + 1)) else 0 := by
  rw [show m - j = (m - (j + 1)) + 1 by omega, run]; rfl
theorem rmatch_spec {n : Nat} {H : AHeap} {bv : AVal} {b : Bs} (h : Cel n H bv (byts b)) (i to : Nat) (hi : i < to) (hto : to ≤ b.length) (hb : b.length ≤ 30000) :
    ACalls Try.prog natZ 87 [bv, .int .i64 (i : Int), .int .i64 (to : Int)] H fun w H' => w = .tuple [.int .i64 (((matchF b i to).1 : Nat) : Int), .int .i64 (((matchF b i to).2 : Nat) : Int)] ∧ H = H' := by
  refine acalls_ofN rfl za87 rfl ?_
  refine wp_cutP tailP ?_
  have w1 : IntKind.i64.wrap ((i : Int) - 1) = (i : Int) - 1 := wrap64 (by omega) (by omega)
  have w2 : IntKind.i64.wrap ((i : Int) - 32768) = (i : Int) - 32768 := wrap64 (by omega) (by omega)
  obtain ⟨m, hm⟩ : ∃ m, m = mlen i to := ⟨_, rfl⟩
  have hm' : m = min 258 (to - i) := hm
  simp only [c87, tailP, sC, sA, Int.reduceNegSucc, reduceCtorEq, Nat.reduceEqDiff, ↓reduceIte, Nat.reduceAdd, Int.reduceEq, Int.reduceLT, Int.reduceLE, w1]
  refine aw_loop (fun q (T : Env) H' => ∃ x : Nat × Nat, q ≤ i ∧ T 0 = bv ∧ T 1 = .int .i64 (i : Int) ∧ T 2 = .int .i64 (to : Int) ∧ T 8 = .int .i64 (x.1 : Int) ∧ T 9 = .int .i64 (x.2 : Int) ∧ T 10 = .int .i64 ((q : Int) - 1) ∧ best b i m q x = matchF b i to ∧ H = H') i
    ⟨(0, 0), Nat.le_refl _, by simp only [sA, Int.reduceNegSucc, reduceCtorEq, Nat.reduceEqDiff, ↓reduceIte, Nat.reduceAdd, Int.reduceEq, Int.reduceLT, Int.reduceLE]; try rfl, by simp only [sA, Int.reduceNegSucc, reduceCtorEq, Nat.reduceEqDiff, ↓reduceIte, Nat.reduceAdd, Int.reduceEq, Int.reduceLT, Int.reduceLE]; try rfl, by simp only [sA, Int.reduceNegSucc, reduceCtorEq, Nat.reduceEqDiff, ↓reduceIte, Nat.reduceAdd, Int.reduceEq, Int.reduceLT, Int.reduceLE]; try rfl, by simp only [sA, Int.reduceNegSucc, reduceCtorEq, Nat.reduceEqDiff, ↓reduceIte, Nat.reduceAdd, Int.reduceEq, Int.reduceLT, Int.reduceLE]; try rfl, by simp only [sA, Int.reduceNegSucc, reduceCtorEq, Nat.reduceEqDiff, ↓reduceIte, Nat.reduceAdd, Int.reduceEq, Int.reduceLT, Int.reduceLE]; try rfl, by simp only [sA, Int.reduceNegSucc, reduceCtorEq, Nat.reduceEqDiff, ↓reduceIte, Nat.reduceAdd, Int.reduceEq, Int.reduceLT, Int.reduceLE]; try rfl, by rw [hm]; rfl, rfl⟩ ?_
  rintro q T _ ⟨x, hq, g0, g1, g2, g8, g9, g10, hbest, rfl⟩
  cases q with
  | zero =>
    have hge : ¬ (0 : Int) ≤ ((0 : Nat) : Int) - 1 := by omega
    simp only [sA, Int.reduceNegSucc, reduceCtorEq, Nat.reduceEqDiff, ↓reduceIte, Nat.reduceAdd, Int.reduceEq, Int.reduceLT, Int.reduceLE, g0, g1, g2, g8, g9, g10, hge]
    refine ⟨?_, (by first | with_reducible rfl | trivial | rfl | assumption)⟩
    have e : x = matchF b i to := hbest
    rw [e]
  | succ p =>
    have ep : ((p + 1 : Nat) : Int) - 1 = (p : Int) := by omega
    rw [ep] at g10
    have hge : (0 : Int) ≤ (p : Int) := by omega
    have hge2 : (i : Int) - 32768 ≤ (p : Int) := by omega
    have hpi : p < i := by omega
    have wp1 : IntKind.i64.wrap ((p : Int) - 1) = (p : Int) - 1 := wrap64 (by omega) (by omega)
    simp only [best] at hbest
    simp only [sA, Int.reduceNegSucc, reduceCtorEq, Nat.reduceEqDiff, ↓reduceIte, Nat.reduceAdd, Int.reduceEq, Int.reduceLT, Int.reduceLE, g0, g1, g2, g8, g9, g10, hge, w2, hge2]
    refine aw_loop (fun q (T2 : Env) H' => ∃ j : Nat, j ≤ m ∧ q = m - j ∧ T2 0 = bv ∧ T2 1 = .int .i64 (i : Int) ∧ T2 2 = .int .i64 (to : Int) ∧ T2 8 = .int .i64 (x.1 : Int) ∧ T2 9 = .int .i64 (x.2 : Int) ∧ T2 10 = .int .i64 (p : Int) ∧ T2 11 = .int .i64 (j : Int) ∧ run b p i m = j + run b (p + j) (i + j) (m - j) ∧ H = H') m
      ⟨0, Nat.zero_le _, rfl, by simp only [sA, Int.reduceNegSucc, reduceCtorEq, Nat.reduceEqDiff, ↓reduceIte, Nat.reduceAdd, Int.reduceEq, Int.reduceLT, Int.reduceLE, g0], by simp only [sA, Int.reduceNegSucc, reduceCtorEq, Nat.reduceEqDiff, ↓reduceIte, Nat.reduceAdd, Int.reduceEq, Int.reduceLT, Int.reduceLE, g1], by simp only [sA, Int.reduceNegSucc, reduceCtorEq, Nat.reduceEqDiff, ↓reduceIte, Nat.reduceAdd, Int.reduceEq, Int.reduceLT, Int.reduceLE, g2], by simp only [sA, Int.reduceNegSucc, reduceCtorEq, Nat.reduceEqDiff, ↓reduceIte, Nat.reduceAdd, Int.reduceEq, Int.reduceLT, Int.reduceLE, g8], by simp only [sA, Int.reduceNegSucc, reduceCtorEq, Nat.reduceEqDiff, ↓reduceIte, Nat.reduceAdd, Int.reduceEq, Int.reduceLT, Int.reduceLE, g9], by simp only [sA, Int.reduceNegSucc, reduceCtorEq, Nat.reduceEqDiff, ↓reduceIte, Nat.reduceAdd, Int.reduceEq, Int.reduceLT, Int.reduceLE, g10], by simp only [sA, Int.reduceNegSucc, reduceCtorEq, Nat.reduceEqDiff, ↓reduceIte, Nat.reduceAdd, Int.reduceEq, Int.reduceLT, Int.reduceLE]; try rfl, by simp, rfl⟩ ?_
    rintro q T2 _ ⟨j, hj, rfl, k0, k1, k2, k8, k9, k10, k11, hrun, rfl⟩
    have done : run b p i m = j → ∀ T3 : Env, T3 8 = .int .i64 (x.1 : Int) → T3 9 = .int .i64 (x.2 : Int) → T3 10 = .int .i64 (p : Int) → T3 11 = .int .i64 (j : Int) → T3 0 = bv → T3 1 = .int .i64 (i : Int) → T3 2 = .int .i64 (to : Int) → ∀ Q : Post, (∀ T4 : Env, (∃ x : Nat × Nat, p ≤ i ∧ T4 0 = bv ∧ T4 1 = .int .i64 (i : Int) ∧ T4 2 = .int .i64 (to : Int) ∧ T4 8 = .int .i64 (x.1 : Int) ∧ T4 9 = .int .i64 (x.2 : Int) ∧ T4 10 = .int .i64 (p : Int) ∧ best b i m p x = matchF b i to) → Q .normal T4 H) → wp (ACalls Try.prog natZ) (hold (restP tailP c87.body)) Q T3 H := by
      intro hr T3 q8 q9 q10 q11 q0 q1 q2 Q hQ
      refine rmatch_tail p j x.1 x.2 q8 q9 q10 q11 ?_
      intro T4 r8 r9 r0 r1 r2 r10
      refine hQ T4 ⟨_, by omega, by rw [r0, q0], by rw [r1, q1], by rw [r2, q2], r8, r9, by rw [r10, q10], ?_⟩
      rw [← hbest, hr]
    by_cases hlt : j < m
    · have h1 : (j : Int) < 258 := by omega
      have h2 : ((i + j : Nat) : Int) < (to : Int) := by omega
      obtain ⟨c, hc⟩ : ∃ c, b[p + j]? = some c := ⟨_, List.getElem?_eq_getElem (by omega)⟩
      obtain ⟨d, hd⟩ : ∃ d, b[i + j]? = some d := ⟨_, List.getElem?_eq_getElem (by omega)⟩
      have i1 := h.idx .i64 (i := p + j) (by rw [byts_len]; omega)
      have i2 := h.idx .i64 (i := i + j) (by rw [byts_len]; omega)
      have e1 := h.load (byts_get hc)
      have e2 := h.load (byts_get hd)
      rw [run_step b p i m j hlt, hc, hd] at hrun
      by_cases hcd : c = d
      · subst hcd
        rw [if_pos rfl] at hrun
        simp only [sA, Int.reduceNegSucc, reduceCtorEq, Nat.reduceEqDiff, ↓reduceIte, Nat.reduceAdd, Int.reduceEq, Int.reduceLT, Int.reduceLE, k0, k1, k2, k8, k9, k10, k11, h1, wrapN i j (by omega), wrapN p j (by omega), h2, i1, i2, e1, e2, wrap1 j (by omega)]
        exact ⟨_, by omega, j + 1, by omega, rfl, (by first | with_reducible rfl | trivial | rfl | assumption), (by first | with_reducible rfl | trivial | rfl | assumption), (by first | with_reducible rfl | trivial | rfl | assumption), (by first | with_reducible rfl | trivial | rfl | assumption), (by first | with_reducible rfl | trivial | rfl | assumption), (by first | with_reducible rfl | trivial | rfl | assumption), (by first | with_reducible rfl | trivial | rfl | assumption), by rw [hrun]; omega, (by first | with_reducible rfl | trivial | rfl | assumption)⟩
      · have hne : ¬ (c.toNat : Int) = (d.toNat : Int) := fun e => hcd (UInt8.toNat_inj.1 (by omega))
        rw [if_neg (by simpa using hcd)] at hrun
        simp only [sA, Int.reduceNegSucc, reduceCtorEq, Nat.reduceEqDiff, ↓reduceIte, Nat.reduceAdd, Int.reduceEq, Int.reduceLT, Int.reduceLE, k0, k1, k2, k8, k9, k10, k11, h1, wrapN i j (by omega), wrapN p j (by omega), h2, i1, i2, e1, e2, hne]
        refine done (by omega) _ (by simp only [sA, Int.reduceNegSucc, reduceCtorEq, Nat.reduceEqDiff, ↓reduceIte, Nat.reduceAdd, Int.reduceEq, Int.reduceLT, Int.reduceLE, k8]) (by simp only [sA, Int.reduceNegSucc, reduceCtorEq, Nat.reduceEqDiff, ↓reduceIte, Nat.reduceAdd, Int.reduceEq, Int.reduceLT, Int.reduceLE, k9]) (by simp only [sA, Int.reduceNegSucc, reduceCtorEq, Nat.reduceEqDiff, ↓reduceIte, Nat.reduceAdd, Int.reduceEq, Int.reduceLT, Int.reduceLE, k10]) (by simp only [sA, Int.reduceNegSucc, reduceCtorEq, Nat.reduceEqDiff, ↓reduceIte, Nat.reduceAdd, Int.reduceEq, Int.reduceLT, Int.reduceLE, k11]) (by simp only [sA, Int.reduceNegSucc, reduceCtorEq, Nat.reduceEqDiff, ↓reduceIte, Nat.reduceAdd, Int.reduceEq, Int.reduceLT, Int.reduceLE, k0]) (by simp only [sA, Int.reduceNegSucc, reduceCtorEq, Nat.reduceEqDiff, ↓reduceIte, Nat.reduceAdd, Int.reduceEq, Int.reduceLT, Int.reduceLE, k1]) (by simp only [sA, Int.reduceNegSucc, reduceCtorEq, Nat.reduceEqDiff, ↓reduceIte, Nat.reduceAdd, Int.reduceEq, Int.reduceLT, Int.reduceLE, k2]) _ ?_
        rintro T4 ⟨x', f1, f2, f3, f4, f5, f6, f7, f8⟩
        simp only [sA, Int.reduceNegSucc, reduceCtorEq, Nat.reduceEqDiff, ↓reduceIte, Nat.reduceAdd, Int.reduceEq, Int.reduceLT, Int.reduceLE, f2, f3, f4, f5, f6, f7, wp1]
        exact ⟨p, by omega, x', by omega, (by first | with_reducible rfl | trivial | rfl | assumption), (by first | with_reducible rfl | trivial | rfl | assumption), (by first | with_reducible rfl | trivial | rfl | assumption), (by first | with_reducible rfl | trivial | rfl | assumption), (by first | with_reducible rfl | trivial | rfl | assumption), (by first | with_reducible rfl | trivial | rfl | assumption), f8, (by first | with_reducible rfl | trivial | rfl | assumption)⟩
    · have hjm : j = m := by omega
      have hrun' : run b p i m = j := by rw [hrun, hjm, Nat.sub_self, run]; rfl
      by_cases h258 : j < 258
      · have h1 : (j : Int) < 258 := by omega
        have h2 : ¬ ((i + j : Nat) : Int) < (to : Int) := by omega
        simp only [sA, Int.reduceNegSucc, reduceCtorEq, Nat.reduceEqDiff, ↓reduceIte, Nat.reduceAdd, Int.reduceEq, Int.reduceLT, Int.reduceLE, k0, k1, k2, k8, k9, k10, k11, h1, wrapN i j (by omega), h2]
        refine done hrun' _ (by simp only [sA, Int.reduceNegSucc, reduceCtorEq, Nat.reduceEqDiff, ↓reduceIte, Nat.reduceAdd, Int.reduceEq, Int.reduceLT, Int.reduceLE, k8]) (by simp only [sA, Int.reduceNegSucc, reduceCtorEq, Nat.reduceEqDiff, ↓reduceIte, Nat.reduceAdd, Int.reduceEq, Int.reduceLT, Int.reduceLE, k9]) (by simp only [sA, Int.reduceNegSucc, reduceCtorEq, Nat.reduceEqDiff, ↓reduceIte, Nat.reduceAdd, Int.reduceEq, Int.reduceLT, Int.reduceLE, k10]) (by simp only [sA, Int.reduceNegSucc, reduceCtorEq, Nat.reduceEqDiff, ↓reduceIte, Nat.reduceAdd, Int.reduceEq, Int.reduceLT, Int.reduceLE, k11]) (by simp only [sA, Int.reduceNegSucc, reduceCtorEq, Nat.reduceEqDiff, ↓reduceIte, Nat.reduceAdd, Int.reduceEq, Int.reduceLT, Int.reduceLE, k0]) (by simp only [sA, Int.reduceNegSucc, reduceCtorEq, Nat.reduceEqDiff, ↓reduceIte, Nat.reduceAdd, Int.reduceEq, Int.reduceLT, Int.reduceLE, k1]) (by simp only [sA, Int.reduceNegSucc, reduceCtorEq, Nat.reduceEqDiff, ↓reduceIte, Nat.reduceAdd, Int.reduceEq, Int.reduceLT, Int.reduceLE, k2]) _ ?_
        rintro T4 ⟨x', f1, f2, f3, f4, f5, f6, f7, f8⟩
        simp only [sA, Int.reduceNegSucc, reduceCtorEq, Nat.reduceEqDiff, ↓reduceIte, Nat.reduceAdd, Int.reduceEq, Int.reduceLT, Int.reduceLE, f2, f3, f4, f5, f6, f7, wp1]
        exact ⟨p, by omega, x', by omega, (by first | with_reducible rfl | trivial | rfl | assumption), (by first | with_reducible rfl | trivial | rfl | assumption), (by first | with_reducible rfl | trivial | rfl | assumption), (by first | with_reducible rfl | trivial | rfl | assumption), (by first | with_reducible rfl | trivial | rfl | assumption), (by first | with_reducible rfl | trivial | rfl | assumption), f8, (by first | with_reducible rfl | trivial | rfl | assumption)⟩
      · have h1 : ¬ (j : Int) < 258 := by omega
        simp only [sA, Int.reduceNegSucc, reduceCtorEq, Nat.reduceEqDiff, ↓reduceIte, Nat.reduceAdd, Int.reduceEq, Int.reduceLT, Int.reduceLE, k0, k1, k2, k8, k9, k10, k11, h1]
        refine done hrun' _ (by simp only [sA, Int.reduceNegSucc, reduceCtorEq, Nat.reduceEqDiff, ↓reduceIte, Nat.reduceAdd, Int.reduceEq, Int.reduceLT, Int.reduceLE, k8]) (by simp only [sA, Int.reduceNegSucc, reduceCtorEq, Nat.reduceEqDiff, ↓reduceIte, Nat.reduceAdd, Int.reduceEq, Int.reduceLT, Int.reduceLE, k9]) (by simp only [sA, Int.reduceNegSucc, reduceCtorEq, Nat.reduceEqDiff, ↓reduceIte, Nat.reduceAdd, Int.reduceEq, Int.reduceLT, Int.reduceLE, k10]) (by simp only [sA, Int.reduceNegSucc, reduceCtorEq, Nat.reduceEqDiff, ↓reduceIte, Nat.reduceAdd, Int.reduceEq, Int.reduceLT, Int.reduceLE, k11]) (by simp only [sA, Int.reduceNegSucc, reduceCtorEq, Nat.reduceEqDiff, ↓reduceIte, Nat.reduceAdd, Int.reduceEq, Int.reduceLT, Int.reduceLE, k0]) (by simp only [sA, Int.reduceNegSucc, reduceCtorEq, Nat.reduceEqDiff, ↓reduceIte, Nat.reduceAdd, Int.reduceEq, Int.reduceLT, Int.reduceLE, k1]) (by simp only [sA, Int.reduceNegSucc, reduceCtorEq, Nat.reduceEqDiff, ↓reduceIte, Nat.reduceAdd, Int.reduceEq, Int.reduceLT, Int.reduceLE, k2]) _ ?_
        rintro T4 ⟨x', f1, f2, f3, f4, f5, f6, f7, f8⟩
        simp only [sA, Int.reduceNegSucc, reduceCtorEq, Nat.reduceEqDiff, ↓reduceIte, Nat.reduceAdd, Int.reduceEq, Int.reduceLT, Int.reduceLE, f2, f3, f4, f5, f6, f7, wp1]
        exact ⟨p, by omega, x', by omega, (by first | with_reducible rfl | trivial | rfl | assumption), (by first | with_reducible rfl | trivial | rfl | assumption), (by first | with_reducible rfl | trivial | rfl | assumption), (by first | with_reducible rfl | trivial | rfl | assumption), (by first | with_reducible rfl | trivial | rfl | assumption), (by first | with_reducible rfl | trivial | rfl | assumption), f8, (by first | with_reducible rfl | trivial | rfl | assumption)⟩
def tkC (t : Tok) : List AVal := [.int .i64 (t.n : Int), .int .i64 (t.back : Int), .int .u8 (t.b.toNat : Int)]
def tks (l : List Tok) : List AVal := l.flatMap tkC
theorem tks_append (a b : List Tok) : tks (a ++ b) = tks a ++ tks b := by simp [tks]
theorem tks_len (l : List Tok) : (tks l).length = l.length * 3 := by
  induction l with
  | nil => rfl
  | cons f r ih =>
    have : tks (f :: r) = tkC f ++ tks r := by simp [tks]
    rw [this, List.length_append, ih, List.length_cons]; simp [tkC]; omega
def tokOk (t : Tok) : Prop := t.back = 0 ∨ (3 ≤ t.n ∧ t.n ≤ 258 ∧ 1 ≤ t.back ∧ t.back ≤ 600)
theorem match_ok (b : Bs) (i to : Nat) (h : 3 ≤ (matchF b i to).1) : (matchF b i to).2 < i ∧ (matchF b i to).1 ≤ 258 ∧ i + (matchF b i to).1 ≤ to := by
  have hs := best_spec b i (mlen i to) i (0, 0) (Nat.le_refl _) (.inl rfl)
  rcases hs with hs | ⟨h1, h2⟩
  · have : (matchF b i to).1 = 0 := hs
    omega
  · have h2' : (matchF b i to).1 = run b (matchF b i to).2 i (mlen i to) := h2
    have hl := run_le b (matchF b i to).2 i (mlen i to)
    have hm : mlen i to = min 258 (to - i) := rfl
    refine ⟨h1, by omega, by omega⟩
theorem toks_ok (b : Bs) (to : Nat) (hto : to ≤ 600) : ∀ (f i : Nat), ∀ t ∈ toksF b to f i, tokOk t
  | 0, i, t, ht => by simp [toksF] at ht
  | f + 1, i, t, ht => by
    unfold toksF at ht
    split at ht
    · rename_i hi
      split at ht
      · rename_i hm
        obtain ⟨h1, h2, h3⟩ := match_ok b i to hm
        rcases List.mem_cons.1 ht with rfl | ht
        · exact .inr ⟨hm, h2, by simp only; omega, by simp only; omega⟩
        · exact toks_ok b to hto f _ t ht
      · rcases List.mem_cons.1 ht with rfl | ht
        · exact .inl rfl
        · exact toks_ok b to hto f _ t ht
    · simp at ht
theorem toks_length (b : Bs) (to : Nat) : ∀ (f i : Nat), (toksF b to f i).length ≤ f
  | 0, i => by simp [toksF]
  | f + 1, i => by
    unfold toksF
    split
    · split
      · have := toks_length b to f (i + (matchF b i to).1); simp only [List.length_cons]; omega
      · have := toks_length b to f (i + 1); simp only [List.length_cons]; omega
    · simp
theorem buildT1 (a c : Int) : aBuild [.int .i64 0, .int .i64 0, .int .u8 0] [(0, 1, .int .i64 a), (1, 1, .int .i64 c)] = some (.agg [.int .i64 a, .int .i64 c, .int .u8 0]) := _root_.id rfl
theorem buildT2 (a : Int) : aBuild [.int .i64 0, .int .i64 0, .int .u8 0] [(2, 1, .int .u8 a)] = some (.agg [.int .i64 0, .int .i64 0, .int .u8 a]) := _root_.id rfl
theorem buildT (H : AHeap) (a c d : Int) : aBuildSl 1 [.int .i64 0, .int .i64 0, .int .u8 0] H [(0, 3, .agg [.int .i64 a, .int .i64 c, .int .u8 d])] = some (.slice (some ⟨H.next, 3, 0⟩) 1 (.known 1), H.push (.cells [.int .i64 a, .int .i64 c, .int .u8 d] 0 false)) := _root_.id rfl
def TL (H : AHeap) (v : AVal) (l : List Tok) : Prop := LinM 3 H v (tks l) l.length
theorem TL.add {H : AHeap} {v : AVal} {l : List Tok} (h : TL H v l) (t : Tok) (hl : l.length ≤ 1000000) :
    ∃ w H', aAppend 3 24 (H.push (.cells (tkC t) 0 false)) v (.slice (some ⟨H.next, 3, 0⟩) 1 (.known 1)) = some (w, H') ∧ TL H' w (l ++ [t]) ∧ Stp v H w H' := by
  obtain ⟨w, H', a1, a2, a3, a4, a5⟩ := LinM.add h (xs := tkC t) (j := 1) rfl rfl (by omega) (bytes := 24) (by omega) (by omega)
  refine ⟨w, H', a1, ?_, a3, a4, a5⟩
  show LinM 3 H' w (tks (l ++ [t])) (l ++ [t]).length
  rw [tks_append, List.length_append]
  have e : tks [t] = tkC t := by simp [tks]
  rw [e]; exact a2
theorem rtokens_spec {n : Nat} {H : AHeap} {bv : AVal} {b : Bs} (h : Cel n H bv (byts b)) (hn : n ≤ H.next) (fr to : Nat) (hf : fr ≤ to) (hto : to ≤ b.length) (hb : b.length ≤ 30000) :
    ACalls Try.prog natZ 69 [bv, .int .i64 (fr : Int), .int .i64 (to : Int)] H fun w H' => TL H' w (toks b fr to) ∧ Blk w (H.next ≤ ·) ∧ Ext H.next H H' := by
  refine acalls_ofN rfl za69 rfl ?_
  simp only [c69, sA, Int.reduceNegSucc, reduceCtorEq, Nat.reduceEqDiff, ↓reduceIte, Nat.reduceAdd, Int.reduceEq, Int.reduceLT, Int.reduceLE]
  refine aw_loop (fun q (T : Env) H' => ∃ (i : Nat) (acc : List Tok), i ≤ to ∧ to - i ≤ q ∧ acc ++ toksF b to q i = toks b fr to ∧ acc.length ≤ 30000 ∧ acc.length + q ≤ to - fr ∧ T 0 = bv ∧ T 2 = .int .i64 (to : Int) ∧ T 8 = .int .i64 (i : Int) ∧ TL H' (T 7) acc ∧ Blk (T 7) (H.next ≤ ·) ∧ Ext H.next H H') (to - fr)
    ⟨fr, [], hf, Nat.le_refl _, rfl, by simp, by simp, by simp only [sA, Int.reduceNegSucc, reduceCtorEq, Nat.reduceEqDiff, ↓reduceIte, Nat.reduceAdd, Int.reduceEq, Int.reduceLT, Int.reduceLE]; try rfl, by simp only [sA, Int.reduceNegSucc, reduceCtorEq, Nat.reduceEqDiff, ↓reduceIte, Nat.reduceAdd, Int.reduceEq, Int.reduceLT, Int.reduceLE]; try rfl, by simp only [sA, Int.reduceNegSucc, reduceCtorEq, Nat.reduceEqDiff, ↓reduceIte, Nat.reduceAdd, Int.reduceEq, Int.reduceLT, Int.reduceLE]; try rfl, by simp only [sA, Int.reduceNegSucc, reduceCtorEq, Nat.reduceEqDiff, ↓reduceIte, Nat.reduceAdd, Int.reduceEq, Int.reduceLT, Int.reduceLE]; exact .inl ⟨rfl, rfl, rfl⟩, by simp only [sA, Int.reduceNegSucc, reduceCtorEq, Nat.reduceEqDiff, ↓reduceIte, Nat.reduceAdd, Int.reduceEq, Int.reduceLT, Int.reduceLE]; exact blk_nil _, Ext.refl _ _⟩ ?_
  rintro q T H' ⟨i, acc, hi, hq, hacc, hal, haq, g0, g2, g8, hT, hB, E⟩
  by_cases hlt : i < to
  · have hlt' : (i : Int) < (to : Int) := by omega
    cases q with
    | zero => omega
    | succ q =>
    simp only [toksF, if_pos hlt] at hacc
    simp only [sA, Int.reduceNegSucc, reduceCtorEq, Nat.reduceEqDiff, ↓reduceIte, Nat.reduceAdd, Int.reduceEq, Int.reduceLT, Int.reduceLE, g0, g2, g8, hlt']
    refine (rmatch_spec (h.ext (E.less hn)) i to hlt hto hb).mono ?_
    rintro w _ ⟨rfl, rfl⟩
    have en := E.next
    by_cases h3 : 3 ≤ (matchF b i to).1
    · have h3' : (3 : Int) ≤ (((matchF b i to).1 : Nat) : Int) := by omega
      obtain ⟨m1, m2, m3⟩ := match_ok b i to h3
      rw [if_pos h3] at hacc
      generalize (matchF b i to).1 = ln at *
      generalize (matchF b i to).2 = at_ at *
      have ws : IntKind.i64.wrap ((i : Int) - (at_ : Int)) = ((i - at_ : Nat) : Int) := by rw [wrap64 (by omega) (by omega)]; omega
      obtain ⟨w, H2, a1, a2, S2⟩ := hT.add ⟨ln, i - at_, 0⟩ (by omega)
      have a1' : aAppend 3 24 (H'.push (.cells [.int .i64 (ln : Int), .int .i64 ((i - at_ : Nat) : Int), .int .u8 0] 0 false)) (T 7) (.slice (some ⟨H'.next, 3, 0⟩) 1 (.known 1)) = some (w, H2) := a1
      simp only [sA, Int.reduceNegSucc, reduceCtorEq, Nat.reduceEqDiff, ↓reduceIte, Nat.reduceAdd, Int.reduceEq, Int.reduceLT, Int.reduceLE, ext_0, ext_1, g0, g2, g8, h3', ws, buildT1, buildT, a1', wrapN i ln (by omega)]
      exact ⟨q, by omega, i + ln, acc ++ [⟨ln, i - at_, 0⟩], by omega, by omega, by rw [← hacc]; simp, by simp; omega, by simp; omega, (by first | with_reducible rfl | trivial | rfl | assumption), (by first | with_reducible rfl | trivial | rfl | assumption), (by first | with_reducible rfl | trivial | rfl | assumption), a2, (S2.2.1 _ hB).mono fun b hb => by omega, E.trans ⟨S2.1, fun c hc => S2.2.2 c (by omega) (hB.mono fun b hb => by omega)⟩⟩
    · have h3' : ¬ (3 : Int) ≤ (((matchF b i to).1 : Nat) : Int) := by omega
      rw [if_neg h3] at hacc
      obtain ⟨c, hc⟩ : ∃ c, b[i]? = some c := ⟨_, List.getElem?_eq_getElem (by omega)⟩
      have hcd : b.getD i 0 = c := by rw [List.getD_eq_getElem?_getD, hc]; rfl
      rw [hcd] at hacc
      have h' := h.ext (E.less hn)
      have hidx := h'.idx .i64 (i := i) (by rw [byts_len]; omega)
      have hld := h'.load (byts_get hc)
      obtain ⟨w, H2, a1, a2, S2⟩ := hT.add ⟨0, 0, c⟩ (by omega)
      have a1' : aAppend 3 24 (H'.push (.cells [.int .i64 0, .int .i64 0, .int .u8 (c.toNat : Int)] 0 false)) (T 7) (.slice (some ⟨H'.next, 3, 0⟩) 1 (.known 1)) = some (w, H2) := a1
      simp only [sA, Int.reduceNegSucc, reduceCtorEq, Nat.reduceEqDiff, ↓reduceIte, Nat.reduceAdd, Int.reduceEq, Int.reduceLT, Int.reduceLE, ext_0, ext_1, g0, g2, g8, h3', hidx, hld, buildT2, buildT, a1', wrap1 i (by omega)]
      exact ⟨q, by omega, i + 1, acc ++ [⟨0, 0, c⟩], by omega, by omega, by rw [← hacc]; simp, by simp; omega, by simp; omega, (by first | with_reducible rfl | trivial | rfl | assumption), (by first | with_reducible rfl | trivial | rfl | assumption), (by first | with_reducible rfl | trivial | rfl | assumption), a2, (S2.2.1 _ hB).mono fun b hb => by omega, E.trans ⟨S2.1, fun c hc => S2.2.2 c (by omega) (hB.mono fun b hb => by omega)⟩⟩
  · have hlt' : ¬ (i : Int) < (to : Int) := by omega
    have he : toksF b to q i = [] := by
      cases q with
      | zero => rfl
      | succ q => simp only [toksF, if_neg hlt]
    rw [he, List.append_nil] at hacc
    simp only [sA, Int.reduceNegSucc, reduceCtorEq, Nat.reduceEqDiff, ↓reduceIte, Nat.reduceAdd, Int.reduceEq, Int.reduceLT, Int.reduceLE, g0, g2, g8, hlt']
    rw [← hacc]
    exact ⟨hT, hB, E⟩
end Go.Proofs.Zt
namespace Go.Proofs.Zt
open Go.Abs Go.Abs.S
set_option linter.unusedSimpArgs false
theorem WS.step2 {n0 : Nat} {H : AHeap} {q : Nat} {v w : AVal} {L L' : List Bool} {t : Nat} (h : WS n0 H q v w L t) {w' : AVal} {H' : AHeap} (k : RB H w L' t w' H') :
    ∃ H2, oStore 2 H' (cellR q 2 0) w' = some H2 ∧ WS n0 H2 q v w' L' t ∧ Kp n0 q H H2 ∧ Kp H.next q H H2 := by
  obtain ⟨h1, h2, h3, h4, h5, h6⟩ := h
  obtain ⟨k1, k2, k3⟩ := k
  have n3 := k3.next
  have hb : ∀ P, VB v P → VB w' fun b => P b ∨ n0 ≤ b := fun P hP => (k2 _ (h3 P hP)).mono fun b hb => by
    rcases hb with hb | hb
    · exact hb
    · exact .inr (by omega)
  obtain ⟨H2, m, q1, q2, q3, q4⟩ := rw_store k1 (h1.same (k3.old _ (by omega))) ((hb _ h4).mono fun b hb => by omega)
  exact ⟨H2, m, ⟨q1, q2, hb, h4, h5, by omega⟩, ⟨by omega, fun c h1 h2 => by rw [q4 c h2, k3.old c (by omega)]⟩, ⟨by omega, fun c h1 h2 => by rw [q4 c h2, k3.old c (by omega)]⟩⟩
theorem cel_kp {H H2 : AHeap} {u : AVal} {l : List AVal} {q : Nat} (h : Cel H.next H u l) (k : Kp H.next q H H2) (hb : Blk u (· ≠ q)) : Cel H2.next H2 u l :=
  cel_same h k.1 ((hb.and (cel_blk h)).mono fun b hb => k.2 b hb.2 hb.1)
theorem kp_ext {n0 q : Nat} {H H' : AHeap} (e : Ext H.next H H') (h : n0 ≤ H.next) : Kp n0 q H H' := ⟨e.next, fun c h1 _ => e.old c (by omega)⟩
theorem LinM.fld {m k : Nat} {H : AHeap} {s : AVal} {L : List AVal} (h : LinM m H s L k) {i : Nat} (hi : i < k) : ∃ b lim, aIdxA m s (.int .i64 (i : Int)) = some (cellR b lim (i * m)) ∧ ∀ o x, o < m → L[i * m + o]? = some x → oLoad false 1 H (cellR b lim (i * m + o)) = some x := by
  have him : i * m + m ≤ k * m := by
    have : (i + 1) * m ≤ k * m := Nat.mul_le_mul_right _ hi
    rwa [Nat.add_mul, Nat.one_mul] at this
  have hb : Nat.blt i k = true := by simpa [Nat.blt_eq] using hi
  rcases h with ⟨_, _, h⟩ | ⟨b, C, low, r, rfl, h2, h3, h4, h5, h6, h7, h8⟩
  · omega
  · refine ⟨b, C.length, ?_, ?_⟩
    · rcases h2 with rfl | ⟨cap, rfl, _⟩
      · exact idxM .i64 hi
      · show (bif Nat.blt i k then some (AVal.ptr (some ⟨b, C.length, 0 + i * m⟩)) else none) = _
        rw [hb, Nat.zero_add]; rfl
    · intro o x ho hx
      refine row_load ⟨low, h3, h4⟩ rfl ?_
      rw [← h5, List.getElem?_take_of_lt (by omega)] at hx
      exact hx
theorem tks_get {l : List Tok} {i : Nat} {t : Tok} (h : l[i]? = some t) : (tks l)[i * 3]? = some (.int .i64 (t.n : Int)) ∧ (tks l)[i * 3 + 1]? = some (.int .i64 (t.back : Int)) ∧ (tks l)[i * 3 + 2]? = some (.int .u8 (t.b.toNat : Int)) := by
  have hi := (List.getElem?_eq_some_iff.1 h).1
  have e : l = l.take i ++ t :: l.drop (i + 1) := by
    have h2 : l[i] = t := by rw [List.getElem?_eq_getElem hi] at h; exact Option.some.inj h
    conv => lhs; rw [← List.take_append_drop i l]
    rw [← List.getElem_cons_drop (h := hi), h2]
  have e2 : tks l = tks (l.take i) ++ (tkC t ++ tks (l.drop (i + 1))) := by
    conv => lhs; rw [e]
    rw [tks_append]
    simp [tks]
  have hl : (tks (l.take i)).length = i * 3 := by rw [tks_len, List.length_take, Nat.min_eq_left (by omega)]
  rw [e2]
  refine ⟨?_, ?_, ?_⟩
  · rw [List.getElem?_append_right (by omega), hl, Nat.sub_self]; rfl
  · rw [List.getElem?_append_right (by omega), hl, show i * 3 + 1 - i * 3 = 1 by omega]; rfl
  · rw [List.getElem?_append_right (by omega), hl, show i * 3 + 2 - i * 3 = 2 by omega]; rfl
theorem TL.at {H : AHeap} {v : AVal} {l : List Tok} (h : TL H v l) {i : Nat} {t : Tok} (ht : l[i]? = some t) : ∃ b lim, aIdxA 3 v (.int .i64 (i : Int)) = some (cellR b lim (i * 3)) ∧ oLoad false 1 H (cellR b lim (i * 3)) = some (.int .i64 (t.n : Int)) ∧ oLoad false 1 H (cellR b lim (i * 3 + 0)) = some (.int .i64 (t.n : Int)) ∧ oLoad false 1 H (cellR b lim (i * 3 + 1)) = some (.int .i64 (t.back : Int)) ∧ oLoad false 1 H (cellR b lim (i * 3 + 2)) = some (.int .u8 (t.b.toNat : Int)) := by
  obtain ⟨b, lim, h1, h2⟩ := LinM.fld h (List.getElem?_eq_some_iff.1 ht).1
  obtain ⟨g1, g2, g3⟩ := tks_get ht
  exact ⟨b, lim, h1, h2 0 _ (by omega) g1, h2 0 _ (by omega) g1, h2 1 _ (by omega) g2, h2 2 _ (by omega) g3⟩
theorem getD_le {l : List Nat} {m : Nat} (h : ∀ x ∈ l, x ≤ m) (k : Nat) : l.getD k 0 ≤ m := by
  rw [List.getD_eq_getElem?_getD]
  cases e : l[k]? with
  | none => exact Nat.zero_le _
  | some x => exact h x (List.mem_of_getElem? e)
theorem lenE_le (k : Nat) : lenE.getD k 0 ≤ 5 := getD_le (by decide) k
theorem disE_le (k : Nat) : disE.getD k 0 ≤ 13 := getD_le (by decide) k
theorem fixB_len (s : Nat) : (fixB s).length ≤ 9 := by
  unfold fixB codeF
  rw [List.length_reverse, bitsN_len]
  split
  · simp
  · split
    · simp
    · split <;> simp
theorem tokB_len (t : Tok) : (tokB t).length ≤ 64 := by
  unfold tokB
  split
  · have := fixB_len t.b.toNat; omega
  · unfold lenB disB
    have h1 := fixB_len (257 + find lenL t.n)
    have h2 := lenE_le (find lenL t.n)
    have h3 := disE_le (find disL t.back)
    simp only [List.length_append, bitsN_len, List.length_reverse]
    omega
theorem tokBs_len (l : List Tok) : (l.flatMap tokB).length ≤ 64 * l.length := by
  induction l with
  | nil => simp
  | cons t r ih =>
    have := tokB_len t
    simp only [List.flatMap_cons, List.length_append, List.length_cons]; omega
theorem find_len {n : Nat} (h1 : 3 ≤ n) (h2 : n ≤ 258) : find lenL n ≤ 28 ∧ lenL.getD (find lenL n) 0 ≤ n := by
  have h : (List.range 259).all (fun n => Nat.blt n 3 || (decide (find lenL n ≤ 28) && decide (lenL.getD (find lenL n) 0 ≤ n))) = true := by decide +kernel
  have := all_range h (show n < 259 by omega)
  have h3 : Nat.blt n 3 = false := by rw [Bool.eq_false_iff]; intro h; rw [Nat.blt_eq] at h; omega
  simp only [h3, Bool.false_or, Bool.and_eq_true, decide_eq_true_eq] at this
  exact this
theorem find_dis {n : Nat} (h1 : 1 ≤ n) (h2 : n ≤ 600) : find disL n ≤ 29 ∧ disL.getD (find disL n) 0 ≤ n := by
  have h : (List.range 601).all (fun n => Nat.blt n 1 || (decide (find disL n ≤ 29) && decide (disL.getD (find disL n) 0 ≤ n))) = true := by decide +kernel
  have := all_range h (show n < 601 by omega)
  have h3 : Nat.blt n 1 = false := by rw [Bool.eq_false_iff]; intro h; rw [Nat.blt_eq] at h; omega
  simp only [h3, Bool.false_or, Bool.and_eq_true, decide_eq_true_eq] at this
  exact this
theorem tab_at {n : Nat} {H : AHeap} {u : AVal} {l : List Nat} (h : Cel n H u (ints l)) {k : Nat} (hk : k < l.length) : aIdxA 1 u (.int .i64 (k : Int)) = some (cellP u k) ∧ oLoad false 1 H (cellP u k) = some (.int .i64 ((l.getD k 0 : Nat) : Int)) := by
  have e : l[k]? = some (l.getD k 0) := by rw [List.getD_eq_getElem?_getD, List.getElem?_eq_getElem hk]; rfl
  exact ⟨h.idx .i64 (by rw [ints_len]; exact hk), h.load (ints_get e)⟩
theorem rfixedb_spec {H : AHeap} {v tv : AVal} {L : List Bool} {t : Nat} {l : List Tok} (h : RW H.next H v L t) (hT : TL H tv l) (hok : ∀ t ∈ l, tokOk t) (last : Nat) (hla : last ≤ 1) (hl : l.length ≤ 60000) (hL : L.length ≤ 1000000) :
    ACalls Try.prog natZ 68 [v, tv, .int .i64 (last : Int)] H fun w H' => RB H v (L ++ fixedB l last) t w H' := by
  refine acalls_ofN rfl za68 rfl ?_
  obtain ⟨H1, H2, m1, m2, n1, n2, W, U, E⟩ := ws_start h
  have hlen : aLenK false tv = some (.int .i64 (l.length : Int)) := LinM.len hT
  simp only [c68, sA, Int.reduceNegSucc, reduceCtorEq, Nat.reduceEqDiff, ↓reduceIte, Nat.reduceAdd, Int.reduceEq, Int.reduceLT, Int.reduceLE, m1, m2, W.load]
  refine (rbits_spec W.2.1 last 1 false (by omega) (by omega) (by omega)).mono ?_
  intro w1 H3 R1
  obtain ⟨H4, m4, W4, K4⟩ := W.step R1
  simp only [sA, Int.reduceNegSucc, reduceCtorEq, Nat.reduceEqDiff, ↓reduceIte, Nat.reduceAdd, Int.reduceEq, Int.reduceLT, Int.reduceLE, m4, W4.load]
  refine (rbits_spec W4.2.1 1 2 false (by omega) (by omega) (by simp only [List.length_append, bitsT_len]; omega)).mono ?_
  intro w2 H5 R2
  obtain ⟨H6, m6, W6, K6⟩ := W4.step R2
  simp only [sA, Int.reduceNegSucc, reduceCtorEq, Nat.reduceEqDiff, ↓reduceIte, Nat.reduceAdd, Int.reduceEq, Int.reduceLT, Int.reduceLE, m6]
  obtain ⟨X, hX⟩ : ∃ X, X = L ++ bitsT last 1 false ++ bitsT 1 2 false := ⟨_, rfl⟩
  rw [← hX] at W6
  have hXl : X.length = L.length + 3 := by rw [hX]; simp only [List.length_append, bitsT_len]
  have K : Kp (H.next + 2) H.next H2 H6 := K4.trans K6
  clear R1 R2 K4 K6 W4
  refine aw_loop (fun q (T : Env) H' => ∃ (j : Nat) (w : AVal), j ≤ l.length ∧ q = l.length - j ∧ T 1 = tv ∧ T 3 = cellR H.next 2 0 ∧ T 6 = cellR H1.next 2 0 ∧ T 7 = .int .i64 (j : Int) ∧ WS (H.next + 2) H' H.next v w (X ++ (l.take j).flatMap tokB) t ∧ Kp (H.next + 2) H.next H2 H') l.length
    ⟨0, w2, Nat.zero_le _, rfl, by simp only [sA, Int.reduceNegSucc, reduceCtorEq, Nat.reduceEqDiff, ↓reduceIte, Nat.reduceAdd, Int.reduceEq, Int.reduceLT, Int.reduceLE]; try rfl, by simp only [sA, Int.reduceNegSucc, reduceCtorEq, Nat.reduceEqDiff, ↓reduceIte, Nat.reduceAdd, Int.reduceEq, Int.reduceLT, Int.reduceLE]; try rfl, by simp only [sA, Int.reduceNegSucc, reduceCtorEq, Nat.reduceEqDiff, ↓reduceIte, Nat.reduceAdd, Int.reduceEq, Int.reduceLT, Int.reduceLE]; try rfl, by simp only [sA, Int.reduceNegSucc, reduceCtorEq, Nat.reduceEqDiff, ↓reduceIte, Nat.reduceAdd, Int.reduceEq, Int.reduceLT, Int.reduceLE]; try rfl, by simpa using W6, K⟩ ?_
  rintro q T H' ⟨j, w, hj, rfl, g1, g3, g6, g7, WJ, KJ⟩
  have EJ : Ext H.next H H' := ⟨by have := KJ.1; omega, fun c hc => by rw [KJ.2 c (by omega) (by omega)]; exact E.old c hc⟩
  have hYl : (X ++ (l.take j).flatMap tokB).length ≤ L.length + 3 + 64 * l.length := by
    have := tokBs_len (l.take j)
    rw [List.length_take] at this
    rw [List.length_append]; omega
  by_cases hlt : j < l.length
  · have hlt' : (j : Int) < (l.length : Int) := by omega
    obtain ⟨tk, htk⟩ : ∃ x, l[j]? = some x := ⟨_, List.getElem?_eq_getElem hlt⟩
    have hTJ : ∀ G : AHeap, Ext H.next H G → TL G tv l := fun G e => LinM.same hT e.next ((LinM.blk hT).mono fun b hb => e.old b hb)
    obtain ⟨tb, tl, i1, l0, l0', l1, l2⟩ := (hTJ _ EJ).at htk
    have hsn : (l.take (j + 1)).flatMap tokB = (l.take j).flatMap tokB ++ tokB tk := by rw [take_snoc htk, List.flatMap_append]; simp
    rcases hok tk (List.mem_of_getElem? htk) with hb0 | ⟨b1, b2, b3, b4⟩
    · have hb0' : (tk.back : Int) = 0 := by omega
      have hbl := tk.b.toNat_lt
      have wx : IntKind.i64.wrap (tk.b.toNat : Int) = (tk.b.toNat : Int) := wrap64 (by omega) (by omega)
      simp only [sA, Int.reduceNegSucc, reduceCtorEq, Nat.reduceEqDiff, ↓reduceIte, Nat.reduceAdd, Int.reduceEq, Int.reduceLT, Int.reduceLE, g1, g3, g6, g7, hlen, hlt', i1, fldA, l1, l2, hb0', WJ.load, wx]
      refine (rfixed_spec WJ.2.1 tk.b.toNat (by omega) (by omega)).mono ?_
      intro w' H3' R'
      obtain ⟨H4', m4', W4', K4'⟩ := WJ.step R'
      simp only [sA, Int.reduceNegSucc, reduceCtorEq, Nat.reduceEqDiff, ↓reduceIte, Nat.reduceAdd, Int.reduceEq, Int.reduceLT, Int.reduceLE, g1, g3, g6, g7, m4', wrap1 j (by omega)]
      refine ⟨_, by omega, j + 1, w', by omega, rfl, (by first | with_reducible rfl | trivial | rfl | assumption), (by first | with_reducible rfl | trivial | rfl | assumption), (by first | with_reducible rfl | trivial | rfl | assumption), (by first | with_reducible rfl | trivial | rfl | assumption), ?_, KJ.trans K4'⟩
      have e : tokB tk = fixB tk.b.toNat := by unfold tokB; rw [if_pos hb0]
      rw [hsn, e, ← List.append_assoc]
      exact W4'
    · have hb0' : ¬ (tk.back : Int) = 0 := by omega
      obtain ⟨f1, f2⟩ := find_len b1 b2
      obtain ⟨f3, f4⟩ := find_dis b3 b4
      have f5 := lenE_le (find lenL tk.n)
      have f6 := disE_le (find disL tk.back)
      have f7 := fixB_len (257 + find lenL tk.n)
      have eT : tokB tk = lenB tk.n ++ disB tk.back := by unfold tokB; rw [if_neg (by omega)]
      unfold lenB disB at eT
      obtain ⟨k, ek⟩ : ∃ k, k = find lenL tk.n := ⟨_, rfl⟩
      obtain ⟨k2, ek2⟩ : ∃ k, k = find disL tk.back := ⟨_, rfl⟩
      rw [← ek] at f1 f2 f5 f7 eT
      rw [← ek2] at f3 f4 f6 eT
      obtain ⟨ls, els⟩ : ∃ x, x = lenL.getD k 0 := ⟨_, rfl⟩
      obtain ⟨xs, exs⟩ : ∃ x, x = lenE.getD k 0 := ⟨_, rfl⟩
      obtain ⟨ls2, els2⟩ : ∃ x, x = disL.getD k2 0 := ⟨_, rfl⟩
      obtain ⟨xs2, exs2⟩ : ∃ x, x = disE.getD k2 0 := ⟨_, rfl⟩
      rw [← els] at f2 eT
      rw [← exs] at f5 eT
      rw [← els2] at f4 eT
      rw [← exs2] at f6 eT
      have nJ := WJ.2.2.2.2.2
      have kE : ∀ G, Kp (H.next + 2) H.next H2 G → Ext H.next H G := fun G k => ⟨by have := k.1; omega, fun c hc => by rw [k.2 c (by omega) (by omega)]; exact E.old c hc⟩
      simp only [sA, Int.reduceNegSucc, reduceCtorEq, Nat.reduceEqDiff, ↓reduceIte, Nat.reduceAdd, Int.reduceEq, Int.reduceLT, Int.reduceLE, g1, g3, g6, g7, hlen, hlt', i1, fldA, l1, hb0']
      refine (rlengths_spec H').mono ?_
      rintro _ Ha ⟨u1, u2, rfl, c1, c2, d1, d2, Ea⟩
      have Wa := WJ.ext Ea
      have Ka := KJ.trans (kp_ext (q := H.next) Ea nJ)
      obtain ⟨tb2, tl2, i2, a0, a0', a1, a2⟩ := (hTJ _ (kE _ Ka)).at htk
      simp only [sA, Int.reduceNegSucc, reduceCtorEq, Nat.reduceEqDiff, ↓reduceIte, Nat.reduceAdd, Int.reduceEq, Int.reduceLT, Int.reduceLE, ext_0, ext_1, g1, g7, i2, fldA, a0, a0']
      refine (rfind_spec c1 (by decide) (by decide) tk.n).mono ?_
      rintro _ _ ⟨rfl, rfl⟩
      rw [← ek]
      have wk : IntKind.i64.wrap (257 + (k : Int)) = ((257 + k : Nat) : Int) := by rw [wrap64 (by omega) (by omega)]; omega
      simp only [sA, Int.reduceNegSucc, reduceCtorEq, Nat.reduceEqDiff, ↓reduceIte, Nat.reduceAdd, Int.reduceEq, Int.reduceLT, Int.reduceLE, g3, Wa.load, wk]
      refine (rfixed_spec Wa.2.1 (257 + k) (by omega) (by omega)).mono ?_
      intro wb Hb Rb
      obtain ⟨Hc, mc, Wc, Kc, Kc'⟩ := Wa.step2 Rb
      have c1' := cel_kp c1 Kc' (d1.mono fun b hb => by omega)
      have c2' := cel_kp c2 Kc' (d2.mono fun b hb => by omega)
      have Kc2 := Ka.trans Kc
      obtain ⟨tb3, tl3, i3, e0, e0', e1, e2⟩ := (hTJ _ (kE _ Kc2)).at htk
      obtain ⟨x1, x2⟩ := tab_at c1' (k := k) (by show k < 29; omega)
      obtain ⟨y1, y2⟩ := tab_at c2' (k := k) (by show k < 29; omega)
      rw [← els] at x2
      rw [← exs] at y2
      have ws : IntKind.i64.wrap ((tk.n : Int) - (ls : Int)) = ((tk.n - ls : Nat) : Int) := by rw [wrap64 (by omega) (by omega)]; omega
      simp only [sA, Int.reduceNegSucc, reduceCtorEq, Nat.reduceEqDiff, ↓reduceIte, Nat.reduceAdd, Int.reduceEq, Int.reduceLT, Int.reduceLE, g1, g3, g7, mc, Wc.load, i3, fldA, e0, e0', x1, x2, y1, y2, ws]
      refine (rbits_spec Wc.2.1 (tk.n - ls) xs false (by omega) (by omega) (by rw [List.length_append]; omega)).mono ?_
      intro wd Hd Rd
      obtain ⟨He, me, We, Ke, Ke'⟩ := Wc.step2 Rd
      have nE := We.2.2.2.2.2
      simp only [sA, Int.reduceNegSucc, reduceCtorEq, Nat.reduceEqDiff, ↓reduceIte, Nat.reduceAdd, Int.reduceEq, Int.reduceLT, Int.reduceLE, g3, me]
      refine (rdist_spec He).mono ?_
      rintro _ Hf ⟨u3, u4, rfl, c3, c4, d3, d4, Ef⟩
      have Wf := We.ext Ef
      have Kf := (Kc2.trans Ke).trans (kp_ext (q := H.next) Ef nE)
      obtain ⟨tb4, tl4, i4, p0, p0', p1, p2⟩ := (hTJ _ (kE _ Kf)).at htk
      simp only [sA, Int.reduceNegSucc, reduceCtorEq, Nat.reduceEqDiff, ↓reduceIte, Nat.reduceAdd, Int.reduceEq, Int.reduceLT, Int.reduceLE, ext_0, ext_1, g1, g7, i4, fldA, p1]
      refine (rfind_spec c3 (by decide) (by decide) tk.back).mono ?_
      rintro _ _ ⟨rfl, rfl⟩
      rw [← ek2]
      simp only [sA, Int.reduceNegSucc, reduceCtorEq, Nat.reduceEqDiff, ↓reduceIte, Nat.reduceAdd, Int.reduceEq, Int.reduceLT, Int.reduceLE, g3, Wf.load]
      refine (rbits_spec Wf.2.1 k2 5 true (by omega) (by omega) (by rw [List.length_append, List.length_append, bitsT_len]; omega)).mono ?_
      intro wg Hg Rg
      obtain ⟨Hh, mh, Wh, Kh, Kh'⟩ := Wf.step2 Rg
      have c3' := cel_kp c3 Kh' (d3.mono fun b hb => by omega)
      have c4' := cel_kp c4 Kh' (d4.mono fun b hb => by omega)
      have Kh2 := Kf.trans Kh
      obtain ⟨tb5, tl5, i5, r0, r0', r1, r2⟩ := (hTJ _ (kE _ Kh2)).at htk
      obtain ⟨x3, x4⟩ := tab_at c3' (k := k2) (by show k2 < 30; omega)
      obtain ⟨y3, y4⟩ := tab_at c4' (k := k2) (by show k2 < 30; omega)
      rw [← els2] at x4
      rw [← exs2] at y4
      have ws2 : IntKind.i64.wrap ((tk.back : Int) - (ls2 : Int)) = ((tk.back - ls2 : Nat) : Int) := by rw [wrap64 (by omega) (by omega)]; omega
      simp only [sA, Int.reduceNegSucc, reduceCtorEq, Nat.reduceEqDiff, ↓reduceIte, Nat.reduceAdd, Int.reduceEq, Int.reduceLT, Int.reduceLE, g1, g3, g7, mh, Wh.load, i5, fldA, r1, x3, x4, y3, y4, ws2]
      refine (rbits_spec Wh.2.1 (tk.back - ls2) xs2 false (by omega) (by omega) (by simp only [List.length_append, bitsT_len]; rw [List.length_append] at hYl; omega)).mono ?_
      intro wi Hi Ri
      obtain ⟨Hj, mj, Wj, Kj, _⟩ := Wh.step2 Ri
      simp only [sA, Int.reduceNegSucc, reduceCtorEq, Nat.reduceEqDiff, ↓reduceIte, Nat.reduceAdd, Int.reduceEq, Int.reduceLT, Int.reduceLE, g1, g3, g6, g7, mj, wrap1 j (by omega)]
      refine ⟨_, by omega, j + 1, wi, by omega, rfl, (by first | with_reducible rfl | trivial | rfl | assumption), (by first | with_reducible rfl | trivial | rfl | assumption), (by first | with_reducible rfl | trivial | rfl | assumption), (by first | with_reducible rfl | trivial | rfl | assumption), ?_, Kh2.trans Kj⟩
      rw [hsn, eT]
      simp only [List.append_assoc, bitsT_f, bitsT_t] at Wj ⊢
      exact Wj
  · have hlt' : ¬ (j : Int) < (l.length : Int) := by omega
    obtain rfl : j = l.length := by omega
    rw [List.take_length] at WJ hYl
    simp only [sA, Int.reduceNegSucc, reduceCtorEq, Nat.reduceEqDiff, ↓reduceIte, Nat.reduceAdd, Int.reduceEq, Int.reduceLT, Int.reduceLE, g1, g3, g6, g7, hlen, hlt', WJ.load]
    refine (rfixed_spec WJ.2.1 256 (by omega) (by omega)).mono ?_
    intro w' H3' R'
    have hv := R'.2.1 _ (WJ.2.2.1 _ h.vb)
    have nJ := WJ.2.2.2.2.2
    have n3 := R'.2.2.next
    obtain ⟨H4', m4', q1, q2, q3, q4⟩ := rw_store R'.1 ((U.same (KJ.2 _ (by omega) (by omega))).same (R'.2.2.old _ (by omega))) (hv.mono fun b hb => by omega)
    have l4' := q1.load
    rw [← n1] at m4' l4'
    simp only [sA, Int.reduceNegSucc, reduceCtorEq, Nat.reduceEqDiff, ↓reduceIte, Nat.reduceAdd, Int.reduceEq, Int.reduceLT, Int.reduceLE, g6, m4']
    refine fin_1 _ _ _ (by simp only [sA, Int.reduceNegSucc, reduceCtorEq, Nat.reduceEqDiff, ↓reduceIte, Nat.reduceAdd, Int.reduceEq, Int.reduceLT, Int.reduceLE, g6]; exact l4') ⟨?_, fun P hP => (R'.2.1 _ (WJ.2.2.1 P hP)).mono fun b hb => ?_, ⟨by omega, fun c hc => by rw [q4 c (by omega), R'.2.2.old c (by omega)]; exact EJ.old c hc⟩⟩
    · have e : L ++ fixedB l last = X ++ l.flatMap tokB ++ fixB 256 := by rw [hX]; simp only [fixedB, bitsT_f, List.append_assoc]
      rw [e]; exact q2
    · rcases hb with (hb | hb) | hb
      · exact .inl hb
      · exact .inr (by omega)
      · exact .inr (by omega)
end Go.Proofs.Zt
namespace Go.Abs.S
open Go.Abs
theorem aw_drawN {C : CS} {T : Env} {H : AHeap} {Q : Post} {l : List AOper} {chk : List (List Nat)} (h : wTr C (claims H.next l) T (reserves H l) fun ss T' H' => wCk (reserves H l :: ss.map (·.2)) (claims H.next l) chk ss T ∧ Q .normal T' H') : wp C (.draw l chk) Q T H := h
theorem tr_claim {C : CS} {T : Env} {H : AHeap} {K : List (AVal × AHeap) → Env → AHeap → Prop} {d : Option Nat} {r : List AOper} (b : Nat) (z : List AVal) (s : Option (Nat × Nat)) : wTr C (⟨d, .claim b z s, none⟩ :: r) T H K = OptKT (aClaim H b z s) C r T d H K := _root_.id rfl
theorem claim_ok {H : AHeap} {b : Nat} {z : List AVal} (h : H.get b = some (.cells z 0 false)) (hz : aeqs z z = true) : aClaim H b z none = some (cellR b z.length 0) := by
  unfold aClaim
  simp only [h, hz, cond_true]; rfl
theorem ckP_claim {T : Env} {d : Option Nat} (hs : List AHeap) (p : Nat) (q : List Nat) (b : Nat) (z : List AVal) (s : Option (Nat × Nat)) (g : Option (Nat × Bool)) (v : AVal) : ckP hs (p :: q) T ⟨d, .claim b z s, g⟩ v = ((∃ Hp, hs[p]? = some Hp ∧ (sG T g = true → ∃ u, aClaim Hp b z s = some u ∧ aeq u v = true)) ∧ ckP hs q T ⟨d, .claim b z s, g⟩ v) := by
  simp [ckP, wLd]
theorem aeq_cellR (b n i : Nat) : aeq (cellR b n i) (cellR b n i) = true := by simp [aeq, cellR]
end Go.Abs.S
namespace Go.Proofs.Zt
open Go.Abs Go.Abs.S
set_option linter.unusedSimpArgs false
theorem storedB_len (n : Nat) (s : Bs) (last : Nat) : (storedB n s last).length ≤ 50 + 8 * s.length := by
  have : (s.flatMap fun x => bitsN x.toNat 8).length = 8 * s.length := by
    induction s with
    | nil => rfl
    | cons x r ih => simp only [List.flatMap_cons, List.length_append, bitsN_len, List.length_cons, ih]; omega
  unfold storedB
  simp only [List.length_append, bitsN_len, List.length_replicate, this]
  have : fillN (n + 3) < 8 := by unfold fillN; omega
  omega
theorem aeq_agg2 {a b : AVal} (ha : aeq a a = true) (hb : aeq b b = true) : aeq (.agg [a, b]) (.agg [a, b]) = true := by simp [aeq, aeqs, ha, hb]
theorem cel_aeq {n : Nat} {H : AHeap} {s : AVal} {l : List AVal} (h : Cel n H s l) : aeq s s = true := by
  rcases h with ⟨h, _⟩ | ⟨a, r, rfl, _⟩
  · rcases isE_cases h with rfl | ⟨a, rfl⟩
    · exact aeq_nilS
    · simp [aeq]
  · cases r <;> simp [aeq]
theorem rw_aeq {n : Nat} {H : AHeap} {sv c : AVal} {L : List Bool} {t : Nat} (h : RW n H (.agg [sv, c]) L t) : aeq sv sv = true := by
  obtain ⟨sv', e, hC⟩ := h
  simp only [AVal.agg.injEq, List.cons.injEq, and_true] at e
  rw [e.1]; exact cel_aeq hC
theorem aeq_i (k : IntKind) (n : Int) : aeq (.int k n) (.int k n) = true := by simp [aeq, eqF_eq]
theorem rw_len {n : Nat} {H : AHeap} {sv c : AVal} {L : List Bool} {t : Nat} (h : RW n H (.agg [sv, c]) L t) : aLenK false sv = some (.int .i64 (L.length : Int)) := by
  obtain ⟨sv', e, hC⟩ := h
  simp only [AVal.agg.injEq, List.cons.injEq, and_true] at e
  obtain ⟨rfl, _⟩ := e
  have := hC.len
  rwa [bls_len] at this
theorem rw_val {n : Nat} {H : AHeap} {w : AVal} {L : List Bool} {t : Nat} (h : RW n H w L t) : ∃ sv, w = .agg [sv, .int .i64 (t : Int)] ∧ sv.one = true := by
  obtain ⟨sv, e, hC⟩ := h
  exact ⟨sv, e, cel_one hC⟩
theorem rblock_spec {H : AHeap} {av sv : AVal} {b : Bs} {L : List Bool} {ov : Bool} (ha : AppN 1 0 H av (byts b) b.length) (hw : RW H.next H (.agg [sv, .int .i64 0]) L 0) (to last : Nat) (hto : to ≤ b.length) (hb : b.length ≤ 600) (hla : last ≤ 1) (hL : L.length ≤ 100000) :
    ACalls Try.prog natZ 54 [.agg [av, .int .i64 0, sv, .int .i64 0, .bool ov], .int .i64 (to : Int), .int .i64 (last : Int)] H fun w H' => ∃ sv', w = .agg [av, .int .i64 (to : Int), sv', .int .i64 0, .bool ov] ∧ RW H'.next H' (.agg [sv', .int .i64 0]) (L ++ blockB L.length b 0 to last) 0 ∧ (∀ P, VB (.agg [sv, .int .i64 0]) P → VB (.agg [sv', .int .i64 0]) fun b => P b ∨ H.next ≤ b) ∧ Ext H.next H H' := by
  refine acalls_ofN rfl za54 rfl ?_
  obtain ⟨H1, m1, r1, k1, o1⟩ := row_newL H [av, .int .i64 0, sv, .int .i64 0, .bool ov] (n := 5) rfl
  obtain ⟨H2, m2, r2, k2', o2⟩ := row_newL H1 [.slice none 0 (.known 0), .int .i64 0, .slice none 0 (.known 0), .int .i64 0, .bool false] (n := 5) rfl
  have E2 : Ext H.next H H2 := ⟨by omega, fun c hc => by rw [o2 c (by omega), o1 c (by omega)]⟩
  obtain ⟨Hr, hHr⟩ : ∃ G, G = H2.push (.cells [.slice none 0 (.known 0), .int .i64 0] 0 false) := ⟨_, rfl⟩
  have gr : Hr.get H2.next = some (.cells [.slice none 0 (.known 0), .int .i64 0] 0 false) := by rw [hHr, AHeap.get_push, if_pos rfl]
  have kr : Hr.next = H2.next + 1 := by rw [hHr]; rfl
  have or_ : ∀ c, c < H2.next → Hr.get c = H2.get c := fun c hc => by rw [hHr]; exact get_push_lt hc
  have Er : Ext H.next H Hr := ⟨by omega, fun c hc => by rw [or_ c (by omega)]; exact E2.old c hc⟩
  have R2 : Row Hr H.next [av, .int .i64 0, sv, .int .i64 0, .bool ov] := (r1.same (o2 _ (by omega))).same (or_ _ (by omega))
  have R6 : Row Hr H1.next [.slice none 0 (.known 0), .int .i64 0, .slice none 0 (.known 0), .int .i64 0, .bool false] := r2.same (or_ _ (by omega))
  have lw := row_loadK R2 (n := 5) rfl (i := 2) (k := 2) (by omega)
  have lw' : oLoad true 2 Hr (cellR H.next 5 2) = some (.agg [sv, .int .i64 0]) := lw
  have lav : oLoad false 1 Hr (cellR H.next 5 0) = some av := row_load R2 rfl rfl
  have lat : oLoad false 1 Hr (cellR H.next 5 1) = some (.int .i64 0) := row_load R2 rfl rfl
  have a2 : AppN 1 0 Hr av (byts b) b.length := ha.ext Er
  obtain ⟨sl, ms, cs, _⟩ := a2.slice (lo := 0) (hi := to) (Nat.zero_le _) hto
  have ms' : aSl 1 av (some (.int .i64 0)) (some (.int .i64 (to : Int))) none = some sl := ms
  have ecs : ((byts b).drop 0).take (to - 0) = byts (b.take to) := by simp [byts]
  rw [ecs] at cs
  simp only [c54, sA, Int.reduceNegSucc, reduceCtorEq, Nat.reduceEqDiff, ↓reduceIte, Nat.reduceAdd, Int.reduceEq, Int.reduceLT, Int.reduceLE, cells_agg, m1, m2]
  refine aw_drawN ?_
  simp only [claims, newOf, reserves, ← hHr]
  simp only [sA, Int.reduceNegSucc, reduceCtorEq, Nat.reduceEqDiff, ↓reduceIte, Nat.reduceAdd, Int.reduceEq, Int.reduceLT, Int.reduceLE, sR, tr_claim, fldA, fld0, lw', lav, lat, ms']
  have hwr : RW Hr.next Hr (.agg [sv, .int .i64 0]) L 0 := hw.fwd Er
  refine (rstored_spec hwr cs (Nat.le_refl _) last hla (by rw [List.length_take]; omega) (by omega)).mono ?_
  intro w1 H3 R1
  have n3 := R1.2.2.next
  obtain ⟨s1, rfl, o1s⟩ := rw_val R1.1
  have cl3 : aClaim H3 H2.next [.slice none 0 (.known 0), .int .i64 0] none = some (cellR H2.next 2 0) := claim_ok ((R1.2.2.old _ (by omega)).trans gr) rfl
  have cl3r : aClaim Hr H2.next [.slice none 0 (.known 0), .int .i64 0] none = some (cellR H2.next 2 0) := claim_ok gr rfl
  have hb1 : VB (.agg [s1, .int .i64 ((0 : Nat) : Int)]) fun b => b < H.next ∨ Hr.next ≤ b := R1.2.1 _ hw.vb
  obtain ⟨H5, m5, q5, w5, k5, o5⟩ := rw_store R1.1 (q := H2.next) ⟨_, rfl, rfl, ⟨0, (R1.2.2.old _ (by omega)).trans gr, Nat.zero_le _⟩⟩ (hb1.mono fun b hb => by omega)
  have m5' : oStore 2 H3 (cellR H2.next 2 0) (.agg [s1, .int .i64 0]) = some H5 := m5
  simp only [sA, Int.reduceNegSucc, reduceCtorEq, Nat.reduceEqDiff, ↓reduceIte, Nat.reduceAdd, Int.reduceEq, Int.reduceLT, Int.reduceLE, sR, tr_claim, cl3, m5']
  simp only [ck_nil', ck_cons, ckP_load, ckP_claim, ckP_nil, ck_end, and_true, true_and, List.map_cons, List.map_nil, sA, Int.reduceNegSucc, reduceCtorEq, Nat.reduceEqDiff, ↓reduceIte, Nat.reduceAdd, Int.reduceEq, Int.reduceLT, Int.reduceLE]
  refine ⟨⟨_, rfl, fun _ => ⟨_, cl3r, aeq_cellR _ _ _⟩⟩, ?_⟩
  have o5' : ∀ c, c < Hr.next → c ≠ H2.next → H5.get c = Hr.get c := fun c hc hd => by rw [o5 c hd, R1.2.2.old c hc]
  obtain ⟨Hs, hHs⟩ : ∃ G, G = H5.push (.cells [.slice none 0 (.known 0), .int .i64 0] 0 false) := ⟨_, rfl⟩
  have gs : Hs.get H5.next = some (.cells [.slice none 0 (.known 0), .int .i64 0] 0 false) := by rw [hHs, AHeap.get_push, if_pos rfl]
  have ks : Hs.next = H5.next + 1 := by rw [hHs]; rfl
  have os : ∀ c, c < H5.next → Hs.get c = H5.get c := fun c hc => by rw [hHs]; exact get_push_lt hc
  have Es : Ext H.next H Hs := ⟨by omega, fun c hc => by rw [os c (by omega), o5' c (by omega) (by omega)]; exact Er.old c hc⟩
  have R2s : Row Hs H.next [av, .int .i64 0, sv, .int .i64 0, .bool ov] := R2.same (by rw [os _ (by omega), o5' _ (by omega) (by omega)])
  have lws : oLoad true 2 Hs (cellR H.next 5 2) = some (.agg [sv, .int .i64 0]) := row_loadK R2s (n := 5) rfl (i := 2) (k := 2) (by omega)
  have lavs : oLoad false 1 Hs (cellR H.next 5 0) = some av := row_load R2s rfl rfl
  have lats : oLoad false 1 Hs (cellR H.next 5 1) = some (.int .i64 0) := row_load R2s rfl rfl
  have cas : Cel Hs.next Hs av (byts b) := (ha.ext Es).cel1 (ha.ext Es).blk'
  refine aw_drawN ?_
  simp only [claims, newOf, reserves, ← hHs]
  simp only [sA, Int.reduceNegSucc, reduceCtorEq, Nat.reduceEqDiff, ↓reduceIte, Nat.reduceAdd, Int.reduceEq, Int.reduceLT, Int.reduceLE, sR, tr_claim, fldA, fld0, lws, lavs, lats]
  refine (rtokens_spec cas (Nat.le_refl _) 0 to (Nat.zero_le _) hto (by omega)).mono ?_
  intro tv H6 ⟨T1, T2, T3⟩
  have n6 := T3.next
  have lw6 : oLoad true 2 H6 (cellR H.next 5 2) = some (.agg [sv, .int .i64 0]) := row_loadK (R2s.same (T3.old _ (by omega))) (n := 5) rfl (i := 2) (k := 2) (by omega)
  have hw6 : RW H6.next H6 (.agg [sv, .int .i64 0]) L 0 := hw.fwd (Es.trans (T3.less (by omega)))
  have tl : (toks b 0 to).length ≤ 600 := Nat.le_trans (toks_length b to (to - 0) 0) (by omega)
  simp only [sA, Int.reduceNegSucc, reduceCtorEq, Nat.reduceEqDiff, ↓reduceIte, Nat.reduceAdd, Int.reduceEq, Int.reduceLT, Int.reduceLE, sR, tr_claim]
  refine (rfixedb_spec hw6 T1 (toks_ok b to (by omega) _ _) last hla (by omega) (by omega)).mono ?_
  intro w2 H7 R7
  have n7 := R7.2.2.next
  obtain ⟨s2, rfl, o2s⟩ := rw_val R7.1
  have gs7 : H7.get H5.next = some (.cells [.slice none 0 (.known 0), .int .i64 0] 0 false) := (R7.2.2.old _ (by omega)).trans ((T3.old _ (by omega)).trans gs)
  have cl7 : aClaim H7 H5.next [.slice none 0 (.known 0), .int .i64 0] none = some (cellR H5.next 2 0) := claim_ok gs7 rfl
  have cl6 : aClaim H6 H5.next [.slice none 0 (.known 0), .int .i64 0] none = some (cellR H5.next 2 0) := claim_ok ((T3.old _ (by omega)).trans gs) rfl
  have cls : aClaim Hs H5.next [.slice none 0 (.known 0), .int .i64 0] none = some (cellR H5.next 2 0) := claim_ok gs rfl
  have hb2 : VB (.agg [s2, .int .i64 ((0 : Nat) : Int)]) fun b => b < H.next ∨ H6.next ≤ b := R7.2.1 _ hw.vb
  obtain ⟨H8, m8, q8, w8, k8, o8⟩ := rw_store R7.1 (q := H5.next) ⟨_, rfl, rfl, ⟨0, gs7, Nat.zero_le _⟩⟩ (hb2.mono fun b hb => by omega)
  have m8' : oStore 2 H7 (cellR H5.next 2 0) (.agg [s2, .int .i64 0]) = some H8 := m8
  simp only [sA, Int.reduceNegSucc, reduceCtorEq, Nat.reduceEqDiff, ↓reduceIte, Nat.reduceAdd, Int.reduceEq, Int.reduceLT, Int.reduceLE, sR, tr_claim, cl7, m8']
  simp only [ck_nil', ck_cons, ckP_load, ckP_claim, ckP_nil, ck_end, and_true, true_and, List.map_cons, List.map_nil, sA, Int.reduceNegSucc, reduceCtorEq, Nat.reduceEqDiff, ↓reduceIte, Nat.reduceAdd, Int.reduceEq, Int.reduceLT, Int.reduceLE]
  refine ⟨⟨⟨_, rfl, fun _ => ⟨_, lw6, aeq_agg2 (rw_aeq hw) (aeq_i _ _)⟩⟩, ⟨_, rfl, fun _ => ⟨_, cls, aeq_cellR _ _ _⟩⟩, ⟨_, rfl, fun _ => ⟨_, cl6, aeq_cellR _ _ _⟩⟩⟩, ?_⟩
  have og : ∀ c, c < H5.next → H8.get c = H5.get c := fun c hc => by rw [o8 c (by omega), R7.2.2.old c (by omega), T3.old c (by omega), os c hc]
  have R8 : Row H8 H.next [av, .int .i64 0, sv, .int .i64 0, .bool ov] := R2s.same (by rw [og _ (by omega), os _ (by omega)])
  have R81 : Row H8 H1.next [.slice none 0 (.known 0), .int .i64 0, .slice none 0 (.known 0), .int .i64 0, .bool false] := R6.same (by rw [og _ (by omega), o5' _ (by omega) (by omega)])
  obtain ⟨H9, m9, r9, k9, o9⟩ := row_storeK R8 (n := 5) rfl (i := 2) (k := 2) (by omega) (xs := [s2, .int .i64 0]) rfl (by simp only [List.all_cons, List.all_nil, o2s]; rfl)
  have r9' : Row H9 H.next [av, .int .i64 0, s2, .int .i64 0, .bool ov] := r9
  have ne5 : H5.next ≠ H.next := by omega
  have ne2 : H2.next ≠ H.next := by omega
  have l8 : oLoad true 2 H8 (cellR H5.next 2 0) = some (.agg [s2, .int .i64 0]) := q8.load
  have q89 : Holds H9 H5.next (.agg [s2, .int .i64 0]) := q8.same (o9 _ ne5)
  have q59 : Holds H9 H2.next (.agg [s1, .int .i64 0]) := q5.same (by rw [o9 _ ne2, og _ (by omega)])
  have fst : ∀ {q : Nat} {x y : AVal}, Holds H9 q (.agg [x, y]) → oLoad false 1 H9 (cellR q 2 0) = some x := fun {q x y} h => by
    obtain ⟨cs, e, h1, h2⟩ := h
    simp only [AVal.agg.injEq] at e
    subst e
    exact row_load h2 rfl rfl
  have f1 := fst q59
  have f2 := fst q89
  have len1 := rw_len R1.1
  have len2 := rw_len R7.1
  rw [List.length_append] at len1 len2
  have av1 : av.one = true := by rcases (ha) with ⟨rfl, _⟩ | ⟨_, _, rfl, _⟩ <;> rfl
  have R91 : Row H9 H1.next [.slice none 0 (.known 0), .int .i64 0, .slice none 0 (.known 0), .int .i64 0, .bool false] := R81.same (o9 _ (by omega))
  have bl : blockB L.length b 0 to last = if (storedB L.length (b.take to) last).length < (fixedB (toks b 0 to) last).length then storedB L.length (b.take to) last else fixedB (toks b 0 to) last := by
    unfold blockB; rw [List.drop_zero, Nat.sub_zero]
  by_cases hlt : (storedB L.length (b.take to) last).length < (fixedB (toks b 0 to) last).length
  · have hlt' : ((L.length + (storedB L.length (b.take to) last).length : Nat) : Int) < ((L.length + (fixedB (toks b 0 to) last).length : Nat) : Int) := by omega
    obtain ⟨H10, m10, r10, k10, o10⟩ := row_storeK r9' (n := 5) rfl (i := 2) (k := 2) (by omega) (xs := [s1, .int .i64 0]) rfl (by simp only [List.all_cons, List.all_nil, o1s]; rfl)
    have r10' : Row H10 H.next [av, .int .i64 0, s1, .int .i64 0, .bool ov] := r10
    obtain ⟨H11, m11, r11, k11, o11⟩ := row_st r10' (n := 5) rfl (i := 1) (by omega) (x := .int .i64 (to : Int)) rfl rfl
    have l11 : oLoad true 5 H11 (cellR H.next 5 0) = some (.agg [av, .int .i64 (to : Int), s1, .int .i64 0, .bool ov]) := row_loadN r11 (n := 5) rfl
    obtain ⟨H12, m12, r12, k12, o12⟩ := row_storeN (R91.same (by rw [o11 _ (by omega), o10 _ (by omega)])) (n := 5) rfl (xs := [av, .int .i64 (to : Int), s1, .int .i64 0, .bool ov]) rfl (by simp only [List.all_cons, List.all_nil, av1, o1s]; rfl)
    have ll : oLoad true 2 H9 (cellR H2.next 2 0) = some (.agg [s1, .int .i64 0]) := q59.load
    simp only [sA, Int.reduceNegSucc, reduceCtorEq, Nat.reduceEqDiff, ↓reduceIte, Nat.reduceAdd, Int.reduceEq, Int.reduceLT, Int.reduceLE, fldA, fld0, l8, m9, f1, f2, len1, len2, hlt', ll, m10, m11, l11, m12]
    refine fin_1 _ _ _ (by simp only [sA, Int.reduceNegSucc, reduceCtorEq, Nat.reduceEqDiff, ↓reduceIte, Nat.reduceAdd, Int.reduceEq, Int.reduceLT, Int.reduceLE]; exact row_loadN r12 (n := 5) rfl) ⟨s1, rfl, ?_, fun P hP => (R1.2.1 P hP).mono fun b hb => hb.imp (fun q => q) fun q => by omega, ⟨by omega, fun c hc => by rw [o12 c (by omega), o11 c (by omega), o10 c (by omega), o9 c (by omega), og c (by omega), o5' c (by omega) (by omega)]; exact Er.old c hc⟩⟩
    rw [bl, if_pos hlt]
    have hbb := hb1.mono (Q := fun b => b ≠ H.next ∧ b ≠ H1.next) fun b hb => by omega
    refine rw_same w5 (by omega) fun sv' c e => ?_
    have x1 := w5.vb sv' c e
    have x2 := hbb sv' c e
    exact (x1.and x2).mono fun b hb => by rw [o12 b hb.2.2, o11 b hb.2.1, o10 b hb.2.1, o9 b hb.2.1, og b hb.1]
  · have hlt' : ¬ ((L.length + (storedB L.length (b.take to) last).length : Nat) : Int) < ((L.length + (fixedB (toks b 0 to) last).length : Nat) : Int) := by omega
    obtain ⟨H11, m11, r11, k11, o11⟩ := row_st r9' (n := 5) rfl (i := 1) (by omega) (x := .int .i64 (to : Int)) rfl rfl
    have l11 : oLoad true 5 H11 (cellR H.next 5 0) = some (.agg [av, .int .i64 (to : Int), s2, .int .i64 0, .bool ov]) := row_loadN r11 (n := 5) rfl
    obtain ⟨H12, m12, r12, k12, o12⟩ := row_storeN (R91.same (by rw [o11 _ (by omega)])) (n := 5) rfl (xs := [av, .int .i64 (to : Int), s2, .int .i64 0, .bool ov]) rfl (by simp only [List.all_cons, List.all_nil, av1, o2s]; rfl)
    simp only [sA, Int.reduceNegSucc, reduceCtorEq, Nat.reduceEqDiff, ↓reduceIte, Nat.reduceAdd, Int.reduceEq, Int.reduceLT, Int.reduceLE, fldA, fld0, l8, m9, f1, f2, len1, len2, hlt', m11, l11, m12]
    refine fin_1 _ _ _ (by simp only [sA, Int.reduceNegSucc, reduceCtorEq, Nat.reduceEqDiff, ↓reduceIte, Nat.reduceAdd, Int.reduceEq, Int.reduceLT, Int.reduceLE]; exact row_loadN r12 (n := 5) rfl) ⟨s2, rfl, ?_, fun P hP => (R7.2.1 P hP).mono fun b hb => hb.imp (fun q => q) fun q => by omega, ⟨by omega, fun c hc => by rw [o12 c (by omega), o11 c (by omega), o9 c (by omega), og c (by omega), o5' c (by omega) (by omega)]; exact Er.old c hc⟩⟩
    rw [bl, if_neg hlt]
    have hbb := hb2.mono (Q := fun b => b ≠ H.next ∧ b ≠ H1.next) fun b hb => by omega
    refine rw_same w8 (by omega) fun sv' c e => ?_
    have x2 := hbb sv' c e
    exact x2.mono fun b hb => by rw [o12 b hb.2, o11 b hb.1, o9 b hb.1]
end Go.Proofs.Zt
namespace Go.Proofs.Zt
open Go.Abs Go.Abs.S
set_option linter.unusedSimpArgs false
theorem fin_c3 {T : Env} {H : AHeap} (n i j k : Nat) (K : AVal → AHeap → Prop) {v : AVal} (h : oLoad true n H (T i) = some v) (hk : K (.tuple [v, T j, T k]) H) : fin [.cell true n i, .t j, .t k] K .ret T H := by
  simp only [fin, wRes, h, OptP_some]; exact hk
theorem src_app {H : AHeap} {s : AVal} {l : Bs} (h : AppN 1 0 H s (byts l) l.length) : aSrc 1 H s = some (l.length, byts l) := by
  have := (h.cel1 h.blk').src
  rwa [byts_len] at this
theorem src_cel {n : Nat} {H : AHeap} {s : AVal} {l : Bs} (h : Cel n H s (byts l)) : aSrc 1 H s = some (l.length, byts l) := by
  have := h.src
  rwa [byts_len] at this
theorem app_bytes {H : AHeap} {s x : AVal} {a l : Bs} (h : AppN 1 0 H s (byts a) a.length) (hx : aSrc 1 H x = some (l.length, byts l)) (hl : a.length + l.length ≤ 1000000) :
    ∃ s' H', aAppend 1 1 H s x = some (s', H') ∧ AppN 1 0 H' s' (byts (a ++ l)) (a ++ l).length ∧ H.next ≤ H'.next ∧ (∀ P, Blk s P → Blk s' fun b => P b ∨ H.next ≤ b) ∧ ∀ c, c < H.next → Blk s (c ≠ ·) → H'.get c = H.get c := by
  obtain ⟨s', H', h1, h2, h3, h4, h5⟩ := h.many hx (by rw [byts_len]; omega) (byts_one l) (by omega) (bytes := 1) (by omega) (by omega)
  exact ⟨s', H', h1, by rw [byts_append, List.length_append]; exact h2, h3, h4, h5⟩
theorem app_nil (H : AHeap) : AppN 1 0 H nilS (byts []) ([] : Bs).length := AppN.nil _ _ _
theorem app_one {m n k : Nat} {H : AHeap} {s : AVal} {L : List AVal} (h : AppN m n H s L k) : s.one = true := by
  rcases h with ⟨rfl, _⟩ | ⟨_, _, rfl, _⟩ <;> rfl
def DW (H : AHeap) (av sv : AVal) (b : Bs) (L : List Bool) : Prop := AppN 1 0 H av (byts b) b.length ∧ RW H.next H (.agg [sv, .int .i64 0]) L 0
theorem rwrite6_spec {n : Nat} {H : AHeap} {av sv bv : AVal} {b p : Bs} (h : DW H av sv b []) (hp : Cel n H bv (byts p)) (hn : n ≤ H.next) (hl : b.length + p.length ≤ 600) :
    ACalls Try.prog natZ 38 [.agg [av, .int .i64 0, sv, .int .i64 0, .bool false], bv] H fun w H' => ∃ av' sv', w = .tuple [.agg [av', .int .i64 0, sv', .int .i64 0, .bool false], nilS, .int .i64 0] ∧ DW H' av' sv' (b ++ p) [] ∧ Blk av' (H.next ≤ ·) ∧ (∀ P, VB (.agg [sv, .int .i64 0]) P → VB (.agg [sv', .int .i64 0]) P) ∧ Ext H.next H H' := by
  obtain ⟨ha, hw⟩ := h
  obtain ⟨_, esv, hsv⟩ := rw_val hw
  simp only [AVal.agg.injEq, List.cons.injEq, and_true] at esv
  obtain ⟨rfl, _⟩ := esv
  refine acalls_ofN rfl za38 rfl ?_
  obtain ⟨H1, m1, r1, k1, o1⟩ := row_newL H [av, .int .i64 0, sv, .int .i64 0, .bool false] (n := 5) rfl
  obtain ⟨H2, m2, r2, k2', o2⟩ := row_newL H1 [.slice none 0 (.known 0), .int .i64 0, .slice none 0 (.known 0), .int .i64 0, .bool false] (n := 5) rfl
  have E2 : Ext H.next H H2 := ⟨by omega, fun c hc => by rw [o2 c (by omega), o1 c (by omega)]⟩
  have R2 : Row H2 H.next [av, .int .i64 0, sv, .int .i64 0, .bool false] := r1.same (o2 _ (by omega))
  have l4 : oLoad false 1 H2 (cellR H.next 5 4) = some (.bool false) := row_load R2 rfl rfl
  have l0 : oLoad false 1 H2 (cellR H.next 5 0) = some av := row_load R2 rfl rfl
  obtain ⟨s3, H3, m3, A3, n3, b3, o3⟩ := app_bytes (app_nil H2) (src_app (ha.ext E2)) (by simp; omega)
  have m3' : aAppend 1 1 H2 (.slice none 0 (.known 0)) av = some (s3, H3) := m3
  rw [List.nil_append] at A3
  have E3 : Ext H2.next H2 H3 := ⟨n3, fun c hc => o3 c hc (blk_nil _)⟩
  have B3 : Blk s3 (H2.next ≤ ·) := (b3 (fun _ => False) (blk_nil _)).mono fun b hb => hb.elim (fun q => q.elim) fun q => q
  have hp3 : Cel n H3 bv (byts p) := hp.ext ((E2.less hn).trans (E3.less (by omega)))
  obtain ⟨s4, H4, m4, A4, n4, b4, o4⟩ := app_bytes A3 (src_cel hp3) (by omega)
  have B4 : Blk s4 (H2.next ≤ ·) := (b4 _ B3).mono fun b hb => by omega
  have og : ∀ c, c < H2.next → H4.get c = H2.get c := fun c hc => by rw [o4 c (by omega) (B3.mono fun b hb => by omega), E3.old c hc]
  obtain ⟨H5, m5, r5, k5, o5⟩ := row_st (R2.same (og _ (by omega))) (n := 5) rfl (i := 0) (by omega) (x := s4) (app_one A4) rfl
  have r5' : Row H5 H.next [s4, .int .i64 0, sv, .int .i64 0, .bool false] := r5
  have l50 : oLoad false 1 H5 (cellR H.next 5 0) = some s4 := row_load r5' rfl rfl
  have l51 : oLoad false 1 H5 (cellR H.next 5 1) = some (.int .i64 0) := row_load r5' rfl rfl
  have l52 : oLoad true 2 H5 (cellR H.next 5 2) = some (.agg [sv, .int .i64 0]) := row_loadK r5' (n := 5) rfl (i := 2) (k := 2) (by omega)
  have hlen : aLenK false s4 = some (.int .i64 ((b ++ p).length : Int)) := A4.len
  have ws : IntKind.i64.wrap (((b ++ p).length : Int) - 0) = ((b ++ p).length : Int) := by rw [wrap64 (by simp; omega) (by simp; omega)]; omega
  have hgt : ¬ (4096 : Int) < ((b ++ p).length : Int) := by rw [List.length_append]; omega
  have E5 : Ext H.next H H5 := ⟨by omega, fun c hc => by rw [o5 c (by omega), og c (by omega)]; exact E2.old c hc⟩
  simp only [c38, sA, Int.reduceNegSucc, reduceCtorEq, Nat.reduceEqDiff, ↓reduceIte, Nat.reduceAdd, Int.reduceEq, Int.reduceLT, Int.reduceLE, cells_agg, m1, m2, fldA, fld0, l4, l0, m3', m4, m5]
  refine aw_loop (fun q (T : Env) H' => T 2 = cellR H.next 5 0 ∧ T 4 = cellR H1.next 5 0 ∧ H5 = H') 0 ⟨by simp only [sA, Int.reduceNegSucc, reduceCtorEq, Nat.reduceEqDiff, ↓reduceIte, Nat.reduceAdd, Int.reduceEq, Int.reduceLT, Int.reduceLE]; try rfl, by simp only [sA, Int.reduceNegSucc, reduceCtorEq, Nat.reduceEqDiff, ↓reduceIte, Nat.reduceAdd, Int.reduceEq, Int.reduceLT, Int.reduceLE]; try rfl, rfl⟩ ?_
  rintro q T _ ⟨g2, g4, rfl⟩
  simp only [sA, Int.reduceNegSucc, reduceCtorEq, Nat.reduceEqDiff, ↓reduceIte, Nat.reduceAdd, Int.reduceEq, Int.reduceLT, Int.reduceLE, g2, g4, fldA, fld0, l50, l51, l52, hlen, ws, hgt]
  refine (rtake_spec (hw.fwd E5) (by simp)).mono ?_
  rintro w H6 ⟨v', s, rfl, q1, q2, q3, q4⟩
  have n6 := q4.next
  have es : s = nilS := by
    rcases q2 with ⟨e, _⟩ | ⟨_, _, _, _, _, _, _, _, h0⟩
    · exact e
    · exact absurd h0 (by simp)
  subst es
  have q1 : RW H6.next H6 v' [] 0 := q1
  obtain ⟨s6, rfl, o6s⟩ := rw_val q1
  obtain ⟨H7, m7, r7, k7, o7⟩ := row_newL H6 [.slice none 0 (.known 0), .int .i64 0] (n := 2) rfl
  have hvb : VB (.agg [s6, .int .i64 ((0 : Nat) : Int)]) (· < H.next) := q3 _ hw.vb
  obtain ⟨H8, m8, q8, w8, k8, o8⟩ := rw_store (q1.fwd (Ext.of_new k7 o7 (Nat.le_refl _))) (q := H6.next) ⟨_, rfl, rfl, r7⟩ (hvb.mono fun b hb => by omega)
  have m8' : oStore 2 H7 (cellR H6.next 2 0) (.agg [s6, .int .i64 0]) = some H8 := m8
  have l8 : oLoad true 2 H8 (cellR H6.next 2 0) = some (.agg [s6, .int .i64 0]) := q8.load
  have og8 : ∀ c, c < H5.next → H8.get c = H5.get c := fun c hc => by rw [o8 c (by omega), o7 c (by omega), q4.old c hc]
  obtain ⟨H9, m9, r9, k9, o9⟩ := row_storeK (r5'.same (og8 _ (by omega))) (n := 5) rfl (i := 2) (k := 2) (by omega) (xs := [s6, .int .i64 0]) rfl (by simp only [List.all_cons, List.all_nil, o6s]; rfl)
  have r9' : Row H9 H.next [s4, .int .i64 0, s6, .int .i64 0, .bool false] := r9
  have l9 : oLoad true 5 H9 (cellR H.next 5 0) = some (.agg [s4, .int .i64 0, s6, .int .i64 0, .bool false]) := row_loadN r9' (n := 5) rfl
  have R91 : Row H9 H1.next [.slice none 0 (.known 0), .int .i64 0, .slice none 0 (.known 0), .int .i64 0, .bool false] := r2.same (by rw [o9 _ (by omega), og8 _ (by omega), o5 _ (by omega), og _ (by omega)])
  obtain ⟨H10, m10, r10, k10, o10⟩ := row_storeN R91 (n := 5) rfl (xs := [s4, .int .i64 0, s6, .int .i64 0, .bool false]) rfl (by simp only [List.all_cons, List.all_nil, app_one A4, o6s]; rfl)
  simp only [sA, Int.reduceNegSucc, reduceCtorEq, Nat.reduceEqDiff, ↓reduceIte, Nat.reduceAdd, Int.reduceEq, Int.reduceLT, Int.reduceLE, g2, g4, fldA, fld0, ext_0, ext_1, m7, m8', l8, m9, l9, m10]
  refine fin_c3 _ _ _ _ _ (by simp only [sA, Int.reduceNegSucc, reduceCtorEq, Nat.reduceEqDiff, ↓reduceIte, Nat.reduceAdd, Int.reduceEq, Int.reduceLT, Int.reduceLE, g4]; exact row_loadN r10 (n := 5) rfl) ⟨s4, s6, by simp only [sA, Int.reduceNegSucc, reduceCtorEq, Nat.reduceEqDiff, ↓reduceIte, Nat.reduceAdd, Int.reduceEq, Int.reduceLT, Int.reduceLE]; try rfl, ⟨?_, ?_⟩, B4.mono fun b hb => by omega, fun P hP => q3 P hP, ⟨by omega, fun c hc => by rw [o10 c (by omega), o9 c (by omega), og8 c (by omega)]; exact E5.old c hc⟩⟩
  · exact A4.same (by omega) ((B4.and A4.blk').mono fun b hb => by rw [o10 b (by omega), o9 b (by omega), og8 b (by omega), o5 b (by omega)])
  · exact rw_same w8 (by omega) (hvb.mono fun b hb => by rw [o10 b (by omega), o9 b (by omega)])
def endB (b : Bs) : List Bool := blockB 0 b 0 b.length 1 ++ List.replicate (fillN (blockB 0 b 0 b.length 1).length) false
theorem endB_len (b : Bs) : (endB b).length % 8 = 0 := by
  unfold endB
  rw [List.length_append, List.length_replicate]
  exact fill_ok _
theorem blockB_len (b : Bs) (hb : b.length ≤ 600) : (blockB 0 b 0 b.length 1).length ≤ 60000 := by
  unfold blockB
  have h1 := storedB_len 0 ((b.drop 0).take (b.length - 0)) 1
  have h2 : ((b.drop 0).take (b.length - 0)).length ≤ 600 := by simp; omega
  split
  · omega
  · rename_i h
    have ht := toks_length b b.length (b.length - 0) 0
    have h3 := tokBs_len (toks b 0 b.length)
    have h4 := fixB_len 256
    have h5 : (toks b 0 b.length).length ≤ 600 := Nat.le_trans ht (by omega)
    simp only [fixedB, List.length_append, bitsN_len]
    omega
theorem endB_len2 (b : Bs) (hb : b.length ≤ 600) : (endB b).length ≤ 60010 := by
  have := blockB_len b hb
  unfold endB
  rw [List.length_append, List.length_replicate]
  have : fillN (blockB 0 b 0 b.length 1).length < 8 := by unfold fillN; omega
  omega
theorem pack_endB (b : Bs) : (List.range ((endB b).length / 8)).map (byteAt (endB b)) = pack (endB b) := by
  have := endB_len b
  unfold pack
  rw [show ((endB b).length + 7) / 8 = (endB b).length / 8 by omega]
end Go.Proofs.Zt
