/- Part of a proof (H3 H4 H5 H6 HP); no condition. -/
import Derived.Test.YthdkgakoogjoaaaP13
set_option linter.unusedSimpArgs false
set_option linter.unusedVariables false
set_option linter.unnecessarySimpa false
/- Http: is close among the words of a value; the values of a name: the contracts. -/
namespace Go.Proofs.Ht
open Go.Abs Go.Abs.S
set_option linter.unusedSimpArgs false
theorem decode_pos (s : ByteArray) (pos : Nat) : 1 ≤ (Utf8.decode s pos).2 := by
  simp only [Utf8.decode]
  repeat' split
  all_goals simp
theorem rune_none {s : Bs} {pos : Nat} : rune s pos = none ↔ s.length ≤ pos := by
  unfold rune
  rw [nthB_eq]
  cases h : s[pos]? with
  | none => simp [List.getElem?_eq_none_iff.1 h]
  | some c =>
    have hlt := (List.getElem?_eq_some_iff.1 h).1
    have : ¬ s.length ≤ pos := by omega
    cases hb : Nat.ble 128 c.toNat <;> simp [hb] <;> omega
theorem rune_pos {s : Bs} {pos r n : Nat} (h : rune s pos = some (r, n)) : 1 ≤ n ∧ pos < s.length := by
  constructor
  · unfold rune at h
    split at h
    · simp at h
    · rename_i c _
      cases hb : Nat.ble 128 c.toNat with
      | true =>
        rw [hb] at h
        simp only [cond_true, Option.some.injEq] at h
        have := decode_pos (strOf s) pos
        rw [h] at this; exact this
      | false =>
        rw [hb] at h
        simp only [cond_false, Option.some.injEq, Prod.mk.injEq] at h
        omega
  · by_cases hl : s.length ≤ pos
    · rw [rune_none.2 hl] at h; simp at h
    · omega
def itP (b : Nat) : AVal := .ptr (some ⟨b, 0, 0⟩)
theorem range_it (H : AHeap) (s : Bs) : aHf .strRange H [.str s] = some (itP H.next, H.push (.iter s 0)) := _root_.id rfl
theorem next_end {H : AHeap} {b : Nat} {s : Bs} {pos : Nat} (h : H.get b = some (.iter s pos)) (hr : rune s pos = none) : aHf .strNext H [itP b] = some (.tuple [.bool false], H) := by
  unfold rune at hr
  show aNext H [.ptr (some ⟨b, 0, 0⟩)] = _
  unfold aNext
  simp only [h]
  cases hn : nthB s pos with
  | none => rfl
  | some c =>
    rw [hn] at hr
    cases hb : Nat.ble 128 c.toNat <;> simp [hb] at hr
theorem next_some {H : AHeap} {b : Nat} {s : Bs} {pos r n : Nat} (h : H.get b = some (.iter s pos)) (hr : rune s pos = some (r, n)) : aHf .strNext H [itP b] = some (.tuple [.bool true, .int .i64 (pos : Int), .int .i32 (r : Int)], H.set b (.iter s (pos + n))) := by
  unfold rune at hr
  show aNext H [.ptr (some ⟨b, 0, 0⟩)] = _
  unfold aNext
  simp only [h]
  cases hn : nthB s pos with
  | none => rw [hn] at hr; simp at hr
  | some c =>
    rw [hn] at hr
    cases hb : Nat.ble 128 c.toNat with
    | true =>
      simp only [hb, cond_true, Option.some.injEq] at hr
      simp only [hb, cond_true, hr]
      rfl
    | false =>
      simp only [hb, cond_false, Option.some.injEq, Prod.mk.injEq] at hr
      obtain ⟨rfl, rfl⟩ := hr
      simp only [hb, cond_false]
      rfl
theorem un_xor {i : Nat} (h : i < 2 ^ 63) : ∃ z : Int, aUn .xor (.int .i64 (i : Int)) = some (.int .i64 z) ∧ z < 0 := by
  refine ⟨_, rfl, ?_⟩
  have e : (BitVec.ofInt IntKind.i64.bits (if IntKind.i64.signed then -1 else IntKind.i64.max) ^^^ BitVec.ofInt IntKind.i64.bits (i : Int)).toNat = 2 ^ 64 - 1 - i := by
    show (BitVec.ofInt 64 (-1) ^^^ BitVec.ofInt 64 (i : Int)).toNat = _
    have h1 : BitVec.ofInt 64 (-1) = BitVec.allOnes 64 := by decide
    rw [h1, BitVec.allOnes_xor, BitVec.toNat_not, ofInt_nat, Nat.mod_eq_of_lt (by omega)]
  rw [e, IntKind.wrap_i64]
  omega
theorem sep_spec (r : Nat) {H : AHeap} : ACalls Try.prog natH 65 [.int .i32 (r : Int)] H fun v H' => v = .bool (sepR r) ∧ H = H' := by
  refine acalls_ofN rfl za65 rfl ?_
  have e : sepR r = (decide ((r : Int) = 44) || (decide ((r : Int) = 32) || decide ((r : Int) = 9))) := by
    rw [Bool.eq_iff_iff]; simp only [sepR, Bool.or_eq_true, decide_eq_true_eq]; omega
  rw [e]
  by_cases h1 : (r : Int) = 44 <;> by_cases h2 : (r : Int) = 32 <;> by_cases h3 : (r : Int) = 9
  all_goals first
    | (exfalso; omega)
    | (simp only [c65, sW, sL, aw_block, sXs, sXO, sXP, Int.reduceNegSucc, reduceCtorEq, Nat.reduceEqDiff, ↓reduceIte, Nat.reduceAdd, Int.reduceEq, Int.reduceLT, Int.reduceLE, h1, h2, h3]
       exact ⟨by simp, (by first | trivial | rfl | assumption)⟩)
def spC (l : List (Nat × Nat)) : List AVal := l.flatMap fun p => [.int .i64 (p.1 : Int), .int .i64 (p.2 : Int)]
theorem spC_snoc (l : List (Nat × Nat)) (p : Nat × Nat) : spC (l ++ [p]) = spC l ++ [.int .i64 (p.1 : Int), .int .i64 (p.2 : Int)] := by simp [spC]
theorem spC_at {l : List (Nat × Nat)} {i : Nat} {p : Nat × Nat} (h : l[i]? = some p) : ((spC l).drop (i * 2)).take 2 = [.int .i64 (p.1 : Int), .int .i64 (p.2 : Int)] := by
  induction l generalizing i with
  | nil => simp at h
  | cons q l ih =>
    cases i with
    | zero => simp at h; subst h; simp [spC]
    | succ i =>
      have := ih (by simpa using h)
      have e : (i + 1) * 2 = i * 2 + 2 := by omega
      rw [e]
      simpa [spC] using this
def partS (s : Bs) (p : Nat × Nat) : Bs := (s.drop p.1).take (p.2 - p.1)
theorem buildP (z : List AVal) (a b : AVal) (h : z = [.int .i64 0, .int .i64 0]) (ha : a.one = true) (hb : b.one = true) : aBuild z [(0, 1, a), (1, 1, b)] = some (.agg [a, b]) := by
  subst h
  simp only [aBuild, aFill, cells_one ha, cells_one hb]
  rfl
theorem ff_spec (s : Bs) (hs : s.length ≤ 1000000) {H : AHeap} : ACalls Try.prog natH 64 [.str s, .func (.func 65) [] []] H fun v H' => Cel H'.next H' v (strs ((fields s).map (partS s))) ∧ (fields s).length ≤ s.length + 1 ∧ Ext H.next H H' := by
  refine acalls_ofN rfl za64 rfl ?_
  obtain ⟨v0, H0, m0, G0, E0, k0, B0⟩ := GrN.make (m := 2) (bytes := 16) (cap := 32) (z := [.int .i64 0, .int .i64 0]) H rfl (by omega) (by omega) (Nat.zero_le _)
  have m0' : aMake 16 [.int .i64 0, .int .i64 0] H (.int .i64 0) (.int .i64 32) = some (v0, H0) := m0
  simp only [c64, sW, sL, aw_block, sXs, sXO, sXP, Int.reduceNegSucc, reduceCtorEq, Nat.reduceEqDiff, ↓reduceIte, Nat.reduceAdd, Int.reduceEq, Int.reduceLT, Int.reduceLE, m0', range_it]
  have G1 : GrN 2 0 (H0.push (.iter s 0)) v0 [] 0 := G0.same (by rw [push_next]; omega) (G0.blk.mono fun b hb => get_push_lt hb)
  refine aw_cut (fun (T : Env) H' => ∃ (l : List (Nat × Nat)) (b : Option Nat) (z : Int), T 0 = .str s ∧ T 6 = .int .i64 z ∧ (match b with | some i => z = (i : Int) ∧ i ≤ s.length | none => z < 0) ∧ GrN 2 0 H' (T 5) (spC l) l.length ∧ Blk (T 5) (H.next ≤ ·) ∧ (∀ p ∈ l, p.1 ≤ p.2 ∧ p.2 ≤ s.length) ∧ l.length ≤ s.length ∧ spans s (s.length + 1) 0 none [] = (b, l) ∧ Ext H.next H H') (calls_mono _ _) ?_ ?_
  · refine aw_loop (fun q (T : Env) H' => ∃ (l : List (Nat × Nat)) (b : Option Nat) (z : Int) (pos f : Nat), q = s.length - pos ∧ s.length + 1 ≤ f + pos ∧ T 0 = .str s ∧ T 1 = .func (.func 65) [] [] ∧ T 6 = .int .i64 z ∧ T 14 = itP H0.next ∧ H'.get H0.next = some (.iter s pos) ∧ H0.next < H'.next ∧ Blk (T 5) (H0.next ≠ ·) ∧ Blk (T 5) (H.next ≤ ·) ∧ (match b with | some i => z = (i : Int) ∧ i ≤ pos ∧ i ≤ s.length | none => z < 0) ∧ GrN 2 0 H' (T 5) (spC l) l.length ∧ (∀ p ∈ l, p.1 ≤ p.2 ∧ p.2 ≤ s.length) ∧ l.length ≤ pos ∧ l.length ≤ s.length ∧ spans s f pos b l = spans s (s.length + 1) 0 none [] ∧ Ext H.next H H') s.length
      ⟨[], none, -1, 0, s.length + 1, rfl, by omega, by simp only [sW, sL, aw_block, sXs, sXO, sXP, Int.reduceNegSucc, reduceCtorEq, Nat.reduceEqDiff, ↓reduceIte, Nat.reduceAdd, Int.reduceEq, Int.reduceLT, Int.reduceLE]; try rfl, by simp only [sW, sL, aw_block, sXs, sXO, sXP, Int.reduceNegSucc, reduceCtorEq, Nat.reduceEqDiff, ↓reduceIte, Nat.reduceAdd, Int.reduceEq, Int.reduceLT, Int.reduceLE]; try rfl, by simp only [sW, sL, aw_block, sXs, sXO, sXP, Int.reduceNegSucc, reduceCtorEq, Nat.reduceEqDiff, ↓reduceIte, Nat.reduceAdd, Int.reduceEq, Int.reduceLT, Int.reduceLE]; try rfl, by simp only [sW, sL, aw_block, sXs, sXO, sXP, Int.reduceNegSucc, reduceCtorEq, Nat.reduceEqDiff, ↓reduceIte, Nat.reduceAdd, Int.reduceEq, Int.reduceLT, Int.reduceLE]; try rfl, by rw [AHeap.get_push]; exact if_pos rfl, Nat.lt_succ_self _, by simp only [sW, sL, aw_block, sXs, sXO, sXP, Int.reduceNegSucc, reduceCtorEq, Nat.reduceEqDiff, ↓reduceIte, Nat.reduceAdd, Int.reduceEq, Int.reduceLT, Int.reduceLE]; exact B0.mono fun b hb => by omega, by simp only [sW, sL, aw_block, sXs, sXO, sXP, Int.reduceNegSucc, reduceCtorEq, Nat.reduceEqDiff, ↓reduceIte, Nat.reduceAdd, Int.reduceEq, Int.reduceLT, Int.reduceLE]; exact B0.mono fun b hb => by omega, by show (-1 : Int) < 0; omega, by simp only [sW, sL, aw_block, sXs, sXO, sXP, Int.reduceNegSucc, reduceCtorEq, Nat.reduceEqDiff, ↓reduceIte, Nat.reduceAdd, Int.reduceEq, Int.reduceLT, Int.reduceLE]; exact G1, by simp, by simp, by simp, rfl, (E0.push (by have := E0.next; omega) _)⟩ ?_
    rintro q T H' ⟨l, b, z, pos, f, rfl, hf, g0, g1, g6, g14, hit, hlt, hd, hlo, hz, hG, hp, hl, hl2, hsp, E⟩
    by_cases hr : rune s pos = none
    · have e : spans s f pos b l = (b, l) := by
        cases f with
        | zero => rfl
        | succ f => simp only [spans, hr]
      rw [e] at hsp
      have e0 : aExtract 0 (.tuple [.bool false]) = some (.bool false) := rfl
      simp only [sW, sL, aw_block, sXs, sXO, sXP, Int.reduceNegSucc, reduceCtorEq, Nat.reduceEqDiff, ↓reduceIte, Nat.reduceAdd, Int.reduceEq, Int.reduceLT, Int.reduceLE, g0, g1, g6, g14, next_end hit hr, e0]
      refine ⟨l, b, z, (by first | trivial | rfl | assumption), (by first | trivial | rfl | assumption), ?_, hG, hlo, hp, hl2, hsp.symm, E⟩
      cases b with
      | none => exact hz
      | some i => exact ⟨hz.1, hz.2.2⟩
    · obtain ⟨⟨r, n⟩, hr⟩ := Option.ne_none_iff_exists'.1 hr
      obtain ⟨hn1, hpl⟩ := rune_pos hr
      obtain ⟨f, rfl⟩ : ∃ k, f = k + 1 := ⟨f - 1, by omega⟩
      obtain ⟨H1, e1⟩ : ∃ K, K = H'.set H0.next (.iter s (pos + n)) := ⟨_, rfl⟩
      have k1 : H1.next = H'.next := by rw [e1]; rfl
      have i1 : H1.get H0.next = some (.iter s (pos + n)) := by rw [e1, AHeap.get_set, if_pos rfl]
      have o1 : ∀ c, c ≠ H0.next → H1.get c = H'.get c := fun c hc => by rw [e1, AHeap.get_set, if_neg hc]
      have hG1 : GrN 2 0 H1 (T 5) (spC l) l.length := hG.same (by omega) (hd.mono fun c hc => o1 c hc.symm)
      have E1 : Ext H.next H H1 := ⟨by have := E.next; omega, fun c hc => by rw [o1 c (by omega)]; exact E.old c hc⟩
      simp only [sW, sL, aw_block, sXs, sXO, sXP, Int.reduceNegSucc, reduceCtorEq, Nat.reduceEqDiff, ↓reduceIte, Nat.reduceAdd, Int.reduceEq, Int.reduceLT, Int.reduceLE, g0, g1, g6, g14, next_some hit hr, ← e1, ext_0, ext_1, ext_2]
      refine (sep_spec r).mono ?_
      rintro v _ ⟨rfl, rfl⟩
      rw [spans, hr] at hsp
      cases hb : sepR r with
      | true =>
        simp only [hb, if_true] at hsp
        cases b with
        | none =>
          have hz' : ¬ (0 : Int) ≤ z := by
            have : z < 0 := hz
            omega
          simp only [sW, sL, aw_block, sXs, sXO, sXP, Int.reduceNegSucc, reduceCtorEq, Nat.reduceEqDiff, ↓reduceIte, Nat.reduceAdd, Int.reduceEq, Int.reduceLT, Int.reduceLE, g0, g1, g6, g14, hz']
          exact ⟨_, by omega, l, none, z, pos + n, f, rfl, by omega, (by first | trivial | rfl | assumption), (by first | trivial | rfl | assumption), (by first | trivial | rfl | assumption), (by first | trivial | rfl | assumption), i1, by omega, hd, hlo, hz, hG1, hp, by omega, hl2, hsp, E1⟩
        | some i =>
          obtain ⟨rfl, hi1, hi2⟩ := hz
          have hz' : (0 : Int) ≤ (i : Int) := by omega
          obtain ⟨zx, x1, x2⟩ := un_xor (i := i) (by omega)
          obtain ⟨s', H2, m2, G2, n2, b2, o2⟩ := hG1.push (xs := [.int .i64 (i : Int), .int .i64 (pos : Int)]) rfl rfl (by omega) (bytes := 16) (by omega) (by omega)
          have bp : aBuild [.int .i64 0, .int .i64 0] [(0, 1, .int .i64 (i : Int)), (1, 1, .int .i64 (pos : Int))] = some (.agg [.int .i64 (i : Int), .int .i64 (pos : Int)]) := rfl
          have bm := buildM (m := 2) (z := [.int .i64 0, .int .i64 0]) (xs := [.int .i64 (i : Int), .int .i64 (pos : Int)]) H1 rfl rfl
          simp only [sW, sL, aw_block, sXs, sXO, sXP, Int.reduceNegSucc, reduceCtorEq, Nat.reduceEqDiff, ↓reduceIte, Nat.reduceAdd, Int.reduceEq, Int.reduceLT, Int.reduceLE, g0, g1, g6, g14, hz', bp, bm, m2, x1]
          refine ⟨_, by omega, l ++ [(i, pos)], none, zx, pos + n, f, rfl, by omega, (by first | trivial | rfl | assumption), (by first | trivial | rfl | assumption), (by first | trivial | rfl | assumption), (by first | trivial | rfl | assumption), by rw [o2 _ (by omega) hd]; exact i1, by omega, (b2 _ hd).mono fun c hc => by omega, (b2 _ hlo).mono fun c hc => by have := E1.next; omega, x2, by rw [spC_snoc, List.length_append]; exact G2, ?_, by simp; omega, ?_, hsp, ⟨by have := E1.next; omega, fun c hc => by rw [o2 c (by have := E1.next; omega) (hlo.mono fun d hd => by omega)]; exact E1.old c hc⟩⟩
          · intro p hpm
            rcases List.mem_append.1 hpm with h | h
            · exact hp p h
            · have : p = (i, pos) := by simpa using h
              rw [this]; exact ⟨hi1, by show pos ≤ s.length; omega⟩
          · simp; omega
      | false =>
        simp only [hb, Bool.false_eq_true, if_false] at hsp
        cases b with
        | none =>
          have hz' : z < 0 := hz
          simp only [sW, sL, aw_block, sXs, sXO, sXP, Int.reduceNegSucc, reduceCtorEq, Nat.reduceEqDiff, ↓reduceIte, Nat.reduceAdd, Int.reduceEq, Int.reduceLT, Int.reduceLE, g0, g1, g6, g14, hz']
          exact ⟨_, by omega, l, some pos, (pos : Int), pos + n, f, rfl, by omega, (by first | trivial | rfl | assumption), (by first | trivial | rfl | assumption), (by first | trivial | rfl | assumption), (by first | trivial | rfl | assumption), i1, by omega, hd, hlo, ⟨rfl, by omega, by omega⟩, hG1, hp, by omega, hl2, hsp, E1⟩
        | some i =>
          obtain ⟨rfl, hi1, hi2⟩ := hz
          have hz' : ¬ (i : Int) < 0 := by omega
          simp only [sW, sL, aw_block, sXs, sXO, sXP, Int.reduceNegSucc, reduceCtorEq, Nat.reduceEqDiff, ↓reduceIte, Nat.reduceAdd, Int.reduceEq, Int.reduceLT, Int.reduceLE, g0, g1, g6, g14, hz']
          exact ⟨_, by omega, l, some i, (i : Int), pos + n, f, rfl, by omega, (by first | trivial | rfl | assumption), (by first | trivial | rfl | assumption), (by first | trivial | rfl | assumption), (by first | trivial | rfl | assumption), i1, by omega, hd, hlo, ⟨rfl, by omega, hi2⟩, hG1, hp, by omega, hl2, hsp, E1⟩
  · rintro T H' ⟨l, b, z, g0, g6, hz, hG, hlo, hp, hl, hsp, E⟩
    rw [inSeq_normal]
    refine aw_seqF (fun (T : Env) H' => T 0 = .str s ∧ GrN 2 0 H' (T 5) (spC (fields s)) (fields s).length ∧ (∀ p ∈ fields s, p.1 ≤ p.2 ∧ p.2 ≤ s.length) ∧ (fields s).length ≤ s.length + 1 ∧ Ext H.next H H') (calls_mono _ _) ?_ ?_
    · cases b with
      | none =>
        have e : fields s = l := by rw [fields, hsp]
        have hz' : ¬ (0 : Int) ≤ z := by
          have : z < 0 := hz
          omega
        simp only [sW, sL, aw_block, sXs, sXO, sXP, Int.reduceNegSucc, reduceCtorEq, Nat.reduceEqDiff, ↓reduceIte, Nat.reduceAdd, Int.reduceEq, Int.reduceLT, Int.reduceLE, g0, g6, hz']
        exact ⟨(by first | trivial | rfl | assumption), by rw [e]; exact hG, by rw [e]; exact hp, by rw [e]; omega, E⟩
      | some i =>
        have e : fields s = l ++ [(i, s.length)] := by rw [fields, hsp]
        obtain ⟨rfl, hi2⟩ := hz
        have hz' : (0 : Int) ≤ (i : Int) := by omega
        obtain ⟨s', H2, m2, G2, n2, b2, o2⟩ := hG.push (xs := [.int .i64 (i : Int), .int .i64 (s.length : Int)]) rfl rfl (by omega) (bytes := 16) (by omega) (by omega)
        have bp : aBuild [.int .i64 0, .int .i64 0] [(0, 1, .int .i64 (i : Int)), (1, 1, .int .i64 (s.length : Int))] = some (.agg [.int .i64 (i : Int), .int .i64 (s.length : Int)]) := rfl
        have bm := buildM (m := 2) (z := [.int .i64 0, .int .i64 0]) (xs := [.int .i64 (i : Int), .int .i64 (s.length : Int)]) H' rfl rfl
        simp only [sW, sL, aw_block, sXs, sXO, sXP, Int.reduceNegSucc, reduceCtorEq, Nat.reduceEqDiff, ↓reduceIte, Nat.reduceAdd, Int.reduceEq, Int.reduceLT, Int.reduceLE, g0, g6, hz', bp, bm, m2]
        refine ⟨(by first | trivial | rfl | assumption), by rw [e, spC_snoc, List.length_append]; exact G2, ?_, by rw [e]; simp; omega, ⟨by have := E.next; omega, fun c hc => by rw [o2 c (by have := E.next; omega) (hlo.mono fun d hd => by omega)]; exact E.old c hc⟩⟩
        rw [e]
        intro p hpm
        rcases List.mem_append.1 hpm with h | h
        · exact hp p h
        · have : p = (i, s.length) := by simpa using h
          rw [this]; exact ⟨hi2, Nat.le_refl _⟩
    · clear hsp hp hl hG hlo hz g0 g6 E T H'
      rintro T H' ⟨g0, hG, hp, hl, E⟩
      generalize hfl : fields s = l at *
      obtain ⟨H1, m1, R1, k1, o1⟩ := row_make1 (H := H') (z := .str []) (bytes := 16) (k := l.length) (by omega) (by omega)
      have E1 : Ext H.next H H1 := ⟨by have := E.next; omega, fun c hc => by rw [o1 _ (by have := E.next; omega)]; exact E.old c hc⟩
      have hG1 : GrN 2 0 H1 (T 5) (spC l) l.length := hG.same (by omega) (hG.blk.mono fun c hc => o1 c (by omega))
      simp only [sW, sL, aw_block, sXs, sXO, sXP, Int.reduceNegSucc, reduceCtorEq, Nat.reduceEqDiff, ↓reduceIte, Nat.reduceAdd, Int.reduceEq, Int.reduceLT, Int.reduceLE, g0, hG.len, m1]
      refine aw_loop (fun q (T2 : Env) H2 => ∃ j : Nat, j ≤ l.length ∧ q = l.length - j ∧ T2 0 = .str s ∧ T2 9 = slR H'.next l.length (.known l.length) ∧ T2 47 = T 5 ∧ T2 48 = .int .i64 (l.length : Int) ∧ T2 49 = .int .i64 (j : Int) ∧ Row H2 H'.next (strs ((l.take j).map (partS s)) ++ List.replicate (l.length - j) (.str [])) ∧ GrN 2 0 H2 (T 5) (spC l) l.length ∧ H'.next < H2.next ∧ Ext H.next H H2) l.length
        ⟨0, Nat.zero_le _, rfl, by simp only [sW, sL, aw_block, sXs, sXO, sXP, Int.reduceNegSucc, reduceCtorEq, Nat.reduceEqDiff, ↓reduceIte, Nat.reduceAdd, Int.reduceEq, Int.reduceLT, Int.reduceLE, g0]; try rfl, by simp only [sW, sL, aw_block, sXs, sXO, sXP, Int.reduceNegSucc, reduceCtorEq, Nat.reduceEqDiff, ↓reduceIte, Nat.reduceAdd, Int.reduceEq, Int.reduceLT, Int.reduceLE]; try rfl, by simp only [sW, sL, aw_block, sXs, sXO, sXP, Int.reduceNegSucc, reduceCtorEq, Nat.reduceEqDiff, ↓reduceIte, Nat.reduceAdd, Int.reduceEq, Int.reduceLT, Int.reduceLE]; try rfl, by simp only [sW, sL, aw_block, sXs, sXO, sXP, Int.reduceNegSucc, reduceCtorEq, Nat.reduceEqDiff, ↓reduceIte, Nat.reduceAdd, Int.reduceEq, Int.reduceLT, Int.reduceLE]; try rfl, by simp only [sW, sL, aw_block, sXs, sXO, sXP, Int.reduceNegSucc, reduceCtorEq, Nat.reduceEqDiff, ↓reduceIte, Nat.reduceAdd, Int.reduceEq, Int.reduceLT, Int.reduceLE]; try rfl, by simpa [strs] using R1, hG1, by omega, E1⟩ ?_
      rintro q T2 H2 ⟨j, hj, rfl, f0, f9, f47, f48, f49, hR, hG2, hn2, E2⟩
      have hlen : (strs ((l.take j).map (partS s)) ++ List.replicate (l.length - j) (AVal.str [])).length = l.length := by simp [strs]; omega
      by_cases hlt : j < l.length
      · have hlt' : (j : Int) < (l.length : Int) := by omega
        obtain ⟨p, hpj⟩ := isSome_of_lt hlt
        obtain ⟨hp1, hp2⟩ := hp p (List.mem_of_getElem? hpj)
        obtain ⟨b, lim, a1, a2⟩ := hG2.at hlt
        rw [spC_at hpj] at a2
        obtain ⟨H3, m3, r3, k3, o3⟩ := row_newL H2 [.int .i64 0, .int .i64 0] (n := 2) rfl
        obtain ⟨H4, m4, r4, k4, o4⟩ := row_storeN r3 (n := 2) rfl (xs := [.int .i64 (p.1 : Int), .int .i64 (p.2 : Int)]) rfl rfl
        have R4 := hR.same (H' := H4) (by rw [o4 _ (by omega), o3 _ (by omega)])
        have hj4 : j < (strs ((l.take j).map (partS s)) ++ List.replicate (l.length - j) (AVal.str [])).length := by omega
        obtain ⟨H5, m5, r5, k5, o5⟩ := row_store R4 hlen hlt (x := .str (partS s p)) rfl
        have hsl := str_sl (s := s) hp1 hp2
        simp only [sW, sL, aw_block, sXs, sXO, sXP, Int.reduceNegSucc, reduceCtorEq, Nat.reduceEqDiff, ↓reduceIte, Nat.reduceAdd, Int.reduceEq, Int.reduceLT, Int.reduceLE, f0, f9, f47, f48, f49, hlt', a1, a2, m3, m4, fld0, row_load r4 (n := 2) rfl (i := 0) rfl, row_load r4 (n := 2) rfl (i := 1) rfl, hsl, row_idx .i64 hlt]
        have m5' : oStore 1 H4 (cellR H'.next l.length j) (.str ((s.drop p.1).take (p.2 - p.1))) = some H5 := m5
        simp only [sW, sL, aw_block, sXs, sXO, sXP, Int.reduceNegSucc, reduceCtorEq, Nat.reduceEqDiff, ↓reduceIte, Nat.reduceAdd, Int.reduceEq, Int.reduceLT, Int.reduceLE, m5', f49, wrap1 j (by omega)]
        have hbk : Blk (T 5) (· < H'.next) := hG.blk
        refine ⟨_, by omega, j + 1, by omega, rfl, (by first | trivial | rfl | assumption), (by first | trivial | rfl | assumption), (by first | trivial | rfl | assumption), (by first | trivial | rfl | assumption), (by first | trivial | rfl | assumption), ?_, hG2.same (by omega) (hbk.mono fun c hc => by rw [o5 _ (by omega), o4 _ (by omega), o3 _ (by omega)]), by omega, ⟨by have := E2.next; omega, fun c hc => by rw [o5 _ (by have := E.next; omega), o4 _ (by have := E2.next; omega), o3 _ (by have := E2.next; omega)]; exact E2.old c hc⟩⟩
        have e : (strs ((l.take j).map (partS s)) ++ List.replicate (l.length - j) (AVal.str [])).set j (.str (partS s p)) = strs ((l.take (j + 1)).map (partS s)) ++ List.replicate (l.length - (j + 1)) (AVal.str []) := by
          have h1 : (strs ((l.take j).map (partS s))).length = j := by simp [strs]; omega
          have h2 : List.replicate (l.length - j) (AVal.str []) = .str [] :: List.replicate (l.length - (j + 1)) (AVal.str []) := by
            rw [show l.length - j = (l.length - (j + 1)) + 1 by omega, List.replicate_succ]
          rw [h2]
          have h3 := set_snoc (strs ((l.take j).map (partS s))) (List.replicate (l.length - (j + 1)) (AVal.str [])) (AVal.str []) (.str (partS s p))
          rw [h1] at h3
          rw [h3, List.take_add_one, hpj]
          simp [strs]
        rw [e] at r5
        exact r5
      · have hlt' : ¬ (j : Int) < (l.length : Int) := by omega
        have hj : j = l.length := by omega
        subst hj
        rw [List.take_length, Nat.sub_self, List.replicate_zero, List.append_nil] at hR
        simp only [sW, sL, aw_block, sXs, sXO, sXP, Int.reduceNegSucc, reduceCtorEq, Nat.reduceEqDiff, ↓reduceIte, Nat.reduceAdd, Int.reduceEq, Int.reduceLT, Int.reduceLE, f0, f9, f47, f48, f49, hlt']
        refine ⟨?_, hl, E2⟩
        have := hR.cel (n := l.length) (r := .known l.length) (m := H2.next) (by simp [strs]) hn2
        exact this
theorem closes_spec (s : Bs) (hs : s.length ≤ 1000000) {H : AHeap} : ACalls Try.prog natH 60 [.str s] H fun v H' => v = .bool (closesF s) ∧ Ext H.next H H' := by
  refine acalls_ofN rfl za60 rfl ?_
  simp only [c60, sW, sL, aw_block, sXs, sXO, sXP, Int.reduceNegSucc, reduceCtorEq, Nat.reduceEqDiff, ↓reduceIte, Nat.reduceAdd, Int.reduceEq, Int.reduceLT, Int.reduceLE]
  refine (ff_spec s hs).mono ?_
  rintro v H1 ⟨hC, hfl, E1⟩
  obtain ⟨l, hl⟩ : ∃ l, l = (fields s).map (partS s) := ⟨_, rfl⟩
  rw [← hl] at hC
  have hlen := hC.len
  have hsl : (strs l).length = l.length := strs_len l
  rw [hsl] at hlen
  have hcl : closesF s = l.any fun p => decide (low p = closeW) := by rw [closesF, hl, List.any_map]; rfl
  have hll : l.length ≤ 2000000 := by rw [hl, List.length_map]; omega
  simp only [sW, sL, aw_block, sXs, sXO, sXP, Int.reduceNegSucc, reduceCtorEq, Nat.reduceEqDiff, ↓reduceIte, Nat.reduceAdd, Int.reduceEq, Int.reduceLT, Int.reduceLE, hlen]
  refine aw_loop (fun q (T : Env) H' => ∃ j : Nat, j ≤ l.length ∧ q = l.length - j ∧ T 8 = v ∧ T 9 = .int .i64 (l.length : Int) ∧ T 10 = .int .i64 (j : Int) ∧ ((l.take j).any fun p => decide (low p = closeW)) = false ∧ Ext H1.next H1 H') l.length
    ⟨0, Nat.zero_le _, rfl, by simp only [sW, sL, aw_block, sXs, sXO, sXP, Int.reduceNegSucc, reduceCtorEq, Nat.reduceEqDiff, ↓reduceIte, Nat.reduceAdd, Int.reduceEq, Int.reduceLT, Int.reduceLE]; try rfl, by simp only [sW, sL, aw_block, sXs, sXO, sXP, Int.reduceNegSucc, reduceCtorEq, Nat.reduceEqDiff, ↓reduceIte, Nat.reduceAdd, Int.reduceEq, Int.reduceLT, Int.reduceLE]; try rfl, by simp only [sW, sL, aw_block, sXs, sXO, sXP, Int.reduceNegSucc, reduceCtorEq, Nat.reduceEqDiff, ↓reduceIte, Nat.reduceAdd, Int.reduceEq, Int.reduceLT, Int.reduceLE]; try rfl, rfl, Ext.refl _ _⟩ ?_
  rintro q T H' ⟨j, hj, rfl, g8, g9, g10, hA, E⟩
  have hC' := hC.ext E
  by_cases hlt : j < l.length
  · have hlt' : (j : Int) < (l.length : Int) := by omega
    obtain ⟨p, hp⟩ := isSome_of_lt hlt
    have hpl : p.length ≤ 1000000 := by
      have := List.mem_of_getElem? hp
      rw [hl] at this
      obtain ⟨x, _, rfl⟩ := List.mem_map.1 this
      simp only [partS, List.length_take, List.length_drop]; omega
    simp only [sW, sL, aw_block, sXs, sXO, sXP, Int.reduceNegSucc, reduceCtorEq, Nat.reduceEqDiff, ↓reduceIte, Nat.reduceAdd, Int.reduceEq, Int.reduceLT, Int.reduceLE, g8, g9, g10, hlt', hC'.idx .i64 (show j < (strs l).length by omega), hC'.load (strs_get hp)]
    refine (lower_spec p hpl).mono ?_
    rintro v2 H2 ⟨rfl, E2⟩
    by_cases he : low p = closeW
    · have he' : low p = [99, 108, 111, 115, 101] := he
      simp only [sW, sL, aw_block, sXs, sXO, sXP, Int.reduceNegSucc, reduceCtorEq, Nat.reduceEqDiff, ↓reduceIte, Nat.reduceAdd, Int.reduceEq, Int.reduceLT, Int.reduceLE, g8, g9, g10, eq_true he']
      refine ⟨?_, (E1.trans (E.less E1.next)).trans (E2.less (by have := E1.next; have := E.next; omega))⟩
      have : (l.any fun p => decide (low p = closeW)) = true := List.any_eq_true.2 ⟨p, List.mem_of_getElem? hp, by simp [he]⟩
      rw [hcl, this]
    · have he' : ¬ low p = [99, 108, 111, 115, 101] := he
      simp only [sW, sL, aw_block, sXs, sXO, sXP, Int.reduceNegSucc, reduceCtorEq, Nat.reduceEqDiff, ↓reduceIte, Nat.reduceAdd, Int.reduceEq, Int.reduceLT, Int.reduceLE, g8, g9, g10, eq_false he', wrap1 j (by omega)]
      refine ⟨_, by omega, j + 1, by omega, rfl, (by first | trivial | rfl | assumption), (by first | trivial | rfl | assumption), (by first | trivial | rfl | assumption), ?_, E.trans (E2.less E.next)⟩
      rw [List.take_add_one, hp, List.any_append, hA]; simp [he]
  · have hlt' : ¬ (j : Int) < (l.length : Int) := by omega
    rw [List.take_of_length_le (by omega)] at hA
    simp only [sW, sL, aw_block, sXs, sXO, sXP, Int.reduceNegSucc, reduceCtorEq, Nat.reduceEqDiff, ↓reduceIte, Nat.reduceAdd, Int.reduceEq, Int.reduceLT, Int.reduceLE, g8, g9, g10, hlt']
    exact ⟨by rw [hcl, hA], E1.trans (E.less E1.next)⟩
end Go.Proofs.Ht
/- Http: the parser as it lies in memory; reset, size, a request that is whole: the contracts. -/
namespace Go.Proofs.Ht
open Go.Abs Go.Abs.S
set_option linter.unusedSimpArgs false
def hsSz (hs : List (Bs × Bs)) : Nat := (hs.map fun h => h.1.length + h.2.length).sum
def rqSz (r : Rq) : Nat := r.m.length + r.t.length + r.body.length + hsSz r.hs
def sumSz (rd : List Rq) : Nat := (rd.map rqSz).sum
def szF (rd : List Rq) : Int := IntKind.i64.wrap (sumSz rd : Int)
def rqC (r : Rq) (vh vb : AVal) : List AVal := [.str r.m, .str r.t, vh, vb, .bool r.close]
def pC (p : Nat) (s : PS) (vl vh vb vr : AVal) (sz : Int) : List AVal :=
  [cellR p 15 0, .int .i64 (s.st : Int), .int .i64 (s.fault : Int), vl, .bool s.blank, .str s.now.m, .str s.now.t, vh, vb, .bool s.now.close, .int .i64 (s.need : Int), .int .i64 (s.trailers : Int), .int .i64 (s.fed : Int), vr, .int .i64 sz]
/-- the parts: the line, headers, the body, requests that are ready; each block has its mark -/
def LC (n : Nat) (τ : Nat → Nat) (H : AHeap) (v : AVal) (l : Bs) (k : Nat) : Prop := Lin H v l ∧ Blk v fun b => b < n ∧ τ b = k
def HC (n : Nat) (τ : Nat → Nat) (H : AHeap) (v : AVal) (hs : List (Bs × Bs)) : Prop := AppN 2 0 H v (prC hs) hs.length ∧ Blk v fun b => b < n ∧ τ b = 3
def RqAt (n : Nat) (τ : Nat → Nat) (H : AHeap) (cs : List AVal) (r : Rq) : Prop := ∃ vh vb, cs = rqC r vh vb ∧ vh.one = true ∧ vb.one = true ∧ Prs n H vh r.hs ∧ Cel n H vb (byts r.body) ∧ Blk vh (fun b => τ b = 6) ∧ Blk vb fun b => τ b = 6
def RC (t n : Nat) (τ : Nat → Nat) (H : AHeap) (v : AVal) (rd : List Rq) : Prop :=
  (v = nilS ∧ rd = []) ∨ ∃ b o low L, v = .slice (some ⟨b, L.length, o⟩) rd.length (.open_ 5) ∧ H.get b = some (.cells L low false) ∧ low ≤ L.length ∧ o + rd.length * 5 = L.length ∧ b < n ∧ τ b = t ∧ ∀ i r, rd[i]? = some r → RqAt n τ H ((L.drop (o + i * 5)).take 5) r
theorem LC.fr {n n' k : Nat} {τ τ' : Nat → Nat} {H H' : AHeap} {v : AVal} {l : Bs} (h : LC n τ H v l k) (hn : n ≤ n') (hH : H.next ≤ H'.next) (ht : ∀ c, c < n → τ c = k → τ' c = k) (e : ∀ c, c < n → τ c = k → H'.get c = H.get c) : LC n' τ' H' v l k :=
  ⟨h.1.same hH (h.2.mono fun b hb => e b hb.1 hb.2), h.2.mono fun b hb => ⟨by omega, ht b hb.1 hb.2⟩⟩
theorem HC.fr {n n' : Nat} {τ τ' : Nat → Nat} {H H' : AHeap} {v : AVal} {l : List (Bs × Bs)} (h : HC n τ H v l) (hn : n ≤ n') (hH : H.next ≤ H'.next) (ht : ∀ c, c < n → τ c = 3 → τ' c = 3) (e : ∀ c, c < n → τ c = 3 → H'.get c = H.get c) : HC n' τ' H' v l :=
  ⟨h.1.same hH (h.2.mono fun b hb => e b hb.1 hb.2), h.2.mono fun b hb => ⟨by omega, ht b hb.1 hb.2⟩⟩
theorem _root_.Go.Abs.S.Prs.fr {n n' : Nat} {H H' : AHeap} {s : AVal} {l : List (List UInt8 × List UInt8)} (h : Prs n H s l) (hn : n ≤ n') (e : Blk s fun b => H'.get b = H.get b) : Prs n' H' s l := by
  rcases h with h | ⟨a, r, rfl, h2, h3⟩
  · exact .inl h
  · exact .inr ⟨a, r, rfl, by omega, fun i p hp => by
    have he : H'.get a.b = H.get a.b := e a _ _ rfl
    rw [rd_congr (a := ⟨a.b, a.lim, a.o + i * 2⟩) he]; exact h3 i p hp⟩
theorem _root_.Go.Abs.S.Prs.bl {n : Nat} {H : AHeap} {s : AVal} {l : List (List UInt8 × List UInt8)} (h : Prs n H s l) : Blk s (· < n) := by
  rcases h with ⟨rfl, _⟩ | ⟨a, r, rfl, h2, _⟩
  · exact blk_nil _
  · exact blk_some h2
theorem _root_.Go.Abs.S.Cel.fr {n n' : Nat} {H H' : AHeap} {s : AVal} {l : List AVal} (h : Cel n H s l) (hn : n ≤ n') (e : Blk s fun b => H'.get b = H.get b) : Cel n' H' s l := by
  rcases h with h | ⟨a, r, rfl, h2, h3⟩
  · exact .inl h
  · exact .inr ⟨a, r, rfl, by omega, by rw [rd_congr (e _ _ _ rfl)]; exact h3⟩
theorem _root_.Go.Abs.S.Cel.bl {n : Nat} {H : AHeap} {s : AVal} {l : List AVal} (h : Cel n H s l) : Blk s (· < n) := by
  rcases h with ⟨rfl, _⟩ | ⟨a, r, rfl, h2, _⟩
  · exact blk_nil _
  · exact blk_some h2
theorem RqAt.fr {n n' : Nat} {τ τ' : Nat → Nat} {H H' : AHeap} {cs : List AVal} {r : Rq} (h : RqAt n τ H cs r) (hn : n ≤ n') (ht : ∀ c, c < n → τ c = 6 → τ' c = 6) (e : ∀ c, c < n → τ c = 6 → H'.get c = H.get c) : RqAt n' τ' H' cs r := by
  obtain ⟨vh, vb, h1, h2, h3, h4, h5, h6, h7⟩ := h
  have b4 := (h4.bl.and h6)
  have b5 := (h5.bl.and h7)
  exact ⟨vh, vb, h1, h2, h3, h4.fr hn (b4.mono fun b hb => e b hb.1 hb.2), h5.fr hn (b5.mono fun b hb => e b hb.1 hb.2), b4.mono fun b hb => ht b hb.1 hb.2, b5.mono fun b hb => ht b hb.1 hb.2⟩
theorem RC.fr {t n n' : Nat} {τ τ' : Nat → Nat} {H H' : AHeap} {v : AVal} {rd : List Rq} (h : RC t n τ H v rd) (hn : n ≤ n') (ht : ∀ c, c < n → τ c = 6 ∨ τ c = t → τ' c = τ c) (e : ∀ c, c < n → τ c = 6 ∨ τ c = t → H'.get c = H.get c) : RC t n' τ' H' v rd := by
  rcases h with h | ⟨b, o, low, L, rfl, h2, h3, h4, h5, h6, h7⟩
  · exact .inl h
  · exact .inr ⟨b, o, low, L, rfl, (e b h5 (.inr h6)).trans h2, h3, h4, by omega, by rw [ht b h5 (.inr h6)]; exact h6, fun i r hr => (h7 i r hr).fr hn (fun c hc h0 => by rw [ht c hc (.inl h0)]; exact h0) fun c hc h0 => e c hc (.inl h0)⟩
theorem RC.len {t n : Nat} {τ : Nat → Nat} {H : AHeap} {v : AVal} {rd : List Rq} (h : RC t n τ H v rd) : aLenK false v = some (.int .i64 (rd.length : Int)) := by
  rcases h with ⟨rfl, rfl⟩ | ⟨b, o, low, L, rfl, _⟩ <;> rfl
theorem RC.one {t n : Nat} {τ : Nat → Nat} {H : AHeap} {v : AVal} {rd : List Rq} (h : RC t n τ H v rd) : v.one = true := by
  rcases h with ⟨rfl, rfl⟩ | ⟨b, o, low, L, rfl, _⟩ <;> rfl
theorem RC.bl {t n : Nat} {τ : Nat → Nat} {H : AHeap} {v : AVal} {rd : List Rq} (h : RC t n τ H v rd) : Blk v fun b => b < n ∧ τ b = t := by
  rcases h with ⟨rfl, rfl⟩ | ⟨b, o, low, L, rfl, _, _, _, h5, h6, _⟩
  · exact blk_nil _
  · exact blk_some ⟨h5, h6⟩
/-- all of it; blocks from n on are nobody's -/
structure PV (n : Nat) (τ : Nat → Nat) (H : AHeap) (p : Nat) (s : PS) (rd : List Rq) (vl vh vb vr : AVal) : Prop where
  row : Row H p (pC p s vl vh vb vr (szF rd))
  pn : p < n
  nn : n ≤ H.next
  tp : τ p = 1
  tz : ∀ c, n ≤ c → τ c = 0
  l : LC n τ H vl s.line 2
  h : HC n τ H vh s.now.hs
  b : LC n τ H vb s.now.body 4
  r : RC 5 n τ H vr rd
def PR (n : Nat) (τ : Nat → Nat) (H : AHeap) (p : Nat) (s : PS) (rd : List Rq) : Prop := ∃ vl vh vb vr, PV n τ H p s rd vl vh vb vr
/-- what is nobody's, or a request's that is whole, is as it was, and so still -/
def Fr (τ : Nat → Nat) (H : AHeap) (τ' : Nat → Nat) (H' : AHeap) : Prop := H.next ≤ H'.next ∧ ∀ c, c < H.next → (τ c = 0 ∨ τ c = 6) → τ' c = τ c ∧ H'.get c = H.get c
theorem Fr.refl (τ : Nat → Nat) (H : AHeap) : Fr τ H τ H := ⟨Nat.le_refl _, fun _ _ _ => ⟨rfl, rfl⟩⟩
theorem Fr.trans {τ τ' τ'' : Nat → Nat} {H H' H'' : AHeap} (h : Fr τ H τ' H') (k : Fr τ' H' τ'' H'') : Fr τ H τ'' H'' :=
  ⟨Nat.le_trans h.1 k.1, fun c hc h0 => by
    obtain ⟨e1, e2⟩ := h.2 c hc h0
    obtain ⟨e3, e4⟩ := k.2 c (Nat.lt_of_lt_of_le hc h.1) (by rw [e1]; exact h0)
    exact ⟨e3.trans e1, e4.trans e2⟩⟩
theorem Fr.of_ext {τ : Nat → Nat} {H H' : AHeap} (e : Ext H.next H H') : Fr τ H τ H' := ⟨e.next, fun c hc _ => ⟨rfl, e.old c hc⟩⟩
theorem PV.ext {n : Nat} {τ : Nat → Nat} {H H' : AHeap} {p : Nat} {s : PS} {rd : List Rq} {vl vh vb vr : AVal} (P : PV n τ H p s rd vl vh vb vr) (hH : H.next ≤ H'.next) (e : ∀ c, c < n → H'.get c = H.get c) : PV n τ H' p s rd vl vh vb vr :=
  ⟨P.row.same (e p P.pn), P.pn, Nat.le_trans P.nn hH, P.tp, P.tz, P.l.fr (Nat.le_refl _) hH (fun _ _ h => h) (fun c hc _ => e c hc), P.h.fr (Nat.le_refl _) hH (fun _ _ h => h) (fun c hc _ => e c hc), P.b.fr (Nat.le_refl _) hH (fun _ _ h => h) (fun c hc _ => e c hc), P.r.fr (Nat.le_refl _) (fun _ _ _ => rfl) (fun c hc _ => e c hc)⟩
theorem PV.more {n m : Nat} {τ : Nat → Nat} {H : AHeap} {p : Nat} {s : PS} {rd : List Rq} {vl vh vb vr : AVal} (P : PV n τ H p s rd vl vh vb vr) (hm : n ≤ m) (hH : m ≤ H.next) : PV m τ H p s rd vl vh vb vr :=
  ⟨P.row, by have := P.pn; omega, hH, P.tp, fun c hc => P.tz c (by omega), P.l.fr hm (Nat.le_refl _) (fun _ _ h => h) (fun _ _ _ => rfl), P.h.fr hm (Nat.le_refl _) (fun _ _ h => h) (fun _ _ _ => rfl), P.b.fr hm (Nat.le_refl _) (fun _ _ h => h) (fun _ _ _ => rfl), P.r.fr hm (fun _ _ _ => rfl) (fun _ _ _ => rfl)⟩
theorem PR.ext {n : Nat} {τ : Nat → Nat} {H H' : AHeap} {p : Nat} {s : PS} {rd : List Rq} (P : PR n τ H p s rd) (hH : H.next ≤ H'.next) (e : ∀ c, c < n → H'.get c = H.get c) : PR n τ H' p s rd := by
  obtain ⟨vl, vh, vb, vr, P⟩ := P; exact ⟨_, _, _, _, P.ext hH e⟩
theorem PR.more {n m : Nat} {τ : Nat → Nat} {H : AHeap} {p : Nat} {s : PS} {rd : List Rq} (P : PR n τ H p s rd) (hm : n ≤ m) (hH : m ≤ H.next) : PR m τ H p s rd := by
  obtain ⟨vl, vh, vb, vr, P⟩ := P; exact ⟨_, _, _, _, P.more hm hH⟩
/-- only the parser's own cells were written -/
theorem PV.own {n : Nat} {τ : Nat → Nat} {H H' : AHeap} {p : Nat} {s s' : PS} {rd : List Rq} {vl vh vb vr : AVal} (P : PV n τ H p s rd vl vh vb vr) (hR : Row H' p (pC p s' vl vh vb vr (szF rd))) (hn : H'.next = H.next) (o : ∀ c, c ≠ p → H'.get c = H.get c) (hl : s'.line = s.line) (hh : s'.now.hs = s.now.hs) (hb : s'.now.body = s.now.body) : PV n τ H' p s' rd vl vh vb vr := by
  have tp := P.tp
  have f : ∀ k, k ≠ 1 → ∀ c, c < n → τ c = k → H'.get c = H.get c := fun k hk c _ hc => o c (by rintro rfl; omega)
  have hle : H.next ≤ H'.next := by omega
  exact ⟨hR, P.pn, by have := P.nn; omega, P.tp, P.tz, by rw [hl]; exact P.l.fr (Nat.le_refl _) hle (fun _ _ h => h) (f 2 (by omega)), by rw [hh]; exact P.h.fr (Nat.le_refl _) hle (fun _ _ h => h) (f 3 (by omega)), by rw [hb]; exact P.b.fr (Nat.le_refl _) hle (fun _ _ h => h) (f 4 (by omega)), P.r.fr (Nat.le_refl _) (fun _ _ _ => rfl) (fun c _ hc => o c (by rintro rfl; omega))⟩
/-- what the parser's cells tell -/
theorem PV.lds {n : Nat} {τ : Nat → Nat} {H : AHeap} {p : Nat} {s : PS} {rd : List Rq} {vl vh vb vr : AVal} (P : PV n τ H p s rd vl vh vb vr) :
    oLoad false 1 H (cellR p 15 0) = some (cellR p 15 0) ∧ oLoad false 1 H (cellR p 15 1) = some (.int .i64 (s.st : Int)) ∧ oLoad false 1 H (cellR p 15 2) = some (.int .i64 (s.fault : Int)) ∧ oLoad false 1 H (cellR p 15 3) = some vl ∧ oLoad false 1 H (cellR p 15 4) = some (.bool s.blank) ∧
    oLoad false 1 H (cellR p 15 7) = some vh ∧ oLoad false 1 H (cellR p 15 8) = some vb ∧ oLoad false 1 H (cellR p 15 9) = some (.bool s.now.close) ∧ oLoad false 1 H (cellR p 15 10) = some (.int .i64 (s.need : Int)) ∧ oLoad false 1 H (cellR p 15 11) = some (.int .i64 (s.trailers : Int)) ∧ oLoad false 1 H (cellR p 15 12) = some (.int .i64 (s.fed : Int)) ∧
    oLoad false 1 H (cellR p 15 13) = some vr ∧ oLoad false 1 H (cellR p 15 14) = some (.int .i64 (szF rd)) ∧ oLoad true 5 H (cellR p 15 5) = some (.agg (rqC s.now vh vb)) :=
  ⟨row_load P.row rfl rfl, row_load P.row rfl rfl, row_load P.row rfl rfl, row_load P.row rfl rfl, row_load P.row rfl rfl, row_load P.row rfl rfl, row_load P.row rfl rfl, row_load P.row rfl rfl, row_load P.row rfl rfl, row_load P.row rfl rfl, row_load P.row rfl rfl, row_load P.row rfl rfl, row_load P.row rfl rfl, row_loadK P.row (n := 15) rfl (by omega)⟩
/-- p is of New -/
theorem made_spec {n : Nat} {τ : Nat → Nat} {H : AHeap} {p : Nat} {s : PS} {rd : List Rq} (P : PR n τ H p s rd) : ACalls Try.prog natH 20 [cellR p 15 0] H fun v H' => v = .bool true ∧ H = H' := by
  obtain ⟨vl, vh, vb, vr, P⟩ := P
  obtain ⟨l0, _⟩ := P.lds
  refine acalls_ofN rfl za20 rfl ?_
  simp only [c20, sW, sL, aw_block, sXs, sXO, sXP, Int.reduceNegSucc, reduceCtorEq, Nat.reduceEqDiff, ↓reduceIte, Nat.reduceAdd, Int.reduceEq, Int.reduceLT, Int.reduceLE, ne_ptr_nil, nil_cell, fldA, l0, eq_ptr, Nat.beq_refl]
  exact ⟨(by first | trivial | rfl | assumption), (by first | trivial | rfl | assumption)⟩
theorem row_st {H : AHeap} {b n : Nat} {l l' : List AVal} (h : Row H b l) (hn : l.length = n) {i : Nat} (hi : i < n) {x : AVal} (hx : x.one = true) (e : l.set i x = l') :
    ∃ H', oStore 1 H (cellR b n i) x = some H' ∧ Row H' b l' ∧ H'.next = H.next ∧ ∀ c, c ≠ b → H'.get c = H.get c := by
  subst e; exact row_store h hn hi hx
/-- everything anew but for what is ready -/
theorem reset_spec {n : Nat} {τ : Nat → Nat} {H : AHeap} {p : Nat} {s : PS} {rd : List Rq} {vl vh vb vr : AVal} (P : PV n τ H p s rd vl vh vb vr) (k : Nat) :
    ACalls Try.prog natH 22 [cellR p 15 0, .int .i64 (k : Int)] H fun v H' => PV n τ H' p (s.reset k) rd nilS nilS nilS vr ∧ H'.next = H.next ∧ ∀ c, c ≠ p → H'.get c = H.get c := by
  refine acalls_ofN rfl za22 rfl ?_
  obtain ⟨H1, m1, r1, k1, o1⟩ := row_st P.row (n := 15) rfl (i := 1) (by omega) (x := .int .i64 (k : Int)) rfl rfl
  obtain ⟨H2, m2, r2, k2, o2⟩ := row_st r1 (n := 15) rfl (i := 3) (by omega) (x := .slice none 0 (.known 0)) rfl rfl
  obtain ⟨H3, m3, r3, k3, o3⟩ := row_st r2 (n := 15) rfl (i := 4) (by omega) (x := .bool false) rfl rfl
  obtain ⟨H4, m4, r4, k4, o4⟩ := row_storeK r3 (n := 15) rfl (i := 5) (k := 5) (by omega) (xs := [.str [], .str [], .slice none 0 (.known 0), .slice none 0 (.known 0), .bool false]) rfl rfl
  have r4' : Row H4 p [cellR p 15 0, .int .i64 (k : Int), .int .i64 (s.fault : Int), nilS, .bool false, .str [], .str [], nilS, nilS, .bool false, .int .i64 (s.need : Int), .int .i64 (s.trailers : Int), .int .i64 (s.fed : Int), vr, .int .i64 (szF rd)] := r4
  obtain ⟨H5, m5, r5, k5, o5⟩ := row_st r4' (n := 15) rfl (i := 10) (by omega) (x := .int .i64 0) rfl rfl
  obtain ⟨H6, m6, r6, k6, o6⟩ := row_st r5 (n := 15) rfl (i := 11) (by omega) (x := .int .i64 0) rfl rfl
  obtain ⟨H7, m7, r7, k7, o7⟩ := row_st r6 (n := 15) rfl (i := 12) (by omega) (x := .int .i64 0) rfl rfl
  have b0 : aBuild [.str [], .str [], .slice none 0 (.known 0), .slice none 0 (.known 0), .bool false] [] = some (.agg [.str [], .str [], .slice none 0 (.known 0), .slice none 0 (.known 0), .bool false]) := rfl
  have o : ∀ c, c ≠ p → H7.get c = H.get c := fun c hc => by rw [o7 c hc, o6 c hc, o5 c hc, o4 c hc, o3 c hc, o2 c hc, o1 c hc]
  simp only [c22, sW, sL, aw_block, sXs, sXO, sXP, Int.reduceNegSucc, reduceCtorEq, Nat.reduceEqDiff, ↓reduceIte, Nat.reduceAdd, Int.reduceEq, Int.reduceLT, Int.reduceLE, nil_cell, fldA, m1, m2, m3, m4, m5, m6, m7, b0, fin_n0]
  refine ⟨⟨r7, P.pn, by have := P.nn; omega, P.tp, P.tz, ⟨Lin.nil _, blk_nil _⟩, ⟨AppN.nil _ _ _, blk_nil _⟩, ⟨Lin.nil _, blk_nil _⟩, P.r.fr (Nat.le_refl _) (fun _ _ _ => rfl) fun c _ hc => o c (by have := P.tp; rintro rfl; omega)⟩, by omega, o⟩
theorem hsSz_snoc (l : List (Bs × Bs)) (h : Bs × Bs) : hsSz (l ++ [h]) = hsSz l + (h.1.length + h.2.length) := by simp [hsSz]
theorem hsSz_le {l : List (Bs × Bs)} {k : Nat} (h : ∀ p ∈ l, p.1.length ≤ k ∧ p.2.length ≤ k) : hsSz l ≤ l.length * (2 * k) := by
  induction l with
  | nil => simp [hsSz]
  | cons p l ih =>
    have h1 := ih fun q hq => h q (by simp [hq])
    have h2 := h p (by simp)
    have : hsSz (p :: l) = (p.1.length + p.2.length) + hsSz l := by simp [hsSz]
    rw [this, List.length_cons, Nat.add_mul, Nat.one_mul]; omega
/-- how much a request holds -/
theorem size_spec {n : Nat} {H : AHeap} {vh vb : AVal} (r : Rq) (hp : Prs n H vh r.hs) (hb : aLenK false vb = some (.int .i64 (r.body.length : Int))) (hn : n ≤ H.next) {k : Nat} (hk : k ≤ 1000000) (b1 : r.m.length ≤ k) (b2 : r.t.length ≤ k) (b3 : r.body.length ≤ k) (b4 : r.hs.length ≤ k) (b5 : ∀ h ∈ r.hs, h.1.length ≤ k ∧ h.2.length ≤ k) :
    ACalls Try.prog natH 23 [.agg (rqC r vh vb)] H fun v H' => v = .int .i64 (rqSz r : Int) ∧ Ext H.next H H' := by
  refine acalls_ofN rfl za23 rfl ?_
  obtain ⟨H1, m1, r1, k1, o1⟩ := row_newL H (rqC r vh vb) (n := 5) rfl
  have E1 : Ext H.next H H1 := Ext.of_new k1 o1 (Nat.le_refl _)
  have l0 : oLoad false 1 H1 (cellR H.next 5 0) = some (.str r.m) := row_load r1 rfl rfl
  have l1 : oLoad false 1 H1 (cellR H.next 5 1) = some (.str r.t) := row_load r1 rfl rfl
  have l2 : oLoad false 1 H1 (cellR H.next 5 2) = some vh := row_load r1 rfl rfl
  have l3 : oLoad false 1 H1 (cellR H.next 5 3) = some vb := row_load r1 rfl rfl
  simp only [c23, sW, sL, aw_block, sXs, sXO, sXP, Int.reduceNegSucc, reduceCtorEq, Nat.reduceEqDiff, ↓reduceIte, Nat.reduceAdd, Int.reduceEq, Int.reduceLT, Int.reduceLE, cells_agg, m1, fld0, l0, l1, l2, l3, hb, hp.len, wrapN _ _ (show r.m.length + r.t.length ≤ 9223372036854775807 by omega), wrapN _ _ (show r.m.length + r.t.length + r.body.length ≤ 9223372036854775807 by omega)]
  refine aw_loop (fun q (T : Env) H' => ∃ j : Nat, j ≤ r.hs.length ∧ q = r.hs.length - j ∧ T 3 = .int .i64 ((r.m.length + r.t.length + r.body.length + hsSz (r.hs.take j) : Nat) : Int) ∧ T 18 = vh ∧ T 19 = .int .i64 (r.hs.length : Int) ∧ T 20 = .int .i64 (j : Int) ∧ Ext H.next H H') r.hs.length
    ⟨0, Nat.zero_le _, rfl, by simp only [sW, sL, aw_block, sXs, sXO, sXP, Int.reduceNegSucc, reduceCtorEq, Nat.reduceEqDiff, ↓reduceIte, Nat.reduceAdd, Int.reduceEq, Int.reduceLT, Int.reduceLE]; try rfl, by simp only [sW, sL, aw_block, sXs, sXO, sXP, Int.reduceNegSucc, reduceCtorEq, Nat.reduceEqDiff, ↓reduceIte, Nat.reduceAdd, Int.reduceEq, Int.reduceLT, Int.reduceLE]; try rfl, by simp only [sW, sL, aw_block, sXs, sXO, sXP, Int.reduceNegSucc, reduceCtorEq, Nat.reduceEqDiff, ↓reduceIte, Nat.reduceAdd, Int.reduceEq, Int.reduceLT, Int.reduceLE]; try rfl, by simp only [sW, sL, aw_block, sXs, sXO, sXP, Int.reduceNegSucc, reduceCtorEq, Nat.reduceEqDiff, ↓reduceIte, Nat.reduceAdd, Int.reduceEq, Int.reduceLT, Int.reduceLE]; try rfl, E1⟩ ?_
  rintro q T H' ⟨j, hj, rfl, g3, g18, g19, g20, E⟩
  by_cases hlt : j < r.hs.length
  · have hlt' : (j : Int) < (r.hs.length : Int) := by omega
    obtain ⟨p, hpj⟩ := isSome_of_lt hlt
    have hpb := b5 p (List.mem_of_getElem? hpj)
    obtain ⟨a, a1, a2, _⟩ := (hp.ext (E.less hn)).at hpj
    obtain ⟨H3, m3, r3, k3, o3⟩ := row_newL H' [.str [], .str []] (n := 2) rfl
    obtain ⟨H4, m4, r4, k4, o4⟩ := row_storeN r3 (n := 2) rfl (xs := [.str p.1, .str p.2]) rfl rfl
    have hs0 : hsSz (r.hs.take j) ≤ j * (2 * k) := by
      have := hsSz_le (l := r.hs.take j) (k := k) fun p hp => b5 p (List.mem_of_mem_take hp)
      rwa [List.length_take_of_le hj] at this
    have hs1 : j * (2 * k) ≤ 1000000 * 2000000 := Nat.mul_le_mul (by omega) (by omega)
    simp only [sW, sL, aw_block, sXs, sXO, sXP, Int.reduceNegSucc, reduceCtorEq, Nat.reduceEqDiff, ↓reduceIte, Nat.reduceAdd, Int.reduceEq, Int.reduceLT, Int.reduceLE, g3, g18, g19, g20, hlt', a1, a2, m3, m4, fld0, row_load r4 (n := 2) rfl (i := 0) rfl, row_load r4 (n := 2) rfl (i := 1) rfl, wrapN _ _ (show p.1.length + p.2.length ≤ 9223372036854775807 by omega), wrapN _ _ (show r.m.length + r.t.length + r.body.length + hsSz (r.hs.take j) + (p.1.length + p.2.length) ≤ 9223372036854775807 by omega), wrap1 j (by omega)]
    refine ⟨_, by omega, j + 1, by omega, rfl, ?_, (by first | trivial | rfl | assumption), (by first | trivial | rfl | assumption), (by first | trivial | rfl | assumption), ⟨by have := E.next; omega, fun c hc => by rw [o4 _ (by have := E.next; omega), o3 _ (by have := E.next; omega)]; exact E.old c hc⟩⟩
    rw [List.take_add_one, hpj, Option.toList_some, hsSz_snoc]
    congr 2; omega
  · have hlt' : ¬ (j : Int) < (r.hs.length : Int) := by omega
    rw [List.take_of_length_le (by omega)] at g3
    simp only [sW, sL, aw_block, sXs, sXO, sXP, Int.reduceNegSucc, reduceCtorEq, Nat.reduceEqDiff, ↓reduceIte, Nat.reduceAdd, Int.reduceEq, Int.reduceLT, Int.reduceLE, g3, g18, g19, g20, hlt']
    exact ⟨(by first | trivial | rfl | assumption), E⟩
end Go.Proofs.Ht
/- Http: a request that is whole; the values of a name; request lines: the contracts. -/
namespace Go.Proofs.Ht
open Go.Abs Go.Abs.S
set_option linter.unusedSimpArgs false
theorem RC.aeq {t n : Nat} {τ : Nat → Nat} {H : AHeap} {v : AVal} {rd : List Rq} (h : RC t n τ H v rd) : aeq v v = true := by
  rcases h with ⟨rfl, _⟩ | ⟨b, o, low, L, rfl, _⟩
  · exact aeq_nilS
  · exact aeq_open _ _ _
theorem HC.aeq {n : Nat} {τ : Nat → Nat} {H : AHeap} {v : AVal} {hs : List (Bs × Bs)} (h : HC n τ H v hs) : aeq v v = true := by
  rcases h.1 with ⟨rfl, _⟩ | ⟨b, low, rfl, _⟩
  · exact aeq_nilS
  · exact aeq_open _ _ _
/-- one more that is ready -/
theorem RC.push {t n : Nat} {τ : Nat → Nat} {H : AHeap} {v : AVal} {rd : List Rq} (h : RC t n τ H v rd) (hn : n ≤ H.next) {r : Rq} {vh vb : AVal} (h1 : vh.one = true) (h2 : vb.one = true) (hl : rd.length ≤ 1000000) :
    ∃ v' H', aAppend 5 88 (H.push (.cells (rqC r vh vb) 0 false)) v (oneM H 5) = some (v', H') ∧ H.next ≤ H'.next ∧ v'.one = true ∧ (∀ c, c < H.next → Blk v (c ≠ ·) → H'.get c = H.get c) ∧ (∀ P, Blk v P → Blk v' fun b => P b ∨ H.next ≤ b) ∧
      ∀ n' τ' G, H'.next ≤ n' → (∀ c, c < n → τ c = t → τ' c = t) → (∀ c, H.next ≤ c → c < n' → τ' c = t) → (∀ c, c < H'.next → ((c < n ∧ τ c = t) ∨ H.next ≤ c) → G.get c = H'.get c) → (∀ (i : Nat) (q : Rq) cs, rd[i]? = some q → RqAt n τ H cs q → RqAt n' τ' G cs q) → RqAt n' τ' G (rqC r vh vb) r → RC t n' τ' G v' (rd ++ [r]) := by
  have ho : (rqC r vh vb).all AVal.one = true := by
    simp only [rqC, List.all_cons, List.all_nil, h1, h2, Bool.and_true]; rfl
  have c1 : ∀ k, k = rd.length → (Nat.blt 0 5 && (Nat.ble ((2 * (k + 1) + 0) * 88) 281474976710656 && (Nat.ble (k + 1) 9223372036854775807 && (Nat.beq (rqC r vh vb).length (1 * 5) && (rqC r vh vb).all AVal.one)))) = true := by
    intro k hk
    subst hk
    have e : Nat.beq (rqC r vh vb).length (1 * 5) = true := rfl
    simp only [Nat.ble_eq_true_of_le (show (2 * (rd.length + 1) + 0) * 88 ≤ 281474976710656 by omega), Nat.ble_eq_true_of_le (show rd.length + 1 ≤ 9223372036854775807 by omega), ho, e, Bool.and_self]
    rfl
  have src := srcM (m := 5) (xs := rqC r vh vb) H rfl
  rcases h with ⟨rfl, rfl⟩ | ⟨b, o, low, L, rfl, e2, e3, e4, e5, e6, e7⟩
  · refine ⟨.slice (some ⟨H.next + 1, 5, 0⟩) 1 (.open_ 5), (H.push (.cells (rqC r vh vb) 0 false)).push (.cells (rqC r vh vb) 0 false), ?_, by simp only [push_next]; omega, rfl, fun c hc _ => by rw [AHeap.get_push, if_neg (by rw [push_next]; omega), get_push_lt hc], fun P _ => blk_some (.inr (Nat.le_succ _)), fun n' τ' G q1 q2 q3 q0 q4 q5 => ?_⟩
    · simp only [aAppend, src, nilS]
      rw [show Nat.beq 1 0 = false from rfl, cond_false, c1 0 rfl, cond_true]
      rfl
    · have hlt : H.next + 1 < n' := Nat.lt_of_lt_of_le (Nat.lt_succ_self _) q1
      refine .inr ⟨H.next + 1, 0, 0, rqC r vh vb, rfl, by rw [q0 (H.next + 1) (Nat.lt_succ_self _) (.inr (by omega)), AHeap.get_push]; exact if_pos rfl, Nat.zero_le _, rfl, hlt, q3 _ (by omega) hlt, fun i q hq => ?_⟩
      cases i with
      | zero => simp at hq; subst hq; exact q5
      | succ i => simp at hq
  · have hg : (H.push (.cells (rqC r vh vb) 0 false)).get b = some (.cells L low false) := by rw [AHeap.get_push, if_neg (by omega)]; exact e2
    have hgrow : growCells (H.push (.cells (rqC r vh vb) 0 false)) ⟨b, L.length, o⟩ L.length (rqC r vh vb) = some ((H.push (.cells (rqC r vh vb) 0 false)).set b (.cells (L ++ rqC r vh vb) low false)) := by
      unfold growCells
      simp only [hg, Nat.ble_eq_true_of_le e3, Nat.beq_refl, Nat.ble_eq_true_of_le (Nat.le_refl _), Nat.ble_eq_true_of_le (show o ≤ L.length by omega), Nat.ble_eq_true_of_le (show L.length + 1 ≤ L.length + (rqC r vh vb).length by show _ ≤ _ + 5; omega), ho, Bool.and_self, cond_true, List.take_length]
    have e1 : Nat.ble (o + (rd.length + 1) * 5) L.length = false := by rw [ble_dec]; exact decide_eq_false (by omega)
    refine ⟨.slice (some ⟨b, L.length + 5, o⟩) (rd.length + 1) (.open_ 5), (H.push (.cells (rqC r vh vb) 0 false)).set b (.cells (L ++ rqC r vh vb) low false), ?_, by rw [set_next, push_next]; omega, rfl, fun c hc hd => by rw [AHeap.get_set, if_neg (hd _ _ _ rfl), get_push_lt hc], fun P hP => (have hP2 : P b := hP _ _ _ rfl; blk_some (.inl hP2)), fun n' τ' G q1 q2 q3 q0 q4 q5 => ?_⟩
    · simp only [aAppend, src]
      rw [show Nat.beq 1 0 = false from rfl, cond_false, c1 _ rfl, cond_true]
      simp only [Nat.beq_refl, cond_true, e1, cond_false, hgrow, e4]
      rfl
    · have hlt : b < n' := by rw [set_next, push_next] at q1; omega
      refine .inr ⟨b, o, low, L ++ rqC r vh vb, ?_, by rw [q0 b (by rw [set_next, push_next]; omega) (.inl ⟨e5, e6⟩), AHeap.get_set, if_pos rfl], by simp; omega, ?_, hlt, q2 b e5 e6, fun i q hq => ?_⟩
      · rw [List.length_append, List.length_append]; rfl
      · rw [List.length_append, List.length_append]
        show o + (rd.length + 1) * 5 = L.length + 5
        omega
      · by_cases hi : i < rd.length
        · rw [List.getElem?_append_left hi] at hq
          have := q4 i q _ hq (e7 i q hq)
          have e : ((L ++ rqC r vh vb).drop (o + i * 5)).take 5 = (L.drop (o + i * 5)).take 5 := by
            rw [List.drop_append_of_le_length (by omega), List.take_append_of_le_length (by simp; omega)]
          rw [e]; exact this
        · have hi' : i = rd.length := by
            rw [List.getElem?_append_right (by omega)] at hq
            have := (List.getElem?_eq_some_iff.1 hq).1
            simp at this; omega
          subst hi'
          rw [List.getElem?_append_right (Nat.le_refl _), Nat.sub_self] at hq
          simp at hq
          subst hq
          rw [e4, List.drop_left]
          exact q5
theorem sumSz_snoc (rd : List Rq) (r : Rq) : sumSz (rd ++ [r]) = sumSz rd + rqSz r := by simp [sumSz]
theorem szF_add (rd : List Rq) (r : Rq) : IntKind.i64.wrap (szF rd + (rqSz r : Int)) = szF (rd ++ [r]) := by
  rw [szF, szF, sumSz_snoc, IntKind.wrap_i64, IntKind.wrap_i64, IntKind.wrap_i64]
  omega
/-- what a request that is whole holds at most -/
structure Bm (k : Nat) (s : PS) : Prop where
  m : s.now.m.length ≤ k
  t : s.now.t.length ≤ k
  body : s.now.body.length ≤ k
  hs : s.now.hs.length ≤ k
  he : ∀ h ∈ s.now.hs, h.1.length ≤ k ∧ h.2.length ≤ k
theorem Bd.bm {k : Nat} {s : PS} (B : Bd k s) : Bm k s := ⟨B.m, B.t, B.body, B.hs, B.he⟩
theorem whole_spec {n : Nat} {τ : Nat → Nat} {H : AHeap} {p : Nat} {s : PS} {rd : List Rq} {k : Nat} (P : PR n τ H p s rd) (B : Bm k s) (hk : k ≤ 1000000) (hrd : rd.length ≤ 1000000) :
    ACalls Try.prog natH 31 [cellR p 15 0] H fun v H' => ∃ τ', PR H'.next τ' H' p (wholeF s).1 (rd ++ (wholeF s).2) ∧ Fr τ H τ' H' := by
  obtain ⟨vl, vh, vb, vr, P⟩ := P
  refine acalls_ofN rfl za31 rfl ?_
  obtain ⟨l0, l1, l2, l3, l4, l7, l8, l9, l10, l11, l12, l13, l14, lN⟩ := P.lds
  have oh : vh.one = true := P.h.1.one
  have ob : vb.one = true := P.b.1.one
  have nn := P.nn
  have pn := P.pn
  have tp := P.tp
  obtain ⟨v', H1, m1, n1, o1, f1', _, g1⟩ := P.r.push nn (r := s.now) oh ob hrd
  have f1 : ∀ c, c < H.next → τ c ≠ 5 → H1.get c = H.get c := fun c hc h5 => f1' c hc (P.r.bl.mono fun b hb => by rintro rfl; exact h5 hb.2)
  have bm := buildM (m := 5) (z := [.str [], .str [], .slice none 0 (.known 0), .slice none 0 (.known 0), .bool false]) (xs := rqC s.now vh vb) H rfl rfl
  have R1 : Row H1 p (pC p s vl vh vb vr (szF rd)) := P.row.same (f1 p (by omega) (by omega))
  obtain ⟨H2, m2, r2, k2, o2⟩ := row_st R1 (n := 15) rfl (i := 13) (by omega) (x := v') o1 rfl
  have r2' : Row H2 p (pC p s vl vh vb v' (szF rd)) := r2
  have l14' : oLoad false 1 H2 (cellR p 15 14) = some (.int .i64 (szF rd)) := row_load r2' rfl rfl
  have lN' : oLoad true 5 H2 (cellR p 15 5) = some (.agg (rqC s.now vh vb)) := row_loadK r2' (n := 15) rfl (by omega)
  have l13' : oLoad false 1 (H.push (.cells (rqC s.now vh vb) 0 false)) (cellR p 15 13) = some vr := row_load (P.row.same (get_push_lt (by omega))) rfl rfl
  have f2 : ∀ c, c < H.next → τ c ≠ 5 → τ c ≠ 1 → H2.get c = H.get c := fun c hc h5 h1 => by rw [o2 c (by rintro rfl; exact h1 tp), f1 c hc h5]
  simp only [c31, sW, sL, aw_block, sXs, sXO, sXP, Int.reduceNegSucc, reduceCtorEq, Nat.reduceEqDiff, ↓reduceIte, Nat.reduceAdd, Int.reduceEq, Int.reduceLT, Int.reduceLE]
  refine aw_drawC rfl ?_
  simp only [sW, sL, aw_block, sXs, sXO, sXP, Int.reduceNegSucc, reduceCtorEq, Nat.reduceEqDiff, ↓reduceIte, Nat.reduceAdd, Int.reduceEq, Int.reduceLT, Int.reduceLE, sR, nil_cell, fldA, l13, lN, bm, m1, m2]
  simp only [ck_nil', ck_cons, ckP_load, ckP_nil, ck_end, and_true, true_and, List.map_cons, List.map_nil, sW, sL, aw_block, sXs, sXO, sXP, Int.reduceNegSucc, reduceCtorEq, Nat.reduceEqDiff, ↓reduceIte, Nat.reduceAdd, Int.reduceEq, Int.reduceLT, Int.reduceLE, fldA, l13']
  refine ⟨⟨_, rfl, fun _ => ⟨_, l13', P.r.aeq⟩⟩, ?_⟩
  refine aw_drawC rfl ?_
  simp only [sW, sL, aw_block, sXs, sXO, sXP, Int.reduceNegSucc, reduceCtorEq, Nat.reduceEqDiff, ↓reduceIte, Nat.reduceAdd, Int.reduceEq, Int.reduceLT, Int.reduceLE, sR, nil_cell, fldA, l14', lN']
  have hv : Prs n H2 vh s.now.hs := (P.h.1.prs (P.h.2.mono fun b hb => hb.1)).fr (Nat.le_refl _) (P.h.2.mono fun b hb => f2 b (by omega) (by omega) (by omega))
  have hbl : Lin H2 vb s.now.body := P.b.1.same (by omega) (P.b.2.mono fun b hb => f2 b (by omega) (by omega) (by omega))
  refine (size_spec s.now hv hbl.len (by omega) hk B.m B.t B.body B.hs B.he).mono ?_
  rintro w H3 ⟨rfl, E3⟩
  have R3 : Row H3 p (pC p s vl vh vb v' (szF rd)) := r2'.same (E3.old p (by omega))
  obtain ⟨H4, m4, r4, k4, o4⟩ := row_st R3 (n := 15) rfl (i := 14) (by omega) (x := .int .i64 (szF (rd ++ [s.now]))) rfl rfl
  have r4' : Row H4 p (pC p s vl vh vb v' (szF (rd ++ [s.now]))) := r4
  have l14b : oLoad false 1 H3 (cellR p 15 14) = some (.int .i64 (szF rd)) := row_load R3 rfl rfl
  have lNb : oLoad true 5 H3 (cellR p 15 5) = some (.agg (rqC s.now vh vb)) := row_loadK R3 (n := 15) rfl (by omega)
  have l9b : oLoad false 1 H4 (cellR p 15 9) = some (.bool s.now.close) := row_load r4' rfl rfl
  have f4 : ∀ c, c < H.next → τ c ≠ 5 → τ c ≠ 1 → H4.get c = H.get c := fun c hc h5 h1 => by rw [o4 c (by rintro rfl; exact h1 tp), E3.old c (by omega), f2 c hc h5 h1]
  simp only [sW, sL, aw_block, sXs, sXO, sXP, Int.reduceNegSucc, reduceCtorEq, Nat.reduceEqDiff, ↓reduceIte, Nat.reduceAdd, Int.reduceEq, Int.reduceLT, Int.reduceLE, sR, nil_cell, fldA, szF_add, m4]
  simp only [ck_nil', ck_cons, ckP_load, ckP_nil, ck_end, and_true, true_and, List.map_cons, List.map_nil, sW, sL, aw_block, sXs, sXO, sXP, Int.reduceNegSucc, reduceCtorEq, Nat.reduceEqDiff, ↓reduceIte, Nat.reduceAdd, Int.reduceEq, Int.reduceLT, Int.reduceLE, fldA, l14b]
  refine ⟨⟨_, rfl, fun _ => ⟨_, l14b, aeq_int _ _⟩⟩, ?_⟩
  -- marks anew: headers and body are nobody's now
  let τ' : Nat → Nat := fun c => if c < H.next then (if τ c = 3 ∨ τ c = 4 then 6 else τ c) else if c < H4.next then 5 else 0
  have t6 : ∀ c, c < H.next → τ c = 6 ∨ τ c = 3 ∨ τ c = 4 → τ' c = 6 := fun c hc h => by
    show (if c < H.next then (if τ c = 3 ∨ τ c = 4 then 6 else τ c) else if c < H4.next then 5 else 0) = 6
    rw [if_pos hc]; split <;> omega
  have tk : ∀ c, c < H.next → τ c ≠ 3 → τ c ≠ 4 → τ' c = τ c := fun c hc h3 h4 => by
    show (if c < H.next then (if τ c = 3 ∨ τ c = 4 then 6 else τ c) else if c < H4.next then 5 else 0) = τ c
    rw [if_pos hc, if_neg (by omega)]
  have t5 : ∀ c, H.next ≤ c → c < H4.next → τ' c = 5 := fun c hc h => by
    show (if c < H.next then (if τ c = 3 ∨ τ c = 4 then 6 else τ c) else if c < H4.next then 5 else 0) = 5
    rw [if_neg (by omega), if_pos h]
  have tz : ∀ c, H4.next ≤ c → τ' c = 0 := fun c hc => by
    show (if c < H.next then (if τ c = 3 ∨ τ c = 4 then 6 else τ c) else if c < H4.next then 5 else 0) = 0
    rw [if_neg (by have := E3.next; omega), if_neg (by omega)]
  have n3 := E3.next
  have hv4 : Prs H4.next H4 vh s.now.hs := (P.h.1.prs (P.h.2.mono fun b hb => hb.1)).fr (by omega) (P.h.2.mono fun b hb => f4 b (by omega) (by omega) (by omega))
  have hb4 : Lin H4 vb s.now.body := P.b.1.same (by omega) (P.b.2.mono fun b hb => f4 b (by omega) (by omega) (by omega))
  have hrq : RqAt H4.next τ' H4 (rqC s.now vh vb) s.now := ⟨vh, vb, rfl, oh, ob, hv4, hb4.cel hb4.blk, P.h.2.mono fun b hb => t6 b (by omega) (by omega), P.b.2.mono fun b hb => t6 b (by omega) (by omega)⟩
  have hRC : RC 5 H4.next τ' H4 v' (rd ++ [s.now]) := by
    refine g1 H4.next τ' H4 (by omega) (fun c hc h5 => by rw [tk c (by omega) (by omega) (by omega)]; exact h5) t5 (fun c hc hd => ?_) (fun i q cs _ hq => ?_) hrq
    · have hcp : c ≠ p := by rintro rfl; omega
      rw [o4 c hcp, E3.old c (by omega), o2 c hcp]
    · exact hq.fr (by omega) (fun c hc h0 => t6 c (by omega) (.inl h0)) fun c hc h0 => f4 c (by omega) (by omega) (by omega)
  have hR4 : Row H4 p (pC p s vl vh vb v' (szF (rd ++ [s.now]))) := r4'
  have fin0 : ∀ j : Nat, ACalls Try.prog natH 22 [cellR p 15 0, .int .i64 (j : Int)] H4 fun v H' => ∃ τ', PR H'.next τ' H' p (s.reset j) (rd ++ [s.now]) ∧ Fr τ H τ' H' := by
    intro j
    refine acalls_ofN rfl za22 rfl ?_
    obtain ⟨H5, m5, r5, k5, o5⟩ := row_st hR4 (n := 15) rfl (i := 1) (by omega) (x := .int .i64 (j : Int)) rfl rfl
    obtain ⟨H6, m6, r6, k6, o6⟩ := row_st r5 (n := 15) rfl (i := 3) (by omega) (x := .slice none 0 (.known 0)) rfl rfl
    obtain ⟨H7, m7, r7, k7, o7⟩ := row_st r6 (n := 15) rfl (i := 4) (by omega) (x := .bool false) rfl rfl
    obtain ⟨H8, m8, r8, k8, o8⟩ := row_storeK r7 (n := 15) rfl (i := 5) (k := 5) (by omega) (xs := [.str [], .str [], .slice none 0 (.known 0), .slice none 0 (.known 0), .bool false]) rfl rfl
    have r8' : Row H8 p [cellR p 15 0, .int .i64 (j : Int), .int .i64 (s.fault : Int), nilS, .bool false, .str [], .str [], nilS, nilS, .bool false, .int .i64 (s.need : Int), .int .i64 (s.trailers : Int), .int .i64 (s.fed : Int), v', .int .i64 (szF (rd ++ [s.now]))] := r8
    obtain ⟨H9, m9, r9, k9, o9⟩ := row_st r8' (n := 15) rfl (i := 10) (by omega) (x := .int .i64 0) rfl rfl
    obtain ⟨HA, mA, rA, kA, oA⟩ := row_st r9 (n := 15) rfl (i := 11) (by omega) (x := .int .i64 0) rfl rfl
    obtain ⟨HB, mB, rB, kB, oB⟩ := row_st rA (n := 15) rfl (i := 12) (by omega) (x := .int .i64 0) rfl rfl
    have b0 : aBuild [.str [], .str [], .slice none 0 (.known 0), .slice none 0 (.known 0), .bool false] [] = some (.agg [.str [], .str [], .slice none 0 (.known 0), .slice none 0 (.known 0), .bool false]) := rfl
    have o : ∀ c, c ≠ p → HB.get c = H4.get c := fun c hc => by rw [oB c hc, oA c hc, o9 c hc, o8 c hc, o7 c hc, o6 c hc, o5 c hc]
    simp only [c22, sW, sL, aw_block, sXs, sXO, sXP, Int.reduceNegSucc, reduceCtorEq, Nat.reduceEqDiff, ↓reduceIte, Nat.reduceAdd, Int.reduceEq, Int.reduceLT, Int.reduceLE, nil_cell, fldA, m5, m6, m7, m8, m9, mA, mB, b0, fin_n0]
    have kk : HB.next = H4.next := by omega
    refine ⟨τ', ⟨nilS, nilS, nilS, v', rB, by omega, Nat.le_refl _, by rw [tk p (by omega) (by omega) (by omega)]; exact tp, fun c hc => tz c (by omega), ⟨Lin.nil _, blk_nil _⟩, ⟨AppN.nil _ _ _, blk_nil _⟩, ⟨Lin.nil _, blk_nil _⟩, hRC.fr (by omega) (fun _ _ _ => rfl) fun c _ hc => o c (by rintro rfl; have := tk c (by omega) (by omega) (by omega); omega)⟩, by omega, fun c hc h0 => ⟨tk c hc (by omega) (by omega), ?_⟩⟩
    rw [o c (by rintro rfl; omega)]
    exact f4 c hc (by omega) (by omega)
  cases hcl : s.now.close with
  | true =>
    rw [hcl] at l9b
    simp only [sW, sL, aw_block, sXs, sXO, sXP, Int.reduceNegSucc, reduceCtorEq, Nat.reduceEqDiff, ↓reduceIte, Nat.reduceAdd, Int.reduceEq, Int.reduceLT, Int.reduceLE, nil_cell, fldA, l9b]
    have e : wholeF s = (s.reset 8, [s.now]) := by simp [wholeF, hcl]
    rw [e]
    refine (fin0 8).mono ?_
    rintro v H' h
    simp only [sW, sL, aw_block, sXs, sXO, sXP, Int.reduceNegSucc, reduceCtorEq, Nat.reduceEqDiff, ↓reduceIte, Nat.reduceAdd, Int.reduceEq, Int.reduceLT, Int.reduceLE, fin_n0]
    exact h
  | false =>
    rw [hcl] at l9b
    simp only [sW, sL, aw_block, sXs, sXO, sXP, Int.reduceNegSucc, reduceCtorEq, Nat.reduceEqDiff, ↓reduceIte, Nat.reduceAdd, Int.reduceEq, Int.reduceLT, Int.reduceLE, nil_cell, fldA, l9b]
    have e : wholeF s = (s.reset 0, [s.now]) := by simp [wholeF, hcl]
    rw [e]
    refine (fin0 0).mono ?_
    rintro v H' h
    simp only [sW, sL, aw_block, sXs, sXO, sXP, Int.reduceNegSucc, reduceCtorEq, Nat.reduceEqDiff, ↓reduceIte, Nat.reduceAdd, Int.reduceEq, Int.reduceLT, Int.reduceLE, fin_n0]
    exact h
end Go.Proofs.Ht
/- Http: request lines, chunk lines, trailers, headers: the contracts. -/
namespace Go.Proofs.Ht
open Go.Abs Go.Abs.S
set_option linter.unusedSimpArgs false
def Told (τ : Nat → Nat) (H : AHeap) (p : Nat) (rd : List Rq) (o : Out) : AVal → AHeap → Prop := fun v H' => v = .int .i64 (o.2.2 : Int) ∧ ∃ τ', PR H'.next τ' H' p o.1 (rd ++ o.2.1) ∧ Fr τ H τ' H'
theorem told_own {n : Nat} {τ : Nat → Nat} {H H' : AHeap} {p : Nat} {s : PS} {rd : List Rq} {vl vh vb vr : AVal} (P : PV n τ H' p s rd vl vh vb vr) (F : Fr τ H τ H') (e : Nat) : Told τ H p rd (s, [], e) (.int .i64 (e : Int)) H' :=
  ⟨rfl, τ, by rw [List.append_nil]; exact ⟨_, _, _, _, P.more P.nn (Nat.le_refl _)⟩, F⟩
theorem fr_own {n : Nat} {τ : Nat → Nat} {H H' : AHeap} {p : Nat} {s : PS} {rd : List Rq} {vl vh vb vr : AVal} (P : PV n τ H p s rd vl vh vb vr) (hn : H'.next = H.next) (o : ∀ c, c ≠ p → H'.get c = H.get c) : Fr τ H τ H' :=
  ⟨by omega, fun c _ h0 => ⟨rfl, o c (by have := P.tp; rintro rfl; omega)⟩⟩
section
variable {n : Nat} {τ : Nat → Nat} {H : AHeap} {p : Nat} {s : PS} {rd : List Rq}
theorem reqline_spec (P : PR n τ H p s rd) (l : Bs) (right : Bool) (hl : l.length ≤ 1000000) :
    ACalls Try.prog natH 41 [cellR p 15 0, .str l, .bool right] H (Told τ H p rd ((requestF s l right).1, [], (requestF s l right).2)) := by
  obtain ⟨vl, vh, vb, vr, P⟩ := P
  refine acalls_ofN rfl za41 rfl ?_
  obtain ⟨l0, l1, l2, l3, l4, _⟩ := P.lds
  have stay : ∀ e : Nat, requestF s l right = (s, e) → Told τ H p rd ((requestF s l right).1, [], (requestF s l right).2) (.int .i64 (e : Int)) H := fun e h => by rw [h]; exact told_own P (Fr.refl _ _) e
  cases right with
  | false =>
    simp only [c41, sW, sL, aw_block, sXs, sXO, sXP, Int.reduceNegSucc, reduceCtorEq, Nat.reduceEqDiff, ↓reduceIte, Nat.reduceAdd, Int.reduceEq, Int.reduceLT, Int.reduceLE]
    exact stay 20 (by simp [requestF])
  | true =>
    by_cases h0 : l = []
    · subst h0
      cases hb : s.blank with
      | true =>
        rw [hb] at l4
        simp only [c41, sW, sL, aw_block, sXs, sXO, sXP, Int.reduceNegSucc, reduceCtorEq, Nat.reduceEqDiff, ↓reduceIte, Nat.reduceAdd, Int.reduceEq, Int.reduceLT, Int.reduceLE, nil_cell, fldA, l4]
        exact stay 20 (by simp [requestF, hb])
      | false =>
        rw [hb] at l4
        obtain ⟨H1, m1, r1, k1, o1⟩ := row_st P.row (n := 15) rfl (i := 4) (by omega) (x := .bool true) rfl rfl
        simp only [c41, sW, sL, aw_block, sXs, sXO, sXP, Int.reduceNegSucc, reduceCtorEq, Nat.reduceEqDiff, ↓reduceIte, Nat.reduceAdd, Int.reduceEq, Int.reduceLT, Int.reduceLE, nil_cell, fldA, l4, m1]
        have e : requestF s [] true = ({ s with blank := true }, 0) := by simp [requestF, hb]
        rw [e]
        exact told_own (P.own (s' := { s with blank := true }) r1 k1 o1 rfl rfl rfl) (fr_own P k1 o1) 0
    · simp only [c41, sW, sL, aw_block, sXs, sXO, sXP, Int.reduceNegSucc, reduceCtorEq, Nat.reduceEqDiff, ↓reduceIte, Nat.reduceAdd, Int.reduceEq, Int.reduceLT, Int.reduceLE, eq_false h0]
      refine (cut_spec l 32 (by omega)).mono ?_
      rintro v _ ⟨rfl, rfl⟩
      have hc1 := cut_len l 32
      have go : ∀ x : PS × Nat, ((cutF l 32).2.2 = true → token (cutF l 32).1 = true → requestF s l true = x) → (cutF l 32).2.2 = true ∧ token (cutF l 32).1 = true → requestF s l true = x := fun x h h' => h h'.1 h'.2
      cases hk : (cutF l 32).2.2 with
      | false =>
        simp only [sW, sL, aw_block, sXs, sXO, sXP, Int.reduceNegSucc, reduceCtorEq, Nat.reduceEqDiff, ↓reduceIte, Nat.reduceAdd, Int.reduceEq, Int.reduceLT, Int.reduceLE, ext_0, ext_1, ext_2]
        exact stay 20 (by simp [requestF, h0, hk])
      | true =>
        simp only [sW, sL, aw_block, sXs, sXO, sXP, Int.reduceNegSucc, reduceCtorEq, Nat.reduceEqDiff, ↓reduceIte, Nat.reduceAdd, Int.reduceEq, Int.reduceLT, Int.reduceLE, ext_0, ext_1, ext_2]
        refine (token_spec (cutF l 32).1 (by omega)).mono ?_
        rintro v _ ⟨rfl, rfl⟩
        cases ht : token (cutF l 32).1 with
        | false =>
          simp only [sW, sL, aw_block, sXs, sXO, sXP, Int.reduceNegSucc, reduceCtorEq, Nat.reduceEqDiff, ↓reduceIte, Nat.reduceAdd, Int.reduceEq, Int.reduceLT, Int.reduceLE]
          exact stay 20 (by simp [requestF, h0, hk, ht])
        | true =>
          simp only [sW, sL, aw_block, sXs, sXO, sXP, Int.reduceNegSucc, reduceCtorEq, Nat.reduceEqDiff, ↓reduceIte, Nat.reduceAdd, Int.reduceEq, Int.reduceLT, Int.reduceLE]
          refine (cut_spec (cutF l 32).2.1 32 (by omega)).mono ?_
          rintro v _ ⟨rfl, rfl⟩
          have hc2 := cut_len (cutF l 32).2.1 32
          obtain ⟨tg, vs, ok, hb⟩ : ∃ tg vs ok, cutF (cutF l 32).2.1 32 = (tg, vs, ok) := ⟨_, _, _, rfl⟩
          rw [hb] at hc2
          simp only at hc2
          have eb : requestF s l true = (if ok = false ∨ vs ≠ verW ∨ tg = [] ∨ tg.head? ≠ some 47 then (s, 20) else if tg.all tarB = false then (s, 20) else ({ s with now := { s.now with m := (cutF l 32).1, t := tg }, st := 1 }, 0)) := by
            simp [requestF, h0, hk, ht, hb]
          rw [hb]
          cases ok with
          | false =>
            simp only [sW, sL, aw_block, sXs, sXO, sXP, Int.reduceNegSucc, reduceCtorEq, Nat.reduceEqDiff, ↓reduceIte, Nat.reduceAdd, Int.reduceEq, Int.reduceLT, Int.reduceLE, ext_0, ext_1, ext_2]
            exact stay 20 (by rw [eb]; simp)
          | true =>
            by_cases hv : vs = verW
            · subst hv
              by_cases htg : tg = []
              · subst htg
                simp only [sW, sL, aw_block, sXs, sXO, sXP, Int.reduceNegSucc, reduceCtorEq, Nat.reduceEqDiff, ↓reduceIte, Nat.reduceAdd, Int.reduceEq, Int.reduceLT, Int.reduceLE, ext_0, ext_1, ext_2, verW]
                exact stay 20 (by rw [eb]; simp)
              · obtain ⟨b, r, rfl⟩ : ∃ b r, tg = b :: r := by
                  cases tg with
                  | nil => exact absurd rfl htg
                  | cons b r => exact ⟨b, r, rfl⟩
                have i0 : aIdxS (.str (b :: r)) (.int .i64 0) = some (by8 b) := str_idx (i := 0) rfl .i64
                by_cases h47 : b = 47
                · subst h47
                  have e47 : (((47 : UInt8).toNat : Nat) : Int) = 47 := rfl
                  simp only [sW, sL, aw_block, sXs, sXO, sXP, Int.reduceNegSucc, reduceCtorEq, Nat.reduceEqDiff, ↓reduceIte, Nat.reduceAdd, Int.reduceEq, Int.reduceLT, Int.reduceLE, ext_0, ext_1, ext_2, verW, i0, e47, eq_false htg]
                  refine (all_spec says_tar (47 :: r) (by omega)).mono ?_
                  rintro v _ ⟨rfl, rfl⟩
                  cases ha : (47 :: r : Bs).all tarB with
                  | false =>
                    simp only [sW, sL, aw_block, sXs, sXO, sXP, Int.reduceNegSucc, reduceCtorEq, Nat.reduceEqDiff, ↓reduceIte, Nat.reduceAdd, Int.reduceEq, Int.reduceLT, Int.reduceLE]
                    exact stay 20 (by rw [eb, ha]; simp)
                  | true =>
                    obtain ⟨H1, m1, r1, k1, o1⟩ := row_st P.row (n := 15) rfl (i := 5) (by omega) (x := .str (cutF l 32).1) rfl rfl
                    obtain ⟨H2, m2, r2, k2, o2⟩ := row_st r1 (n := 15) rfl (i := 6) (by omega) (x := .str (47 :: r)) rfl rfl
                    obtain ⟨H3, m3, r3, k3, o3⟩ := row_st r2 (n := 15) rfl (i := 1) (by omega) (x := .int .i64 1) rfl rfl
                    simp only [sW, sL, aw_block, sXs, sXO, sXP, Int.reduceNegSucc, reduceCtorEq, Nat.reduceEqDiff, ↓reduceIte, Nat.reduceAdd, Int.reduceEq, Int.reduceLT, Int.reduceLE, nil_cell, fldA, m1, m2, m3]
                    have e : requestF s l true = ({ s with now := { s.now with m := (cutF l 32).1, t := 47 :: r }, st := 1 }, 0) := by rw [eb, ha]; simp
                    rw [e]
                    have o : ∀ c, c ≠ p → H3.get c = H.get c := fun c hc => by rw [o3 c hc, o2 c hc, o1 c hc]
                    exact told_own (P.own (s' := { s with now := { s.now with m := (cutF l 32).1, t := 47 :: r }, st := 1 }) r3 (by omega) o rfl rfl rfl) (fr_own P (by omega) o) 0
                · have h47' : ¬ ((b.toNat : Int) = 47) := fun e => h47 (UInt8.toNat_inj.1 (by show b.toNat = 47; omega))
                  simp only [sW, sL, aw_block, sXs, sXO, sXP, Int.reduceNegSucc, reduceCtorEq, Nat.reduceEqDiff, ↓reduceIte, Nat.reduceAdd, Int.reduceEq, Int.reduceLT, Int.reduceLE, ext_0, ext_1, ext_2, verW, i0, h47', eq_false htg]
                  exact stay 20 (by rw [eb]; simp [h47])
            · have hv' : ¬ vs = [72, 84, 84, 80, 47, 49, 46, 49] := hv
              simp only [sW, sL, aw_block, sXs, sXO, sXP, Int.reduceNegSucc, reduceCtorEq, Nat.reduceEqDiff, ↓reduceIte, Nat.reduceAdd, Int.reduceEq, Int.reduceLT, Int.reduceLE, ext_0, ext_1, ext_2, eq_false hv']
              exact stay 20 (by rw [eb, if_pos (.inr (.inl hv))])
theorem chunk_spec (P : PR n τ H p s rd) {k : Nat} (B : Bd k s) (hk : k ≤ 1000000) (l : Bs) (right : Bool) (hl : l.length ≤ 1000000) :
    ACalls Try.prog natH 43 [cellR p 15 0, .str l, .bool right] H (Told τ H p rd ((chunkF s l right).1, [], (chunkF s l right).2)) := by
  obtain ⟨vl, vh, vb, vr, P⟩ := P
  refine acalls_ofN rfl za43 rfl ?_
  obtain ⟨l0, l1, l2, l3, l4, l7, l8, _⟩ := P.lds
  have stay : ∀ e : Nat, chunkF s l right = (s, e) → Told τ H p rd ((chunkF s l right).1, [], (chunkF s l right).2) (.int .i64 (e : Int)) H := fun e h => by rw [h]; exact told_own P (Fr.refl _ _) e
  cases right with
  | false =>
    simp only [c43, sW, sL, aw_block, sXs, sXO, sXP, Int.reduceNegSucc, reduceCtorEq, Nat.reduceEqDiff, ↓reduceIte, Nat.reduceAdd, Int.reduceEq, Int.reduceLT, Int.reduceLE]
    exact stay 22 (by simp [chunkF])
  | true =>
    simp only [c43, sW, sL, aw_block, sXs, sXO, sXP, Int.reduceNegSucc, reduceCtorEq, Nat.reduceEqDiff, ↓reduceIte, Nat.reduceAdd, Int.reduceEq, Int.reduceLT, Int.reduceLE]
    refine (cut_spec l 59 (by omega)).mono ?_
    rintro v _ ⟨rfl, rfl⟩
    have hc1 := cut_len l 59
    obtain ⟨dg, mo, ok, hb⟩ : ∃ dg mo ok, cutF l 59 = (dg, mo, ok) := ⟨_, _, _, rfl⟩
    rw [hb] at hc1 ⊢
    simp only at hc1
    have eb : chunkF s l true = (if dg.length < 1 ∨ 7 < dg.length ∨ dg.all hexB = false ∨ mo.all valB = false then (s, 22) else if hexF dg = 0 then ({ s with st := 7 }, 0) else if 65536 < s.now.body.length + hexF dg then (s, 3) else ({ s with need := hexF dg, st := 4 }, 0)) := by
      simp [chunkF, hb]
    by_cases h1 : dg.length < 1
    · have h1' : (dg.length : Int) < 1 := by omega
      simp only [sW, sL, aw_block, sXs, sXO, sXP, Int.reduceNegSucc, reduceCtorEq, Nat.reduceEqDiff, ↓reduceIte, Nat.reduceAdd, Int.reduceEq, Int.reduceLT, Int.reduceLE, ext_0, ext_1, ext_2, h1']
      exact stay 22 (by rw [eb, if_pos (.inl h1)])
    have h1' : ¬ (dg.length : Int) < 1 := by omega
    by_cases h2 : 7 < dg.length
    · have h2' : (7 : Int) < (dg.length : Int) := by omega
      simp only [sW, sL, aw_block, sXs, sXO, sXP, Int.reduceNegSucc, reduceCtorEq, Nat.reduceEqDiff, ↓reduceIte, Nat.reduceAdd, Int.reduceEq, Int.reduceLT, Int.reduceLE, ext_0, ext_1, ext_2, h1', h2']
      exact stay 22 (by rw [eb, if_pos (.inr (.inl h2))])
    have h2' : ¬ (7 : Int) < (dg.length : Int) := by omega
    simp only [sW, sL, aw_block, sXs, sXO, sXP, Int.reduceNegSucc, reduceCtorEq, Nat.reduceEqDiff, ↓reduceIte, Nat.reduceAdd, Int.reduceEq, Int.reduceLT, Int.reduceLE, ext_0, ext_1, ext_2, h1', h2']
    refine (all_spec says_hex dg (by omega)).mono ?_
    rintro v _ ⟨rfl, rfl⟩
    cases hx : dg.all hexB with
    | false =>
      simp only [sW, sL, aw_block, sXs, sXO, sXP, Int.reduceNegSucc, reduceCtorEq, Nat.reduceEqDiff, ↓reduceIte, Nat.reduceAdd, Int.reduceEq, Int.reduceLT, Int.reduceLE]
      exact stay 22 (by rw [eb, if_pos (.inr (.inr (.inl hx)))])
    | true =>
      simp only [sW, sL, aw_block, sXs, sXO, sXP, Int.reduceNegSucc, reduceCtorEq, Nat.reduceEqDiff, ↓reduceIte, Nat.reduceAdd, Int.reduceEq, Int.reduceLT, Int.reduceLE]
      refine (all_spec says_val mo (by omega)).mono ?_
      rintro v _ ⟨rfl, rfl⟩
      cases hm : mo.all valB with
      | false =>
        simp only [sW, sL, aw_block, sXs, sXO, sXP, Int.reduceNegSucc, reduceCtorEq, Nat.reduceEqDiff, ↓reduceIte, Nat.reduceAdd, Int.reduceEq, Int.reduceLT, Int.reduceLE]
        exact stay 22 (by rw [eb, if_pos (.inr (.inr (.inr hm)))])
      | true =>
        simp only [sW, sL, aw_block, sXs, sXO, sXP, Int.reduceNegSucc, reduceCtorEq, Nat.reduceEqDiff, ↓reduceIte, Nat.reduceAdd, Int.reduceEq, Int.reduceLT, Int.reduceLE]
        have eb' : chunkF s l true = (if hexF dg = 0 then ({ s with st := 7 }, 0) else if 65536 < s.now.body.length + hexF dg then (s, 3) else ({ s with need := hexF dg, st := 4 }, 0)) := by
          rw [eb, if_neg ?_]
          rintro (h | h | h | h)
          · exact h1 h
          · exact h2 h
          · rw [hx] at h; simp at h
          · rw [hm] at h; simp at h
        have hlim := hexF_lt dg hx
        have hlim' : hexF dg < 16 ^ 7 := Nat.lt_of_lt_of_le hlim (Nat.pow_le_pow_right (by omega) (by omega))
        refine aw_loop (fun q (T : Env) H' => ∃ j : Nat, j ≤ dg.length ∧ q = dg.length - j ∧ T 0 = cellR p 15 0 ∧ T 7 = .str dg ∧ T 10 = .int .i64 (hexF (dg.take j) : Int) ∧ T 39 = .int .i64 (dg.length : Int) ∧ T 40 = .int .i64 (j : Int) ∧ H = H') dg.length
          ⟨0, Nat.zero_le _, rfl, by simp only [sW, sL, aw_block, sXs, sXO, sXP, Int.reduceNegSucc, reduceCtorEq, Nat.reduceEqDiff, ↓reduceIte, Nat.reduceAdd, Int.reduceEq, Int.reduceLT, Int.reduceLE]; try rfl, by simp only [sW, sL, aw_block, sXs, sXO, sXP, Int.reduceNegSucc, reduceCtorEq, Nat.reduceEqDiff, ↓reduceIte, Nat.reduceAdd, Int.reduceEq, Int.reduceLT, Int.reduceLE]; try rfl, by simp only [sW, sL, aw_block, sXs, sXO, sXP, Int.reduceNegSucc, reduceCtorEq, Nat.reduceEqDiff, ↓reduceIte, Nat.reduceAdd, Int.reduceEq, Int.reduceLT, Int.reduceLE]; try rfl, by simp only [sW, sL, aw_block, sXs, sXO, sXP, Int.reduceNegSucc, reduceCtorEq, Nat.reduceEqDiff, ↓reduceIte, Nat.reduceAdd, Int.reduceEq, Int.reduceLT, Int.reduceLE]; try rfl, by simp only [sW, sL, aw_block, sXs, sXO, sXP, Int.reduceNegSucc, reduceCtorEq, Nat.reduceEqDiff, ↓reduceIte, Nat.reduceAdd, Int.reduceEq, Int.reduceLT, Int.reduceLE]; try rfl, rfl⟩ ?_
        rintro q T _ ⟨j, hj, rfl, g0, g7, g10, g39, g40, rfl⟩
        by_cases hlt : j < dg.length
        · have hlt' : (j : Int) < (dg.length : Int) := by omega
          obtain ⟨c, hc⟩ := isSome_of_lt hlt
          have hdc : hexB c = true := List.all_eq_true.1 hx c (List.mem_of_getElem? hc)
          have hn : hexF (dg.take j) < 16 ^ 7 := by
            have h := hexF_lt (dg.take j) (List.all_eq_true.2 fun x hx' => List.all_eq_true.1 hx x (List.mem_of_mem_take hx'))
            exact Nat.lt_of_lt_of_le h (Nat.pow_le_pow_right (by omega) (by simp; omega))
          have hvc := hexV_lt c hdc
          generalize hnn : hexF (dg.take j) = m at *
          have w1 : IntKind.i64.wrap ((m : Int) * 16) = ((m * 16 : Nat) : Int) := by rw [wrap64 (by omega) (by omega)]; omega
          simp only [sW, sL, aw_block, sXs, sXO, sXP, Int.reduceNegSucc, reduceCtorEq, Nat.reduceEqDiff, ↓reduceIte, Nat.reduceAdd, Int.reduceEq, Int.reduceLT, Int.reduceLE, g0, g7, g10, g39, g40, hlt', str_idx hc, w1]
          refine (hexw_spec c hdc).mono ?_
          rintro v _ ⟨rfl, rfl⟩
          simp only [sW, sL, aw_block, sXs, sXO, sXP, Int.reduceNegSucc, reduceCtorEq, Nat.reduceEqDiff, ↓reduceIte, Nat.reduceAdd, Int.reduceEq, Int.reduceLT, Int.reduceLE, g0, g7, g10, g39, g40, wrapN (m * 16) (hexV c) (by omega), wrap1 j (by omega)]
          refine ⟨_, by omega, j + 1, by omega, rfl, (by first | trivial | rfl | assumption), (by first | trivial | rfl | assumption), ?_, (by first | trivial | rfl | assumption), (by first | trivial | rfl | assumption), (by first | trivial | rfl | assumption)⟩
          rw [List.take_add_one, hc, Option.toList_some, hexF_snoc, hnn]
        · have hlt' : ¬ (j : Int) < (dg.length : Int) := by omega
          rw [List.take_of_length_le (by omega)] at g10
          by_cases hz : hexF dg = 0
          · obtain ⟨H1, m1, r1, k1, o1⟩ := row_st P.row (n := 15) rfl (i := 1) (by omega) (x := .int .i64 7) rfl rfl
            simp only [sW, sL, aw_block, sXs, sXO, sXP, Int.reduceNegSucc, reduceCtorEq, Nat.reduceEqDiff, ↓reduceIte, Nat.reduceAdd, Int.reduceEq, Int.reduceLT, Int.reduceLE, g0, g7, g10, g39, g40, hlt', hz, Int.natCast_zero, nil_cell, fldA, m1]
            rw [eb', if_pos hz]
            exact told_own (P.own (s' := { s with st := 7 }) r1 k1 o1 rfl rfl rfl) (fr_own P k1 o1) 0
          · have hz' : ¬ ((hexF dg : Int) = 0) := by omega
            have hbl := B.body
            by_cases hbig : 65536 < s.now.body.length + hexF dg
            · have hbig' : (65536 : Int) < ((s.now.body.length + hexF dg : Nat) : Int) := by omega
              simp only [sW, sL, aw_block, sXs, sXO, sXP, Int.reduceNegSucc, reduceCtorEq, Nat.reduceEqDiff, ↓reduceIte, Nat.reduceAdd, Int.reduceEq, Int.reduceLT, Int.reduceLE, g0, g7, g10, g39, g40, hlt', hz', nil_cell, fldA, l8, P.b.1.len, wrapN _ _ (show s.now.body.length + hexF dg ≤ 9223372036854775807 by omega), hbig']
              rw [eb', if_neg hz, if_pos hbig]
              exact told_own P (Fr.refl _ _) 3
            · have hbig' : ¬ (65536 : Int) < ((s.now.body.length + hexF dg : Nat) : Int) := by omega
              obtain ⟨H1, m1, r1, k1, o1⟩ := row_st P.row (n := 15) rfl (i := 10) (by omega) (x := .int .i64 (hexF dg : Int)) rfl rfl
              obtain ⟨H2, m2, r2, k2, o2⟩ := row_st r1 (n := 15) rfl (i := 1) (by omega) (x := .int .i64 4) rfl rfl
              simp only [sW, sL, aw_block, sXs, sXO, sXP, Int.reduceNegSucc, reduceCtorEq, Nat.reduceEqDiff, ↓reduceIte, Nat.reduceAdd, Int.reduceEq, Int.reduceLT, Int.reduceLE, g0, g7, g10, g39, g40, hlt', hz', nil_cell, fldA, l8, P.b.1.len, wrapN _ _ (show s.now.body.length + hexF dg ≤ 9223372036854775807 by omega), hbig', m1, m2]
              rw [eb', if_neg hz, if_neg hbig]
              have o : ∀ c, c ≠ p → H2.get c = H.get c := fun c hc => by rw [o2 c hc, o1 c hc]
              exact told_own (P.own (s' := { s with need := hexF dg, st := 4 }) r2 (by omega) o rfl rfl rfl) (fr_own P (by omega) o) 0
theorem trailer_spec (P : PR n τ H p s rd) {k : Nat} (B : Bd k s) (hk : k ≤ 1000000) (hrd : rd.length ≤ 1000000) (l : Bs) (right : Bool) (hl : l.length ≤ 1000000) :
    ACalls Try.prog natH 44 [cellR p 15 0, .str l, .bool right] H (Told τ H p rd (trailerF s l right)) := by
  have P0 := P
  obtain ⟨vl, vh, vb, vr, P⟩ := P
  refine acalls_ofN rfl za44 rfl ?_
  obtain ⟨l0, l1, l2, l3, l4, l7, l8, l9, l10, l11, _⟩ := P.lds
  have stay : ∀ e : Nat, trailerF s l right = (s, [], e) → Told τ H p rd (trailerF s l right) (.int .i64 (e : Int)) H := fun e h => by rw [h]; exact told_own P (Fr.refl _ _) e
  have htr := B.trailers
  by_cases h0 : l = []
  · subst h0
    cases right with
    | false =>
      simp only [c44, sW, sL, aw_block, sXs, sXO, sXP, Int.reduceNegSucc, reduceCtorEq, Nat.reduceEqDiff, ↓reduceIte, Nat.reduceAdd, Int.reduceEq, Int.reduceLT, Int.reduceLE]
      exact stay 21 (by simp [trailerF])
    | true =>
      simp only [c44, sW, sL, aw_block, sXs, sXO, sXP, Int.reduceNegSucc, reduceCtorEq, Nat.reduceEqDiff, ↓reduceIte, Nat.reduceAdd, Int.reduceEq, Int.reduceLT, Int.reduceLE]
      refine (whole_spec P0 B.bm hk hrd).mono ?_
      rintro v H1 ⟨τ', h1, h2⟩
      simp only [sW, sL, aw_block, sXs, sXO, sXP, Int.reduceNegSucc, reduceCtorEq, Nat.reduceEqDiff, ↓reduceIte, Nat.reduceAdd, Int.reduceEq, Int.reduceLT, Int.reduceLE]
      exact ⟨by simp [trailerF], τ', h1, h2⟩
  · by_cases h40 : 40 ≤ s.trailers
    · have h40' : (40 : Int) ≤ (s.trailers : Int) := by omega
      simp only [c44, sW, sL, aw_block, sXs, sXO, sXP, Int.reduceNegSucc, reduceCtorEq, Nat.reduceEqDiff, ↓reduceIte, Nat.reduceAdd, Int.reduceEq, Int.reduceLT, Int.reduceLE, eq_false h0, nil_cell, fldA, l11, h40']
      exact stay 3 (by simp [trailerF, h0, h40])
    · have h40' : ¬ (40 : Int) ≤ (s.trailers : Int) := by omega
      cases right with
      | false =>
        simp only [c44, sW, sL, aw_block, sXs, sXO, sXP, Int.reduceNegSucc, reduceCtorEq, Nat.reduceEqDiff, ↓reduceIte, Nat.reduceAdd, Int.reduceEq, Int.reduceLT, Int.reduceLE, eq_false h0, nil_cell, fldA, l11, h40']
        exact stay 21 (by simp [trailerF, h0, h40])
      | true =>
        simp only [c44, sW, sL, aw_block, sXs, sXO, sXP, Int.reduceNegSucc, reduceCtorEq, Nat.reduceEqDiff, ↓reduceIte, Nat.reduceAdd, Int.reduceEq, Int.reduceLT, Int.reduceLE, eq_false h0, nil_cell, fldA, l11, h40']
        refine (header_spec l hl).mono ?_
        rintro v H1 ⟨rfl, E1⟩
        obtain ⟨H2, m2, r2, k2, o2⟩ := row_newL H1 [.str [], .str []] (n := 2) rfl
        have P1 := P.ext E1.next fun c hc => E1.old c (by have := P.nn; omega)
        cases hh : headerF l with
        | none =>
          obtain ⟨H3, m3, r3, k3, o3⟩ := row_storeN r2 (n := 2) rfl (xs := [.str [], .str []]) rfl rfl
          have nn := P1.nn
          have P3 := P1.ext (H' := H3) (by omega) fun c hc => by rw [o3 c (by omega), o2 c (by omega)]
          simp only [optV, sW, sL, aw_block, sXs, sXO, sXP, Int.reduceNegSucc, reduceCtorEq, Nat.reduceEqDiff, ↓reduceIte, Nat.reduceAdd, Int.reduceEq, Int.reduceLT, Int.reduceLE, ext_0, ext_1, m2, m3]
          have e : trailerF s l true = (s, [], 21) := by simp [trailerF, h0, h40, hh]
          rw [e]
          exact told_own P3 (Fr.of_ext ⟨by have := E1.next; omega, fun c hc => by rw [o3 c (by have := E1.next; omega), o2 c (by have := E1.next; omega)]; exact E1.old c hc⟩) 21
        | some q =>
          obtain ⟨H3, m3, r3, k3, o3⟩ := row_storeN r2 (n := 2) rfl (xs := [.str q.1, .str q.2]) rfl rfl
          have nn := P1.nn
          have P3 := P1.ext (H' := H3) (by omega) fun c hc => by rw [o3 c (by omega), o2 c (by omega)]
          obtain ⟨_, _, _, _, _, _, _, _, _, l11', _⟩ := P3.lds
          obtain ⟨H4, m4, r4, k4, o4⟩ := row_st P3.row (n := 15) rfl (i := 11) (by omega) (x := .int .i64 ((s.trailers + 1 : Nat) : Int)) rfl rfl
          simp only [optV, sW, sL, aw_block, sXs, sXO, sXP, Int.reduceNegSucc, reduceCtorEq, Nat.reduceEqDiff, ↓reduceIte, Nat.reduceAdd, Int.reduceEq, Int.reduceLT, Int.reduceLE, ext_0, ext_1, m2, m3, nil_cell, fldA, l11', wrap1 s.trailers (by omega), m4]
          have e : trailerF s l true = ({ s with trailers := s.trailers + 1 }, [], 0) := by simp [trailerF, h0, h40, hh]
          rw [e]
          have F3 : Fr τ H τ H3 := Fr.of_ext ⟨by have := E1.next; omega, fun c hc => by rw [o3 c (by have := E1.next; omega), o2 c (by have := E1.next; omega)]; exact E1.old c hc⟩
          exact told_own (P3.own (s' := { s with trailers := s.trailers + 1 }) r4 k4 o4 rfl rfl rfl) (F3.trans (fr_own P3 k4 o4)) 0
theorem app_ge {n : Nat} {H : AHeap} {v : AVal} {l : List AVal} (h : App n H v l) : Blk v (n ≤ ·) := by
  rcases h with ⟨rfl, _⟩ | ⟨b, low, rfl, h2, _⟩
  · exact blk_nil _
  · exact blk_some h2
/-- the values of a name -/
theorem values_spec {vl vh vb vr : AVal} (P : PV n τ H p s rd vl vh vb vr) (name : Bs) (hh : s.now.hs.length ≤ 1000000) :
    ACalls Try.prog natH 57 [cellR p 15 0, .str name] H fun v H' => Cel H'.next H' v (strs (valuesF s.now.hs name)) ∧ Blk v (H.next ≤ ·) ∧ Ext H.next H H' := by
  refine acalls_ofN rfl za57 rfl ?_
  obtain ⟨l0, l1, l2, l3, l4, l7, _⟩ := P.lds
  have hv : Prs H.next H vh s.now.hs := P.h.1.prs P.h.1.blk'
  simp only [c57, sW, sL, aw_block, sXs, sXO, sXP, Int.reduceNegSucc, reduceCtorEq, Nat.reduceEqDiff, ↓reduceIte, Nat.reduceAdd, Int.reduceEq, Int.reduceLT, Int.reduceLE, nil_cell, fldA, l7, hv.len]
  refine aw_loop (fun q (T : Env) H' => ∃ j : Nat, j ≤ s.now.hs.length ∧ q = s.now.hs.length - j ∧ T 1 = .str name ∧ T 12 = vh ∧ T 13 = .int .i64 (s.now.hs.length : Int) ∧ T 14 = .int .i64 (j : Int) ∧ App H.next H' (T 5) (strs (valuesF (s.now.hs.take j) name)) ∧ Ext H.next H H') s.now.hs.length
    ⟨0, Nat.zero_le _, rfl, by simp only [sW, sL, aw_block, sXs, sXO, sXP, Int.reduceNegSucc, reduceCtorEq, Nat.reduceEqDiff, ↓reduceIte, Nat.reduceAdd, Int.reduceEq, Int.reduceLT, Int.reduceLE]; try rfl, by simp only [sW, sL, aw_block, sXs, sXO, sXP, Int.reduceNegSucc, reduceCtorEq, Nat.reduceEqDiff, ↓reduceIte, Nat.reduceAdd, Int.reduceEq, Int.reduceLT, Int.reduceLE]; try rfl, by simp only [sW, sL, aw_block, sXs, sXO, sXP, Int.reduceNegSucc, reduceCtorEq, Nat.reduceEqDiff, ↓reduceIte, Nat.reduceAdd, Int.reduceEq, Int.reduceLT, Int.reduceLE]; try rfl, by simp only [sW, sL, aw_block, sXs, sXO, sXP, Int.reduceNegSucc, reduceCtorEq, Nat.reduceEqDiff, ↓reduceIte, Nat.reduceAdd, Int.reduceEq, Int.reduceLT, Int.reduceLE]; try rfl, by simp only [sW, sL, aw_block, sXs, sXO, sXP, Int.reduceNegSucc, reduceCtorEq, Nat.reduceEqDiff, ↓reduceIte, Nat.reduceAdd, Int.reduceEq, Int.reduceLT, Int.reduceLE]; exact App.nil _ _, Ext.refl _ _⟩ ?_
  rintro q T H' ⟨j, hj, rfl, g1, g12, g13, g14, hA, E⟩
  by_cases hlt : j < s.now.hs.length
  · have hlt' : (j : Int) < (s.now.hs.length : Int) := by omega
    obtain ⟨x, hx⟩ := isSome_of_lt hlt
    obtain ⟨a, a1, a2, _⟩ := (hv.ext E).at hx
    obtain ⟨H3, m3, r3, k3, o3⟩ := row_newL H' [.str [], .str []] (n := 2) rfl
    obtain ⟨H4, m4, r4, k4, o4⟩ := row_storeN r3 (n := 2) rfl (xs := [.str x.1, .str x.2]) rfl rfl
    have en := E.next
    have E4' : Ext H'.next H' H4 := ⟨by omega, fun c hc => by rw [o4 c (by omega), o3 c (by omega)]⟩
    have E4 : Ext H.next H H4 := E.trans (E4'.less en)
    have q0 := row_load r4 (n := 2) rfl (i := 0) rfl
    have q1 := row_load r4 (n := 2) rfl (i := 1) rfl
    have hA4 := hA.ext E4'
    by_cases he : x.1 = name
    · have hvl : (valuesF (s.now.hs.take j) name).length ≤ 1000000 := by
        have h1 : (valuesF (s.now.hs.take j) name).length ≤ (s.now.hs.take j).length := by
          unfold valuesF; rw [List.length_map]; exact List.length_filter_le _ _
        have h2 := List.length_take_le' j s.now.hs
        omega
      obtain ⟨v', H5, m5, A5, E5⟩ := hA4.push (by omega) (x := .str x.2) rfl (bytes := 16) (by rw [strs_len]; omega) (by omega)
      have q0' : oLoad false 1 H4 (cellR H'.next 2 0) = some (.str x.1) := q0
      have q1' : oLoad false 1 H4 (cellR H'.next 2 1) = some (.str x.2) := q1
      have bm : aBuildSl 1 [.str []] H4 [(0, 1, .str x.2)] = some (oneS H4, H4.push (.cells [.str x.2] 0 false)) := build1 _ _ rfl
      simp only [sW, sL, aw_block, sXs, sXO, sXP, Int.reduceNegSucc, reduceCtorEq, Nat.reduceEqDiff, ↓reduceIte, Nat.reduceAdd, Int.reduceEq, Int.reduceLT, Int.reduceLE, g1, g12, g13, g14, hlt', a1, a2, m3, m4, fld0, q0', q1', eq_true he, bm, m5, wrap1 j (by omega)]
      refine ⟨_, by omega, j + 1, by omega, rfl, (by first | trivial | rfl | assumption), (by first | trivial | rfl | assumption), (by first | trivial | rfl | assumption), (by first | trivial | rfl | assumption), ?_, E4.trans E5⟩
      rw [List.take_add_one, hx]
      have : valuesF (s.now.hs.take j ++ (some x).toList) name = valuesF (s.now.hs.take j) name ++ [x.2] := by simp [valuesF, he]
      rw [this, strs_snoc]
      exact A5
    · have q0' : oLoad false 1 H4 (cellR H'.next 2 0) = some (.str x.1) := q0
      simp only [sW, sL, aw_block, sXs, sXO, sXP, Int.reduceNegSucc, reduceCtorEq, Nat.reduceEqDiff, ↓reduceIte, Nat.reduceAdd, Int.reduceEq, Int.reduceLT, Int.reduceLE, g1, g12, g13, g14, hlt', a1, a2, m3, m4, fld0, q0', eq_false he, wrap1 j (by omega)]
      refine ⟨_, by omega, j + 1, by omega, rfl, (by first | trivial | rfl | assumption), (by first | trivial | rfl | assumption), (by first | trivial | rfl | assumption), (by first | trivial | rfl | assumption), ?_, E4⟩
      rw [List.take_add_one, hx]
      have : valuesF (s.now.hs.take j ++ (some x).toList) name = valuesF (s.now.hs.take j) name := by simp [valuesF, he]
      rw [this]
      exact hA4
  · have hlt' : ¬ (j : Int) < (s.now.hs.length : Int) := by omega
    rw [List.take_of_length_le (by omega)] at hA
    simp only [sW, sL, aw_block, sXs, sXO, sXP, Int.reduceNegSucc, reduceCtorEq, Nat.reduceEqDiff, ↓reduceIte, Nat.reduceAdd, Int.reduceEq, Int.reduceLT, Int.reduceLE, g1, g12, g13, g14, hlt']
    exact ⟨hA.cel, app_ge hA, E⟩
end
end Go.Proofs.Ht
/- A parser of requests, in plain words: how much there is at most; how many requests so many bytes are. Plain Lean. -/
namespace Go.Proofs.Ht
open Go.Abs Go.Abs.S
theorem Bd.more {k m : Nat} {s : PS} (h : Bd k s) (hm : k ≤ m) : Bd m s :=
  ⟨h.st, h.fault, by have := h.line; omega, by have := h.m; omega, by have := h.t; omega, by have := h.body; omega, by have := h.hs; omega, fun x hx => by have := h.he x hx; omega, by have := h.trailers; omega, by have := h.fed; omega, h.need, h.pos⟩
theorem Bd.zero : Bd 0 PS.zero := ⟨by decide, by decide, Nat.le_refl _, Nat.le_refl _, Nat.le_refl _, Nat.le_refl _, Nat.le_refl _, fun x hx => by simp [PS.zero, Rq.none] at hx, Nat.le_refl _, Nat.le_refl _, by decide, fun h => by simp [PS.zero] at h⟩
theorem Bd.reset {k j : Nat} {s : PS} (h : Bd k s) (hj : j = 0 ∨ j = 8) : Bd k (s.reset j) :=
  ⟨by simp only [PS.reset]; omega, h.fault, Nat.zero_le _, Nat.zero_le _, Nat.zero_le _, Nat.zero_le _, Nat.zero_le _, fun x hx => by simp [PS.reset, Rq.none] at hx, Nat.zero_le _, Nat.zero_le _, by simp [PS.reset], fun h => by simp only [PS.reset] at h; omega⟩
theorem Bd.whole {k : Nat} {s : PS} (h : Bd k s) : Bd k (wholeF s).1 := by
  unfold wholeF
  refine h.reset ?_
  split <;> simp
/-- what is found stays small; errors are small numbers -/
structure Ok (k : Nat) (o : Out) : Prop where
  b : Bd k o.1
  e : o.2.2 ≤ 100
theorem bd_request {k : Nat} {s : PS} (h : Bd k s) (l : Bs) (r : Bool) (hl : l.length ≤ k) : Bd k (requestF s l r).1 ∧ (requestF s l r).2 ≤ 100 := by
  have hc1 := cut_len l 32
  have hc2 := cut_len (cutF l 32).2.1 32
  unfold requestF
  split
  · exact ⟨h, by simp⟩
  · split
    · split
      · exact ⟨h, by simp⟩
      · exact ⟨⟨h.st, h.fault, h.line, h.m, h.t, h.body, h.hs, h.he, h.trailers, h.fed, h.need, h.pos⟩, by simp⟩
    · simp only
      split
      · exact ⟨h, by simp⟩
      · split
        · exact ⟨h, by simp⟩
        · split
          · exact ⟨h, by simp⟩
          · exact ⟨⟨by simp, h.fault, h.line, by simp only; omega, by simp only; omega, h.body, h.hs, h.he, h.trailers, h.fed, h.need, fun h => by simp at h⟩, by simp⟩
theorem numberF_lt {s : Bs} {n : Nat} (h : numberF s = some n) : n < 10 ^ 9 := by
  unfold numberF at h
  split at h
  · simp at h
  · rename_i hn
    simp only [Option.some.injEq] at h
    subst h
    have h3 : s.all digB = true := by
      cases hb : s.all digB with
      | true => rfl
      | false => exact absurd (.inr (.inr hb)) hn
    have h9 : s.length ≤ 9 := by omega
    exact Nat.lt_of_lt_of_le (decF_lt s h3) (Nat.pow_le_pow_right (by omega) h9)
theorem ok_headersEnd {k : Nat} {s : PS} (h : Bd k s) : Ok k (headersEndF s) := by
  have go : ∀ (n : Nat) (c : Bool) (b : Prop) [Decidable b], n ≤ 65536 → Ok k (if b then (({ s with now := { s.now with close := c }, need := n, st := 3 } : PS), [], 0) else if 0 < n then (({ s with now := { s.now with close := c }, need := n, st := 2 } : PS), [], 0) else ((wholeF { s with now := { s.now with close := c }, need := n }).1, (wholeF { s with now := { s.now with close := c }, need := n }).2, 0)) := by
    intro n c b _ hn
    split
    · exact ⟨⟨by simp, h.fault, h.line, h.m, h.t, h.body, h.hs, h.he, h.trailers, h.fed, by simp only; omega, fun h => by simp at h⟩, by simp⟩
    · split
      · rename_i hp
        exact ⟨⟨by simp, h.fault, h.line, h.m, h.t, h.body, h.hs, h.he, h.trailers, h.fed, by simp only; omega, fun _ => hp⟩, by simp⟩
      · refine ⟨?_, by simp⟩
        unfold wholeF
        have : ∀ j, (j = 0 ∨ j = 8) → Bd k (PS.reset { s with now := { s.now with close := c }, need := n } j) := fun j hj => ⟨by simp only [PS.reset]; omega, h.fault, Nat.zero_le _, Nat.zero_le _, Nat.zero_le _, Nat.zero_le _, Nat.zero_le _, fun x hx => by simp [PS.reset, Rq.none] at hx, Nat.zero_le _, Nat.zero_le _, by simp [PS.reset], fun h => by simp only [PS.reset] at h; omega⟩
        refine this _ ?_
        split <;> simp
  unfold headersEndF
  simp only
  split
  · exact ⟨h, by simp⟩
  · split
    · exact ⟨h, by simp⟩
    · split
      · split
        · exact ⟨h, by simp⟩
        · rename_i n hn
          split
          · exact ⟨h, by simp⟩
          · exact go n _ _ (by omega)
      · exact go 0 _ _ (by omega)
theorem headerF_len {l : Bs} {q : Bs × Bs} (h : headerF l = some q) : q.1.length ≤ l.length ∧ q.2.length ≤ l.length := by
  have hc := cut_len l 58
  unfold headerF at h
  split at h
  · simp at h
  · split at h
    · simp only [Option.some.injEq] at h
      subst h
      have := trim_len (cutF l 58).2.1
      simp only [low, List.length_map]
      omega
    · simp at h
theorem ok_headerLine {k : Nat} {s : PS} (h : Bd k s) (l : Bs) (r : Bool) (hl : l.length ≤ k) : Ok (k + 1) (headerLineF s l r) := by
  have h' := h.more (Nat.le_succ k)
  unfold headerLineF
  split
  · exact ⟨h', by simp⟩
  · split
    · exact ⟨h', by simp⟩
    · split
      · have := ok_headersEnd h
        exact ⟨this.b.more (Nat.le_succ k), this.e⟩
      · split
        · exact ⟨h', by simp⟩
        · rename_i q hq
          have hq' := headerF_len hq
          refine ⟨⟨h.st, h.fault, h'.line, h'.m, h'.t, h'.body, by have := h.hs; simp; omega, ?_, h'.trailers, h'.fed, h.need, h.pos⟩, by simp⟩
          intro x hx
          simp only [List.mem_append, List.mem_singleton] at hx
          rcases hx with hx | rfl
          · exact h'.he x hx
          · omega
theorem ok_trailer {k : Nat} {s : PS} (h : Bd k s) (l : Bs) (r : Bool) : Ok (k + 1) (trailerF s l r) := by
  have h' := h.more (Nat.le_succ k)
  unfold trailerF
  split
  · exact ⟨h', by simp⟩
  · split
    · exact ⟨h', by simp⟩
    · split
      · exact ⟨h'.whole, by simp⟩
      · split
        · exact ⟨h', by simp⟩
        · exact ⟨⟨h.st, h.fault, h'.line, h'.m, h'.t, h'.body, h'.hs, h'.he, by have := h.trailers; simp only; omega, h'.fed, h.need, h.pos⟩, by simp⟩
theorem bd_chunk {k : Nat} {s : PS} (h : Bd k s) (l : Bs) (r : Bool) : Bd k (chunkF s l r).1 ∧ (chunkF s l r).2 ≤ 100 := by
  unfold chunkF
  split
  · exact ⟨h, by simp⟩
  · simp only
    split
    · exact ⟨h, by simp⟩
    · rename_i hn
      split
      · exact ⟨⟨by simp, h.fault, h.line, h.m, h.t, h.body, h.hs, h.he, h.trailers, h.fed, h.need, fun h => by simp at h⟩, by simp⟩
      · rename_i hz
        split
        · exact ⟨h, by simp⟩
        · have hx : (cutF l 59).1.all hexB = true := by
            cases hb : (cutF l 59).1.all hexB with
            | true => rfl
            | false => exact absurd (.inr (.inr (.inl hb))) hn
          have h7 : (cutF l 59).1.length ≤ 7 := by
            by_cases h7 : 7 < (cutF l 59).1.length
            · exact absurd (.inr (.inl h7)) hn
            · omega
          have := Nat.lt_of_lt_of_le (hexF_lt _ hx) (Nat.pow_le_pow_right (show 0 < 16 by omega) h7)
          exact ⟨⟨by simp, h.fault, h.line, h.m, h.t, h.body, h.hs, h.he, h.trailers, h.fed, by simp only; omega, fun _ => by simp only; omega⟩, by simp⟩
theorem ok_ended {k : Nat} {s : PS} (h : Bd k s) : Ok (k + 1) (endedF s) := by
  have hs : Bd k { s with line := [] } := ⟨h.st, h.fault, Nat.zero_le _, h.m, h.t, h.body, h.hs, h.he, h.trailers, h.fed, h.need, h.pos⟩
  have hs' := hs.more (Nat.le_succ k)
  have hl := h.line
  unfold endedF
  simp only
  generalize hL : (if decide (s.line.getLast? = some 13) = true then s.line.take (s.line.length - 1) else s.line) = L
  have hLl : L.length ≤ k := by
    rw [← hL]; split
    · simp; omega
    · exact hl
  split
  · exact ⟨hs', by simp⟩
  · split
    · refine ⟨hs', ?_⟩
      simp only [wantF]; split
      · omega
      · split <;> omega
    · split
      · have := bd_request hs L (L.all no13) hLl
        exact ⟨this.1.more (Nat.le_succ k), this.2⟩
      · split
        · exact ok_headerLine hs L _ hLl
        · split
          · have := bd_chunk hs L (L.all no13)
            exact ⟨this.1.more (Nat.le_succ k), this.2⟩
          · exact ok_trailer hs L _
theorem ok_take {k : Nat} {s : PS} (h : Bd k s) (c : UInt8) : Ok (k + 1) (takeF s c) := by
  have h' := h.more (Nat.le_succ k)
  unfold takeF
  split
  · rename_i hst
    have hp := h.pos hst
    simp only
    have hb : (s.now.body ++ [c]).length ≤ k + 1 := by have := h.body; simp; omega
    have hn := h.need
    split
    · rename_i h0
      exact ⟨⟨h.st, h.fault, h'.line, h'.m, h'.t, hb, h'.hs, h'.he, h'.trailers, h'.fed, by simp only; omega, fun _ => h0⟩, by simp⟩
    · split
      · refine ⟨?_, by simp⟩
        unfold wholeF
        have : ∀ (x : PS) (j : Nat), x.fault = s.fault → (j = 0 ∨ j = 8) → Bd (k + 1) (x.reset j) := fun x j hx hj => ⟨by simp only [PS.reset]; omega, by simp only [PS.reset]; rw [hx]; exact h.fault, Nat.zero_le _, Nat.zero_le _, Nat.zero_le _, Nat.zero_le _, Nat.zero_le _, fun x hx => by simp [PS.reset, Rq.none] at hx, Nat.zero_le _, Nat.zero_le _, by simp [PS.reset], fun h => by simp only [PS.reset] at h; omega⟩
        refine this _ _ rfl ?_
        split <;> simp
      · exact ⟨⟨by simp, h.fault, h'.line, h'.m, h'.t, hb, h'.hs, h'.he, h'.trailers, h'.fed, by simp only; omega, fun h => by simp at h⟩, by simp⟩
  · split
    · split
      · exact ⟨h', by simp⟩
      · exact ⟨⟨by simp, h.fault, h'.line, h'.m, h'.t, h'.body, h'.hs, h'.he, h'.trailers, h'.fed, h.need, fun h => by simp at h⟩, by simp⟩
    · split
      · split
        · exact ⟨h', by simp⟩
        · exact ⟨⟨by simp, h.fault, h'.line, h'.m, h'.t, h'.body, h'.hs, h'.he, h'.trailers, h'.fed, h.need, fun h => by simp at h⟩, by simp⟩
      · split
        · exact ok_ended h
        · have hb : (s.line ++ [c]).length ≤ k + 1 := by have := h.line; simp; omega
          split
          · exact ⟨⟨h.st, h.fault, hb, h'.m, h'.t, h'.body, h'.hs, h'.he, h'.trailers, h'.fed, h.need, h.pos⟩, by simp⟩
          · exact ⟨⟨h.st, h.fault, hb, h'.m, h'.t, h'.body, h'.hs, h'.he, h'.trailers, h'.fed, h.need, h.pos⟩, by simp⟩
theorem Bd.fedUp {k : Nat} {s : PS} (h : Bd k s) : Bd (k + 1) { s with fed := s.fed + 1 } := by
  have h' := h.more (Nat.le_succ k)
  exact ⟨h.st, h.fault, h'.line, h'.m, h'.t, h'.body, h'.hs, h'.he, h'.trailers, by have := h.fed; simp only; omega, h.need, h.pos⟩
theorem bd_step {k : Nat} {s : PS} (h : Bd k s) (c : UInt8) : Bd (k + 2) (stepF s c).1 := by
  unfold stepF
  split
  · exact h.more (by omega)
  · have := ok_take h.fedUp c
    simp only
    split
    · exact this.b
    · have hb : Bd (k + 2) { (takeF { s with fed := s.fed + 1 } c).1 with fault := (takeF { s with fed := s.fed + 1 } c).2.2 } := ⟨this.b.st, this.e, this.b.line, this.b.m, this.b.t, this.b.body, this.b.hs, this.b.he, this.b.trailers, this.b.fed, this.b.need, this.b.pos⟩
      exact hb.reset (.inr rfl)
theorem bd_feed {k : Nat} {s : PS} (h : Bd k s) (l : Bs) : Bd (k + 2 * l.length) (feedF s l).1 := by
  induction l generalizing s k with
  | nil => exact h
  | cons c r ih =>
    have := ih (bd_step h c)
    simp only [feedF, List.length_cons]
    exact this.more (by omega)
theorem feed_8 {s : PS} (h : s.st = 8) (l : Bs) : feedF s l = (s, []) := by
  induction l with
  | nil => rfl
  | cons c r ih =>
    have e : stepF s c = (s, []) := by simp [stepF, h]
    simp only [feedF, e, ih, List.append_nil]
/-! how many requests so many bytes are -/
def pot (s : PS) : Nat := if s.st = 0 then min s.line.length 3 else if s.st = 8 then 0 else 3
theorem pot_le (s : PS) : pot s ≤ 3 := by
  unfold pot
  split
  · omega
  · split <;> omega
theorem pot_reset (s : PS) {j : Nat} (hj : j = 0 ∨ j = 8) : pot (s.reset j) = 0 := by
  rcases hj with rfl | rfl <;> simp [pot, PS.reset]
theorem pot_whole (s : PS) : 3 * (wholeF s).2.length + pot (wholeF s).1 = 3 := by
  unfold wholeF
  rw [pot_reset s (by split <;> simp)]; rfl
theorem pot_headersEnd (s : PS) : 3 * (headersEndF s).2.1.length + pot (headersEndF s).1 ≤ 3 := by
  have z := pot_le
  have z0 : ∀ (x : PS) (e : Nat), 3 * ((x, ([] : List Rq), e) : Out).2.1.length + pot ((x, ([] : List Rq), e) : Out).1 ≤ 3 := fun x e => by simpa using z x
  unfold headersEndF
  simp only
  split
  · exact z0 _ _
  · split
    · exact z0 _ _
    · split
      · split
        · exact z0 _ _
        · split
          · exact z0 _ _
          · split
            · exact z0 _ _
            · split
              · exact z0 _ _
              · exact Nat.le_of_eq (pot_whole _)
      · split
        · exact z0 _ _
        · split
          · exact z0 _ _
          · exact Nat.le_of_eq (pot_whole _)
theorem pot_ended (s : PS) (h8 : s.st ≠ 8) : 3 * (endedF s).2.1.length + pot (endedF s).1 ≤ pot s + 1 := by
  have z := pot_le
  have hsl : pot { s with line := [] } ≤ pot s := by unfold pot; simp only; split <;> simp
  have z0 : ∀ (x : PS) (e : Nat), pot x ≤ pot s + 1 → 3 * ((x, ([] : List Rq), e) : Out).2.1.length + pot ((x, ([] : List Rq), e) : Out).1 ≤ pot s + 1 := fun x e h => by simpa using h
  unfold endedF
  simp only
  generalize hL : (if decide (s.line.getLast? = some 13) = true then s.line.take (s.line.length - 1) else s.line) = L
  have hLl : L.length ≤ s.line.length := by
    rw [← hL]; split
    · simp
    · exact Nat.le_refl _
  split
  · exact z0 _ _ (by omega)
  · split
    · exact z0 _ _ (by omega)
    · split
      · rename_i h0
        have hc1 := cut_len L 32
        have hc2 := cut_len (cutF L 32).2.1 32
        have hp0 : pot s = min s.line.length 3 := by unfold pot; rw [if_pos h0]
        refine z0 _ _ ?_
        unfold requestF
        split
        · exact Nat.le_succ_of_le hsl
        · split
          · split
            · exact Nat.le_succ_of_le hsl
            · have : pot { s with line := [], blank := true } = 0 := by unfold pot; simp [h0]
              show pot { s with line := [], blank := true } ≤ _
              omega
          · dsimp only
            split
            · exact Nat.le_succ_of_le hsl
            · split
              · exact Nat.le_succ_of_le hsl
              · rename_i hn
                split
                · exact Nat.le_succ_of_le hsl
                · have hv : (cutF (cutF L 32).2.1 32).2.1 = verW := by
                    by_cases hv : (cutF (cutF L 32).2.1 32).2.1 = verW
                    · exact hv
                    · exact absurd (.inr (.inl hv)) hn
                  have h8 : (cutF (cutF L 32).2.1 32).2.1.length = 8 := by rw [hv]; rfl
                  refine Nat.le_trans (z _) ?_
                  omega
      · rename_i h0
        have hp : pot s = 3 := by unfold pot; rw [if_neg h0, if_neg h8]
        have z3 : ∀ (x : PS) (e : Nat), 3 * ((x, ([] : List Rq), e) : Out).2.1.length + pot ((x, ([] : List Rq), e) : Out).1 ≤ pot s + 1 := fun x e => z0 x e (by have := z x; omega)
        split
        · unfold headerLineF
          split
          · exact z3 _ _
          · split
            · exact z3 _ _
            · split
              · have := pot_headersEnd { s with line := [] }
                omega
              · split
                · exact z3 _ _
                · exact z3 _ _
        · split
          · exact z3 _ _
          · unfold trailerF
            split
            · exact z3 _ _
            · split
              · exact z3 _ _
              · split
                · have := pot_whole { s with line := [] }
                  show 3 * (wholeF { s with line := [] }).2.length + pot (wholeF { s with line := [] }).1 ≤ _
                  omega
                · split
                  · exact z3 _ _
                  · exact z3 _ _
theorem pot_take (s : PS) (c : UInt8) (h8 : s.st ≠ 8) : 3 * (takeF s c).2.1.length + pot (takeF s c).1 ≤ pot s + 1 := by
  have z := pot_le
  have z0 : ∀ (x : PS) (e : Nat), pot x ≤ pot s + 1 → 3 * ((x, ([] : List Rq), e) : Out).2.1.length + pot ((x, ([] : List Rq), e) : Out).1 ≤ pot s + 1 := fun x e h => by simpa using h
  have z3 : ∀ (x : PS) (e : Nat), pot s = 3 → 3 * ((x, ([] : List Rq), e) : Out).2.1.length + pot ((x, ([] : List Rq), e) : Out).1 ≤ pot s + 1 := fun x e h => z0 x e (by have := z x; omega)
  unfold takeF
  split
  · rename_i h
    have hp : pot s = 3 := by unfold pot; rw [if_neg (by omega), if_neg (by omega)]
    dsimp only
    split
    · exact z3 _ _ hp
    · split
      · exact Nat.le_trans (Nat.le_of_eq (pot_whole _)) (by omega)
      · exact z3 _ _ hp
  · split
    · rename_i h
      have hp : pot s = 3 := by unfold pot; rw [if_neg (by omega), if_neg (by omega)]
      split
      · exact z3 _ _ hp
      · exact z3 _ _ hp
    · split
      · rename_i h
        have hp : pot s = 3 := by unfold pot; rw [if_neg (by omega), if_neg (by omega)]
        split
        · exact z3 _ _ hp
        · exact z3 _ _ hp
      · split
        · exact pot_ended s h8
        · have : pot { s with line := s.line ++ [c] } ≤ pot s + 1 := by
            unfold pot
            simp only
            split
            · simp; omega
            · omega
          split
          · exact z0 _ _ this
          · exact z0 _ _ this
theorem pot_step (s : PS) (c : UInt8) : 3 * (stepF s c).2.length + pot (stepF s c).1 ≤ pot s + 1 := by
  unfold stepF
  split
  · simp
  · rename_i h8
    have h : 3 * (takeF { s with fed := s.fed + 1 } c).2.1.length + pot (takeF { s with fed := s.fed + 1 } c).1 ≤ pot s + 1 := pot_take { s with fed := s.fed + 1 } c h8
    dsimp only
    split
    · exact h
    · refine Nat.le_trans (Nat.add_le_add_left (Nat.le_of_eq (pot_reset _ (.inr rfl))) _) ?_
      exact Nat.le_trans (Nat.le_add_right _ _) h
theorem pot_feed (s : PS) (l : Bs) : 3 * (feedF s l).2.length + pot (feedF s l).1 ≤ pot s + l.length := by
  induction l generalizing s with
  | nil => simp [feedF]
  | cons c r ih =>
    have h1 := pot_step s c
    have h2 := ih (stepF s c).1
    simp only [feedF, List.length_append, List.length_cons]
    omega
theorem feed_few (s : PS) (l : Bs) (hs : s.line = []) (h0 : s.st = 0) : 3 * (feedF s l).2.length ≤ l.length := by
  have h := pot_feed s l
  have : pot s = 0 := by simp [pot, h0, hs]
  omega
end Go.Proofs.Ht
