/- Part of a proof (Z24 Z25 Z26 Z27 Z28 Z29 S27 Z30 L1); no condition. -/
import Derived.WalkKit
import Derived.Below
import Derived.ChangeSame
import Derived.ReadAgain
import Derived.OpenShut
import Derived.ProofKit
import Derived.Test.YtbighbbpahngiaaP15
import Derived.Test.YtbighbbpahngiaaP16
set_option linter.unusedSimpArgs false
set_option linter.unusedVariables false
set_option linter.unnecessarySimpa false
namespace Go.Proofs.Zt
open Go.Abs Go.Abs.S
set_option linter.unusedSimpArgs false
theorem tokFl_len (t : Tok) : (tokFl t).length ≤ 4 := by
  unfold tokFl lenFl disFl
  split
  · simp
  · split <;> simp
theorem tokFls_len (l : List Tok) : (l.flatMap tokFl).length ≤ 4 * l.length := by
  induction l with
  | nil => simp
  | cons t r ih =>
    have := tokFl_len t
    simp only [List.flatMap_cons, List.length_append, List.length_cons]; omega
theorem toksF_end {b : Bs} {to f i : Nat} (h : ¬ i < to) : toksF b to f i = [] := by
  cases f with
  | zero => rfl
  | succ f => simp only [toksF, if_neg h]
def restB : List Nat := [1, 1, 1, 1, 1]
theorem block_pre {n0 : Nat} {τ : Nat → Nat} {H : AHeap} {ow mb : Nat} {out kept : AVal} {b : Bs} (P : PW n0 τ H ow mb out kept b 0) (h6 : ∀ c, c < n0 → τ c ≠ 6) (hb : b.length ≤ 600) (Q : AVal → AHeap → Prop)
    (hrest : ∀ (T2 : Env) (H2 : AHeap) (τ2 : Nat → Nat) (K q : Nat), T2 0 = cellR ow 9 0 → T2 1 = .int .i64 (b.length : Int) → T2 6 = cellR q 2 0 → PW n0 τ2 H2 ow mb out kept b K → FM τ2 H2 (T2 7) ([(1, 1), (1, 2)] ++ (toks b 0 b.length).flatMap tokFl) → Row H2 q (fldC (1, 1)) → τ2 q = 0 → n0 ≤ q → q < H2.next → (∀ c, c < n0 → τ2 c ≠ 6) → (∀ c, c < H.next → τ2 c = τ c ∧ (c ≠ mb → c ≠ ow → τ c < 100 → τ c ≠ 6 → H2.get c = H.get c)) → H.next ≤ H2.next → wp (ACalls Try.prog natZ) (hold (restP restB c28.body)) (fin c28.res Q) T2 H2) :
    ACalls Try.prog natZ 28 [cellR ow 9 0, .int .i64 (b.length : Int), .bool true] H Q := by
  refine acalls_ofN rfl za28 rfl ?_
  refine wp_cutP restB ?_
  have o1 := P.own
  have o3 := P.n0n
  obtain ⟨H1, m1, r1, k1, q1⟩ := row_newL H [.int .u32 0, .int .i64 0] (n := 2) rfl
  obtain ⟨H2, m2, r2, k2', q2⟩ := row_storeN r1 (n := 2) rfl (xs := [.int .u32 0, .int .i64 1]) rfl rfl
  obtain ⟨H3, m3, r3, k3', q3⟩ := row_st r2 (n := 2) rfl (i := 0) (by omega) (x := .int .u32 1) rfl rfl
  have r3' : Row H3 H.next (fldC (1, 1)) := r3
  have b0 : aBuild [.int .u32 0, .int .i64 0] [(0, 1, .int .u32 0), (1, 1, .int .i64 1)] = some (.agg [.int .u32 0, .int .i64 1]) := rfl
  have b1 : aBuild [.int .u32 0, .int .i64 0] [(0, 1, .int .u32 1), (1, 1, .int .i64 2)] = some (fldV (1, 2)) := rfl
  have E3 : Ext H.next H H3 := ⟨by omega, fun c hc => by rw [q3 c (by omega), q2 c (by omega), q1 c (by omega)]⟩
  have P3 := P.ext E3
  have ld : oLoad true 2 H3 (cellR H.next 2 0) = some (fldV (1, 1)) := row_loadN r3' (n := 2) rfl
  simp only [c28, restB] at hrest
  simp only [c28, restB, sC, sA, Int.reduceNegSucc, reduceCtorEq, Nat.reduceEqDiff, ↓reduceIte, Nat.reduceAdd, Int.reduceEq, Int.reduceLT, Int.reduceLE, b0, m1, m2, fldA, fld0, m3]
  refine (prune_spec P3.row).mono ?_
  rintro w _ rfl
  have e5 : Ext H3.next H3 (H3.push (.cells (flds [(1, 1), (1, 2)]) 0 false)) := (Ext.refl _ _).push (Nat.le_refl _) _
  have P4 := P3.mark h6 e5.next fun c hc _ => e5.old c hc
  have F4 : FM (upT τ H3 (H3.push (.cells (flds [(1, 1), (1, 2)]) 0 false)) 6) (H3.push (.cells (flds [(1, 1), (1, 2)]) 0 false)) (.slice (some ⟨H3.next, 4, 0⟩) 2 (.known 2)) [(1, 1), (1, 2)] := ⟨LinM.built (m := 2) (k := 2) H3 (xs := flds [(1, 1), (1, 2)]) rfl, blk_some (upT_new (Nat.le_refl _) (by rw [push_next]; exact Nat.lt_succ_self _))⟩
  have l5 : oLoad false 1 (H3.push (.cells (flds [(1, 1), (1, 2)]) 0 false)) (cellR ow 9 5) = some (.int .i64 0) := row_load P4.row rfl rfl
  simp only [sA, Int.reduceNegSucc, reduceCtorEq, Nat.reduceEqDiff, ↓reduceIte, Nat.reduceAdd, Int.reduceEq, Int.reduceLT, Int.reduceLE, ld, b1, buildF2, nil_cell, fldA, fld0, l5]
  obtain ⟨Hs, hHs⟩ : ∃ G, G = H3.push (.cells (flds [(1, 1), (1, 2)]) 0 false) := ⟨_, rfl⟩
  have ks : Hs.next = H3.next + 1 := by rw [hHs]; rfl
  obtain ⟨τs, hτs⟩ : ∃ t, t = upT τ H3 Hs 6 := ⟨_, rfl⟩
  rw [← hHs] at e5 P4 F4 l5 ⊢
  rw [← hτs] at P4 F4
  have hs6 : ∀ c, c < n0 → τs c ≠ 6 := fun c hc => by rw [hτs, upT_old (by omega)]; exact h6 c hc
  have fs0 : ∀ c, c < H3.next → τs c = τ c := fun c hc => by rw [hτs, upT_old hc]
  have tz0 := P.tz H.next (Nat.le_refl _)
  refine aw_loop (fun q (T : Env) H' => ∃ (i K : Nat) (τ' : Nat → Nat) (acc : List Tok), K ≤ i ∧ i ≤ b.length ∧ b.length - i ≤ q ∧ acc ++ toksF b b.length q i = toks b 0 b.length ∧ acc.length + q ≤ b.length ∧ T 0 = cellR ow 9 0 ∧ T 1 = .int .i64 (b.length : Int) ∧ T 6 = cellR H.next 2 0 ∧ T 8 = .int .i64 (i : Int) ∧ PW n0 τ' H' ow mb out kept b K ∧ FM τ' H' (T 7) ([(1, 1), (1, 2)] ++ acc.flatMap tokFl) ∧ Row H' H.next (fldC (1, 1)) ∧ τ' H.next = 0 ∧ H.next < H'.next ∧ (∀ c, c < n0 → τ' c ≠ 6) ∧ (∀ c, c < H.next → τ' c = τ c ∧ (c ≠ mb → c ≠ ow → τ c < 100 → τ c ≠ 6 → H'.get c = H.get c))) b.length
    ⟨0, 0, τs, [], Nat.le_refl _, Nat.zero_le _, Nat.le_refl _, rfl, by simp, by simp only [sA, Int.reduceNegSucc, reduceCtorEq, Nat.reduceEqDiff, ↓reduceIte, Nat.reduceAdd, Int.reduceEq, Int.reduceLT, Int.reduceLE]; try rfl, by simp only [sA, Int.reduceNegSucc, reduceCtorEq, Nat.reduceEqDiff, ↓reduceIte, Nat.reduceAdd, Int.reduceEq, Int.reduceLT, Int.reduceLE]; try rfl, by simp only [sA, Int.reduceNegSucc, reduceCtorEq, Nat.reduceEqDiff, ↓reduceIte, Nat.reduceAdd, Int.reduceEq, Int.reduceLT, Int.reduceLE]; try rfl, by simp only [sA, Int.reduceNegSucc, reduceCtorEq, Nat.reduceEqDiff, ↓reduceIte, Nat.reduceAdd, Int.reduceEq, Int.reduceLT, Int.reduceLE]; try rfl, P4, by simp only [sA, Int.reduceNegSucc, reduceCtorEq, Nat.reduceEqDiff, ↓reduceIte, Nat.reduceAdd, Int.reduceEq, Int.reduceLT, Int.reduceLE]; exact F4, r3'.same (e5.old _ (by omega)), by rw [fs0 _ (by omega)]; exact tz0, by omega, hs6, fun c hc => ⟨fs0 c (by omega), fun _ _ _ _ => by rw [e5.old c (by omega)]; exact E3.old c hc⟩⟩ ?_
  rintro q T H' ⟨i, K, τ', acc, hKi, hib, hq, htk, hal, g0, g1, g6, g8, P', F', R', tq, hn', h6', fr⟩
  by_cases hlt : i < b.length
  · have hlt' : (i : Int) < (b.length : Int) := by omega
    obtain ⟨q, rfl⟩ : ∃ n, q = n + 1 := ⟨q - 1, by omega⟩
    have hfl := tokFls_len acc
    simp only [sA, Int.reduceNegSucc, reduceCtorEq, Nat.reduceEqDiff, ↓reduceIte, Nat.reduceAdd, Int.reduceEq, Int.reduceLT, Int.reduceLE, g0, g1, g6, g8, hlt']
    refine (block_step P' F' h6' hKi hlt hb).mono ?_
    rintro _ H4 ⟨rfl, τ4, K4, hK4, P4, F4, h64, fm⟩
    have n4 := fm.1
    have o4 := P4.mbn
    have fr4 : ∀ c, c < H.next → τ4 c = τ c ∧ (c ≠ mb → c ≠ ow → τ c < 100 → τ c ≠ 6 → H4.get c = H.get c) := fun c hc => by
      obtain ⟨e1, e2⟩ := fr c hc
      obtain ⟨e3, e4⟩ := fm.2 c (by omega)
      exact ⟨e3.trans e1, fun a1 a2 a3 a4 => (e4 a1 a2 (by rw [e1]; exact a3)).trans (e2 a1 a2 a3 a4)⟩
    have R4 : Row H4 H.next (fldC (1, 1)) := R'.same ((fm.2 _ hn').2 (by omega) (by omega) (by rw [tq]; omega))
    have tq4 : τ4 H.next = 0 := (fm.2 _ hn').1.trans tq
    rcases tok_at (b := b) (to := b.length) (f := q) hlt (Nat.le_refl _) with ⟨h3, et⟩ | ⟨h3, et⟩
    · obtain ⟨x1, x2, x3, x4⟩ := matchG_ok hlt hb h3
      generalize matchG b i b.length = mg at *
      have h3' : (3 : Int) ≤ (mg.1 : Int) := by omega
      simp only [sA, Int.reduceNegSucc, reduceCtorEq, Nat.reduceEqDiff, ↓reduceIte, Nat.reduceAdd, Int.reduceEq, Int.reduceLT, Int.reduceLE, g0, g1, g6, g8, ext_0, ext_1, h3']
      refine (matched_spec mg.1 mg.2 F4.1 (by simp only [List.length_append, List.length_cons, List.length_nil]; omega) h3 x1 x2 x3).mono ?_
      rintro w H5 ⟨k5, s5⟩
      obtain ⟨F5, e5⟩ := F4.stp k5 s5
      have P5 := P4.mark h64 s5.1 e5
      have n5 := s5.1
      have ef : [(1, 1), (1, 2)] ++ List.flatMap tokFl acc ++ (lenFl mg.1 ++ disFl mg.2) = [(1, 1), (1, 2)] ++ (acc ++ [(⟨mg.1, mg.2, 0⟩ : Tok)]).flatMap tokFl := by
        simp only [List.flatMap_append, List.flatMap_cons, List.flatMap_nil, List.append_nil, List.append_assoc, tokFl]
        rw [if_neg (by omega)]
      rw [ef] at F5; simp only [List.cons_append, List.nil_append] at F5
      simp only [sA, Int.reduceNegSucc, reduceCtorEq, Nat.reduceEqDiff, ↓reduceIte, Nat.reduceAdd, Int.reduceEq, Int.reduceLT, Int.reduceLE, g0, g1, g6, g8, wrapN i mg.1 (by omega)]
      exact ⟨q, Nat.lt_succ_self _, i + mg.1, K4, _, acc ++ [⟨mg.1, mg.2, 0⟩], by omega, by omega, by omega, by rw [← htk, et]; simp, by simp; omega, (by first | with_reducible rfl | trivial | rfl | assumption), (by first | with_reducible rfl | trivial | rfl | assumption), (by first | with_reducible rfl | trivial | rfl | assumption), (by first | with_reducible rfl | trivial | rfl | assumption), P5, F5, R4.same (e5 _ (by omega) (by rw [tq4]; omega)), by rw [upT_old (by omega)]; exact tq4, by omega, fun c hc => by rw [upT_old (by omega)]; exact h64 c hc, fun c hc => ⟨by rw [upT_old (by omega)]; exact (fr4 c hc).1, fun a1 a2 a3 a4 => by rw [e5 c (by omega) (by rw [(fr4 c hc).1]; exact a4)]; exact (fr4 c hc).2 a1 a2 a3 a4⟩⟩
    · generalize matchG b i b.length = mg at *
      have h3' : ¬ (3 : Int) ≤ (mg.1 : Int) := by omega
      have l3 : oLoad false 1 H4 (cellR ow 9 3) = some kept := row_load P4.row rfl rfl
      have l4 : oLoad false 1 H4 (cellR ow 9 4) = some (.int .i64 0) := row_load P4.row rfl rfl
      have e0 : (i : Int) - 0 = (i : Int) := by omega
      have wi : IntKind.i64.wrap (i : Int) = (i : Int) := wrap64 (by omega) (by omega)
      obtain ⟨c, hc⟩ : ∃ c, b[i]? = some c := ⟨_, List.getElem?_eq_getElem hlt⟩
      have ck : Cel H4.next H4 kept (byts b) := P4.kp.cel1 P4.kp.blk'
      have ix := ck.idx .i64 (i := i) (by rw [byts_len]; exact hlt)
      have lx := ck.load (byts_get hc)
      have cv := c.toNat_lt
      have egd : b.getD i 0 = c := by rw [List.getD_eq_getElem?_getD, hc]; rfl
      have wc : IntKind.i64.wrap (c.toNat : Int) = (c.toNat : Int) := wrap64 (by omega) (by omega)
      simp only [sA, Int.reduceNegSucc, reduceCtorEq, Nat.reduceEqDiff, ↓reduceIte, Nat.reduceAdd, Int.reduceEq, Int.reduceLT, Int.reduceLE, g0, g1, g6, g8, ext_0, ext_1, h3', nil_cell, fldA, fld0, l3, l4, e0, wi, ix, lx, conv_in, wc]
      refine (symbol_spec H4 c.toNat (by omega)).mono ?_
      rintro _ H5 ⟨rfl, E5⟩
      have P5 := P4.ext E5
      have F5 : FM τ4 H5 (T 7) _ := ⟨F4.1.ext E5, F4.2⟩
      have n5 := E5.next
      obtain ⟨w, H6, m6, k6, s6⟩ := FL.add F5.1 [symF c.toNat] (by simp only [List.length_append, List.length_cons, List.length_nil]; omega)
      obtain ⟨F6, e6⟩ := F5.stp k6 s6
      have P6 := P5.mark h64 s6.1 e6
      have n6 := s6.1
      have m6' : aAppend 2 16 (H5.push (.cells (fldC (symF c.toNat)) 0 false)) (T 7) (.slice (some ⟨H5.next, 2, 0⟩) 1 (.known 1)) = some (w, H6) := by simpa [flds] using m6
      have ef : [(1, 1), (1, 2)] ++ List.flatMap tokFl acc ++ [symF c.toNat] = [(1, 1), (1, 2)] ++ (acc ++ [(⟨0, 0, b.getD i 0⟩ : Tok)]).flatMap tokFl := by
        simp only [List.flatMap_append, List.flatMap_cons, List.flatMap_nil, List.append_nil, List.append_assoc, tokFl, if_true, egd]
      rw [ef] at F6; simp only [List.cons_append, List.nil_append] at F6
      simp only [sA, Int.reduceNegSucc, reduceCtorEq, Nat.reduceEqDiff, ↓reduceIte, Nat.reduceAdd, Int.reduceEq, Int.reduceLT, Int.reduceLE, g0, g1, g6, g8, buildF1, m6', wrap1 i (by omega)]
      exact ⟨q, Nat.lt_succ_self _, i + 1, K4, _, acc ++ [⟨0, 0, b.getD i 0⟩], by omega, by omega, by omega, by rw [← htk, et]; simp, by simp; omega, (by first | with_reducible rfl | trivial | rfl | assumption), (by first | with_reducible rfl | trivial | rfl | assumption), (by first | with_reducible rfl | trivial | rfl | assumption), (by first | with_reducible rfl | trivial | rfl | assumption), P6, F6, R4.same (by rw [e6 _ (by omega) (by rw [tq4]; omega)]; exact E5.old _ (by omega)), by rw [upT_old (by omega)]; exact tq4, by omega, fun c hc => by rw [upT_old (by omega)]; exact h64 c hc, fun c hc => ⟨by rw [upT_old (by omega)]; exact (fr4 c hc).1, fun a1 a2 a3 a4 => by rw [e6 c (by omega) (by rw [(fr4 c hc).1]; exact a4), E5.old c (by omega)]; exact (fr4 c hc).2 a1 a2 a3 a4⟩⟩
  · have hlt' : ¬ (i : Int) < (b.length : Int) := by omega
    simp only [sA, Int.reduceNegSucc, reduceCtorEq, Nat.reduceEqDiff, ↓reduceIte, Nat.reduceAdd, Int.reduceEq, Int.reduceLT, Int.reduceLE, g0, g1, g6, g8, hlt']
    rw [toksF_end hlt, List.append_nil] at htk
    subst htk
    exact hrest _ _ τ' K H.next (by simp only [sA, Int.reduceNegSucc, reduceCtorEq, Nat.reduceEqDiff, ↓reduceIte, Nat.reduceAdd, Int.reduceEq, Int.reduceLT, Int.reduceLE, g0]) (by simp only [sA, Int.reduceNegSucc, reduceCtorEq, Nat.reduceEqDiff, ↓reduceIte, Nat.reduceAdd, Int.reduceEq, Int.reduceLT, Int.reduceLE, g1]) (by simp only [sA, Int.reduceNegSucc, reduceCtorEq, Nat.reduceEqDiff, ↓reduceIte, Nat.reduceAdd, Int.reduceEq, Int.reduceLT, Int.reduceLE, g6]) P' (by simp only [sA, Int.reduceNegSucc, reduceCtorEq, Nat.reduceEqDiff, ↓reduceIte, Nat.reduceAdd, Int.reduceEq, Int.reduceLT, Int.reduceLE]; exact F') R' tq o3 hn' h6' fr (by omega)
end Go.Proofs.Zt
namespace Go.Proofs.Zt
open Go.Abs Go.Abs.S
set_option linter.unusedSimpArgs false
theorem flds_at {fs : List (Nat × Nat)} {i : Nat} {f : Nat × Nat} (h : fs[i]? = some f) : ((flds fs).drop (i * 2)).take 2 = fldC f := by
  induction fs generalizing i with
  | nil => simp at h
  | cons g r ih =>
    cases i with
    | zero => simp at h; subst h; simp [flds, fldC]
    | succ i =>
      have := ih (by simpa using h)
      have e : (i + 1) * 2 = i * 2 + 2 := by omega
      rw [e]
      simpa [flds, fldC] using this
theorem FL.at {H : AHeap} {v : AVal} {fs : List (Nat × Nat)} (h : FL H v fs) {i : Nat} {f : Nat × Nat} (hf : fs[i]? = some f) : ∃ a, aIdxA 2 v (.int .i64 (i : Int)) = some a ∧ oLoad true 2 H a = some (.agg (fldC f)) := by
  obtain ⟨b, lim, h1, h2, _⟩ := LinM.at h (i := i) (List.getElem?_eq_some_iff.1 hf).1
  exact ⟨_, h1, by rw [h2, flds_at hf]⟩
theorem fldOk_lt {f : Nat × Nat} (h : fldOk f = true) : f.1 < 2 ^ f.2 ∧ f.2 ≤ 16 := by
  simp only [fldOk, Bool.and_eq_true, Nat.blt_eq, Nat.ble_eq] at h
  exact ⟨of_decide_eq_true (by simpa [Nat.blt] using h.1), h.2⟩
theorem fldBits_snoc (fs : List (Nat × Nat)) (f : Nat × Nat) : fldBits (fs ++ [f]) = fldBits fs ++ bitsN f.1 f.2 := by simp [fldBits]
theorem wideF_le {fs : List (Nat × Nat)} (h : ∀ f ∈ fs, fldOk f = true) : wideF fs ≤ 16 * fs.length := by
  induction fs with
  | nil => simp [wideF]
  | cons f r ih =>
    have h1 := (fldOk_lt (h f (by simp))).2
    have h2 := ih fun g hg => h g (by simp [hg])
    simp only [wideF, List.map_cons, List.sum_cons, List.length_cons] at h2 ⊢; omega
structure BR (τ : Nat → Nat) (H : AHeap) (ow o K q : Nat) (mv kept : AVal) (b : Bs) : Prop where
  row : Row H ow (dC (cellR o 3 0) kept K mv)
  tow : τ ow = 1
  own : ow < H.next
  kp : AppN 1 0 H kept (byts b) b.length
  kb : Blk kept (τ · = 5)
  fst : Row H q (fldC (1, 1))
  tq : τ q = 0
  qn : q < H.next
theorem BR.fr {S : Nat → Prop} {τ τ' : Nat → Nat} {H H' : AHeap} {ow o K q : Nat} {mv kept : AVal} {b : Bs} (B : BR τ H ow o K q mv kept b) (f : FrS S τ H τ' H') (h0 : ¬ S 0) (h1 : ¬ S 1) (h5 : ¬ S 5) : BR τ' H' ow o K q mv kept b :=
  have hk : Blk kept fun c => c < H.next ∧ τ c = 5 := B.kp.blk'.and B.kb
  ⟨B.row.same ((f.2 _ B.own).2 (by rw [B.tow]; exact h1)), (f.2 _ B.own).1.trans B.tow, Nat.lt_of_lt_of_le B.own f.1, B.kp.same f.1 (hk.mono fun c hc => (f.2 c hc.1).2 (by rw [hc.2]; exact h5)), hk.mono fun c hc => (f.2 c hc.1).1.trans hc.2, B.fst.same ((f.2 _ B.qn).2 (by rw [B.tq]; exact h0)), (f.2 _ B.qn).1.trans B.tq, Nat.lt_of_lt_of_le B.qn f.1⟩
theorem FM.fr {S : Nat → Prop} {τ τ' : Nat → Nat} {H H' : AHeap} {v : AVal} {fs : List (Nat × Nat)} (h : FM τ H v fs) (f : FrS S τ H τ' H') (h6 : ¬ S 6) : FM τ' H' v fs :=
  have hb : Blk v fun c => c < H.next ∧ τ c = 6 := (LinM.blk h.1).and h.2
  ⟨LinM.same h.1 f.1 (hb.mono fun c hc => (f.2 c hc.1).2 (by rw [hc.2]; exact h6)), hb.mono fun c hc => (f.2 c hc.1).1.trans hc.2⟩
theorem OW.ext' {τ : Nat → Nat} {H H' : AHeap} {o : Nat} {M : List Bool} {pl : Nat} (h : OW H.next τ H o M pl) (e : Ext H.next H H') : OW H'.next τ H' o M pl := (OW.ext h e.next fun c hc => e.old c hc).more e.next (Nat.le_refl _)
theorem OW.tz {n : Nat} {τ : Nat → Nat} {H : AHeap} {o : Nat} {M : List Bool} {pl : Nat} (h : OW n τ H o M pl) : ∀ c, n ≤ c → τ c = 0 := by
  obtain ⟨vb, h1, h2, h3, h4, h5, h6, h7, h8⟩ := h
  exact h5
def restC : List Nat := [1, 1, 1, 1, 1, 1, 1, 1, 1, 1]
def dE (out kept : AVal) (n noted : Nat) (mv : AVal) : List AVal := [.bool true, .bool false, out, kept, .int .i64 0, .int .i64 (n : Int), .int .i64 (noted : Int), mv, .int .i64 0]
theorem put_loop {τ : Nat → Nat} {H : AHeap} {T : Env} {Q : AVal → AHeap → Prop} {ow o K q : Nat} {mv kept : AVal} {b : Bs} {fs : List (Nat × Nat)} {M : List Bool} {pl : Nat} (g0 : T 0 = cellR ow 9 0) (g1 : T 1 = .int .i64 (b.length : Int)) (B : BR τ H ow o K q mv kept b) (W : OW H.next τ H o M pl) (F : FM τ H (T 7) fs)
    (hf : ∀ f ∈ fs, fldOk f = true) (hl : fs.length ≤ 10000) (hpl : pl ≤ 1000000) (hM : M.length ≤ 1000000) (hb : b.length ≤ 600)
    (hQ : ∀ w H2 τ2, OW H2.next τ2 H2 o (M ++ fldBits fs) (pl + wideF fs) → Row H2 ow (dE (cellR o 3 0) kept b.length K mv) → τ2 ow = 1 → ow < H2.next → FrS (fun k => k ≠ 0) τ H τ2 H2 → Q w H2) :
    wp (ACalls Try.prog natZ) (hold (restP restC c28.body)) (fin c28.res Q) T H := by
  have hlen : aLenK false (T 7) = some (.int .i64 (fs.length : Int)) := LinM.len F.1
  obtain ⟨fv, hfv⟩ : ∃ fv, fv = T 7 := ⟨_, rfl⟩
  rw [← hfv] at hlen F
  simp only [c28, restP, restC, hold_eq, sA, Int.reduceNegSucc, reduceCtorEq, Nat.reduceEqDiff, ↓reduceIte, Nat.reduceAdd, Int.reduceEq, Int.reduceLT, Int.reduceLE, g0, g1, ← hfv, hlen]
  refine aw_loop (fun m (T : Env) H' => ∃ (i : Nat) (τ' : Nat → Nat), i ≤ fs.length ∧ m = fs.length - i ∧ T 0 = cellR ow 9 0 ∧ T 1 = .int .i64 (b.length : Int) ∧ T 174 = fv ∧ T 175 = .int .i64 (fs.length : Int) ∧ T 176 = .int .i64 (i : Int) ∧ BR τ' H' ow o K q mv kept b ∧ FM τ' H' fv fs ∧ OW H'.next τ' H' o (M ++ fldBits (fs.take i)) (pl + wideF (fs.take i)) ∧ FrS (fun k => k ≠ 0) τ H τ' H') fs.length
    ⟨0, τ, Nat.zero_le _, rfl, by simp only [sA, Int.reduceNegSucc, reduceCtorEq, Nat.reduceEqDiff, ↓reduceIte, Nat.reduceAdd, Int.reduceEq, Int.reduceLT, Int.reduceLE, g0], by simp only [sA, Int.reduceNegSucc, reduceCtorEq, Nat.reduceEqDiff, ↓reduceIte, Nat.reduceAdd, Int.reduceEq, Int.reduceLT, Int.reduceLE, g1], by simp only [sA, Int.reduceNegSucc, reduceCtorEq, Nat.reduceEqDiff, ↓reduceIte, Nat.reduceAdd, Int.reduceEq, Int.reduceLT, Int.reduceLE], by simp only [sA, Int.reduceNegSucc, reduceCtorEq, Nat.reduceEqDiff, ↓reduceIte, Nat.reduceAdd, Int.reduceEq, Int.reduceLT, Int.reduceLE]; try rfl, by simp only [sA, Int.reduceNegSucc, reduceCtorEq, Nat.reduceEqDiff, ↓reduceIte, Nat.reduceAdd, Int.reduceEq, Int.reduceLT, Int.reduceLE]; try rfl, B, F, by simpa [fldBits, wideF] using W, FrS.refl _ _ _⟩ ?_
  rintro m T H' ⟨i, τ', hi, rfl, k0, k1, k74, k75, k76, B', F', W', fr⟩
  have hwl : wideF (fs.take i) ≤ 16 * fs.length := by
    have := wideF_le (fs := fs.take i) fun f hf' => hf f (List.mem_of_mem_take hf')
    rw [List.length_take] at this; omega
  have hbl : (fldBits (fs.take i)).length ≤ 160000 := by rw [← wideF_bits]; omega
  by_cases hlt : i < fs.length
  · have hlt' : (i : Int) < (fs.length : Int) := by omega
    obtain ⟨f, hfi⟩ : ∃ f, fs[i]? = some f := ⟨_, List.getElem?_eq_getElem hlt⟩
    obtain ⟨a, ma, la⟩ := FL.at F'.1 hfi
    obtain ⟨hf1, hf2⟩ := fldOk_lt (hf f (List.mem_of_getElem? hfi))
    obtain ⟨H1, m1, r1, k1', q1⟩ := row_newL H' [.int .u32 0, .int .i64 0] (n := 2) rfl
    obtain ⟨H2, m2, r2, k2', q2⟩ := row_storeN r1 (n := 2) rfl (xs := fldC f) rfl rfl
    have E : Ext H'.next H' H2 := ⟨by omega, fun c hc => by rw [q2 c (by omega), q1 c (by omega)]⟩
    have B2 := B'.fr (FrS.of_ext (S := fun _ => False) E) (by simp) (by simp) (by simp)
    have F2 := F'.fr (FrS.of_ext (S := fun _ => False) E) (by simp)
    have W2 := W'.ext' E
    have l2 : oLoad false 1 H2 (cellR ow 9 2) = some (cellR o 3 0) := row_load B2.row rfl rfl
    have lf0 : oLoad false 1 H2 (cellR H'.next 2 0) = some (.int .u32 (f.1 : Int)) := row_load r2 rfl rfl
    have lf1 : oLoad false 1 H2 (cellR H'.next 2 1) = some (.int .i64 (f.2 : Int)) := row_load r2 rfl rfl
    simp only [sA, Int.reduceNegSucc, reduceCtorEq, Nat.reduceEqDiff, ↓reduceIte, Nat.reduceAdd, Int.reduceEq, Int.reduceLT, Int.reduceLE, k0, k1, k74, k75, k76, hlt', ma, la, m1, m2, nil_cell, fldA, fld0, l2, lf0, lf1]
    refine (put_spec W2 f.1 f.2 (by omega) hf1 (by omega) (by rw [List.length_append]; omega)).mono ?_
    rintro _ H3 ⟨rfl, τ3, W3, fr3⟩
    have ns : ∀ k, k2 k → k ≠ 0 := fun k hk => by rcases hk with rfl | rfl <;> omega
    have n1 : ¬ k2 1 := by unfold k2; omega
    have n5 : ¬ k2 5 := by unfold k2; omega
    have n6 : ¬ k2 6 := by unfold k2; omega
    have n0 : ¬ k2 0 := by unfold k2; omega
    simp only [sA, Int.reduceNegSucc, reduceCtorEq, Nat.reduceEqDiff, ↓reduceIte, Nat.reduceAdd, Int.reduceEq, Int.reduceLT, Int.reduceLE, k0, k1, k74, k75, k76, wrap1 i (by omega)]
    refine ⟨_, by omega, i + 1, τ3, by omega, rfl, (by first | with_reducible rfl | trivial | rfl | assumption), (by first | with_reducible rfl | trivial | rfl | assumption), (by first | with_reducible rfl | trivial | rfl | assumption), (by first | with_reducible rfl | trivial | rfl | assumption), (by first | with_reducible rfl | trivial | rfl | assumption), B2.fr fr3 n0 n1 n5, F2.fr fr3 n6, ?_, fr.trans ((FrS.of_ext E).trans (fr3.wide ns))⟩
    rw [take_snoc hfi, fldBits_snoc, wideF_bits, fldBits_snoc, ← List.append_assoc, List.length_append, bitsN_len, ← wideF_bits, ← Nat.add_assoc]
    exact W3
  · have hlt' : ¬ (i : Int) < (fs.length : Int) := by omega
    obtain rfl : i = fs.length := by omega
    rw [List.take_length] at W'
    obtain ⟨H3, m3, r3, k3, q3⟩ := row_st B'.row (n := 9) rfl (i := 5) (by omega) (x := .int .i64 (b.length : Int)) rfl (l' := dE (cellR o 3 0) kept b.length K mv) rfl
    simp only [sA, Int.reduceNegSucc, reduceCtorEq, Nat.reduceEqDiff, ↓reduceIte, Nat.reduceAdd, Int.reduceEq, Int.reduceLT, Int.reduceLE, k0, k1, k74, k75, k76, hlt', nil_cell, fldA, fld0, m3]
    have hB := B'.own
    have fz : FrS (fun k => k = 1) τ' H' τ' H3 := ⟨by omega, fun c hc => ⟨rfl, fun h => q3 c (by rintro rfl; exact h B'.tow)⟩⟩
    have W3 : OW H3.next τ' H3 o (M ++ fldBits fs) (pl + wideF fs) := by
      rw [k3]
      exact W'.fr (Nat.le_refl _) (by omega) (by omega) W'.tz (fun _ _ _ => rfl) fun c hc hk => q3 c (by rintro rfl; rw [B'.tow] at hk; unfold k2 at hk; omega)
    simp only [fin, wRes, OptP_some]
    exact hQ _ _ τ' W3 r3 B'.tow (by omega) (fr.trans (fz.wide fun k hk => by omega))
end Go.Proofs.Zt
namespace Go.Proofs.Zt
open Go.Abs Go.Abs.S
set_option linter.unusedSimpArgs false
theorem xor_16 {a : Nat} (h : a < 65536) : a ^^^ 65535 = 65535 - a := by
  apply Nat.eq_of_testBit_eq
  intro i
  rw [Nat.testBit_xor, show (65535 : Nat) = 2 ^ 16 - 1 from rfl, Nat.testBit_two_pow_sub_one, show 2 ^ 16 - 1 - a = 2 ^ 16 - (a + 1) by omega, Nat.testBit_two_pow_sub_succ (by omega)]
  by_cases hi : i < 16
  · simp [hi]
  · have : a.testBit i = false := Nat.testBit_lt_two_pow (Nat.lt_of_lt_of_le h (by have := Nat.pow_le_pow_right (n := 2) (by omega) (show 16 ≤ i by omega); omega))
    simp [hi, this]
theorem OW.frS {S : Nat → Prop} {τ τ' : Nat → Nat} {H H' : AHeap} {o : Nat} {M : List Bool} {pl : Nat} (h : OW H.next τ H o M pl) (f : FrS S τ H τ' H') (h2 : ¬ S 2) (h4 : ¬ S 4) (tz : ∀ c, H'.next ≤ c → τ' c = 0) : OW H'.next τ' H' o M pl :=
  h.fr f.1 (Nat.le_refl _) f.1 tz (fun c hc _ => (f.2 c hc).1) fun c hc hk => (f.2 c hc).2 (by rcases hk with e | e <;> rw [e] <;> assumption)
theorem FM.stpS {τ : Nat → Nat} {H H' : AHeap} {v w : AVal} {fs gs : List (Nat × Nat)} (h : FM τ H v fs) (k : FL H' w gs) (s : Stp v H w H') : FM (upT τ H H' 6) H' w gs ∧ FrS (· = 6) τ H (upT τ H H' 6) H' := by
  obtain ⟨a, e⟩ := h.stp k s
  exact ⟨a, s.1, fun c hc => ⟨upT_old hc, fun h6 => e c hc h6⟩⟩
theorem fldV_one (x : Nat) : aBuild [.int .u32 0, .int .i64 0] [(0, 1, .int .u32 (x : Int)), (1, 1, .int .i64 8)] = some (fldV (x, 8)) := rfl
def byFl (b : Bs) : List (Nat × Nat) := b.map fun x => (x.toNat, 8)
theorem byFl_bits (b : Bs) : fldBits (byFl b) = b.flatMap fun x => bitsN x.toNat 8 := by simp [fldBits, byFl, List.flatMap_map]
theorem byFl_ok (b : Bs) : ∀ f ∈ byFl b, fldOk f = true := by
  intro f hf
  simp only [byFl, List.mem_map] at hf
  obtain ⟨x, _, rfl⟩ := hf
  have := x.toNat_lt
  simp only [fldOk, Bool.and_eq_true, Nat.blt_eq, Nat.ble_eq]
  exact ⟨by simpa using this, by omega⟩
def restD : List Nat := [1, 1, 1, 1, 1, 1, 1, 1, 1, 0, 1, 1, 4]
theorem stored_branch {τ : Nat → Nat} {H : AHeap} {T : Env} {Q' : Post} {ow o K q : Nat} {mv kept : AVal} {b : Bs} {fs : List (Nat × Nat)} (g0 : T 0 = cellR ow 9 0) (g1 : T 1 = .int .i64 (b.length : Int)) (g6 : T 6 = cellR q 2 0) (g15 : T 15 = .int .i64 (b.length : Int)) (B : BR τ H ow o K q mv kept b) (W : OW H.next τ H o [] 0) (F : FM τ H (T 7) fs) (hb : b.length ≤ 600)
    (hQ : ∀ (T2 : Env) (H2 : AHeap) (τ2 : Nat → Nat), T2 0 = cellR ow 9 0 → T2 1 = .int .i64 (b.length : Int) → BR τ2 H2 ow o K q mv kept b → FM τ2 H2 (T2 7) (byFl b) → OW H2.next τ2 H2 o (bitsN 1 1 ++ bitsN 0 2 ++ List.replicate (fillN 3) false ++ bitsN b.length 16 ++ bitsN (65535 - b.length) 16) 40 → FrS (fun k => k ≠ 0) τ H τ2 H2 → Q' .normal T2 H2) :
    wp (ACalls Try.prog natZ) (restP restD c28.body) Q' T H := by
  have ns : ∀ k, k2 k → k ≠ 0 := fun k hk => by rcases hk with rfl | rfl <;> omega
  have n1 : ¬ k2 1 := by unfold k2; omega
  have n5 : ¬ k2 5 := by unfold k2; omega
  have n6 : ¬ k2 6 := by unfold k2; omega
  have n0 : ¬ k2 0 := by unfold k2; omega
  have l2 : oLoad false 1 H (cellR ow 9 2) = some (cellR o 3 0) := row_load B.row rfl rfl
  have lq : oLoad false 1 H (cellR q 2 0) = some (.int .u32 ((1 : Nat) : Int)) := row_load B.fst rfl rfl
  simp only [c28, restP, restD, sA, Int.reduceNegSucc, reduceCtorEq, Nat.reduceEqDiff, ↓reduceIte, Nat.reduceAdd, Int.reduceEq, Int.reduceLT, Int.reduceLE, g0, g1, g6, nil_cell, fldA, fld0, l2, lq]
  refine (put_spec W 1 1 (by omega) (by omega) (by omega) (by simp)).mono ?_
  rintro _ H1 ⟨rfl, τ1, W1, f1⟩
  have B1 := B.fr f1 n0 n1 n5
  have F1 := F.fr f1 n6
  have l21 : oLoad false 1 H1 (cellR ow 9 2) = some (cellR o 3 0) := row_load B1.row rfl rfl
  simp only [sA, Int.reduceNegSucc, reduceCtorEq, Nat.reduceEqDiff, ↓reduceIte, Nat.reduceAdd, Int.reduceEq, Int.reduceLT, Int.reduceLE, g0, g1, g15, nil_cell, fldA, fld0, l21]
  refine (put_spec W1 0 2 (by omega) (by omega) (by omega) (by simp [bitsN_len])).mono ?_
  rintro _ H2 ⟨rfl, τ2, W2, f2⟩
  have B2 := B1.fr f2 n0 n1 n5
  have F2 := F1.fr f2 n6
  have l22 : oLoad false 1 H2 (cellR ow 9 2) = some (cellR o 3 0) := row_load B2.row rfl rfl
  simp only [sA, Int.reduceNegSucc, reduceCtorEq, Nat.reduceEqDiff, ↓reduceIte, Nat.reduceAdd, Int.reduceEq, Int.reduceLT, Int.reduceLE, g0, g1, g15, nil_cell, fldA, fld0, l22]
  refine (align_spec W2 (by omega) (by simp [bitsN_len])).mono ?_
  rintro _ H3 ⟨rfl, τ3, W3, f3⟩
  have B3 := B2.fr f3 n0 n1 n5
  have F3 := F2.fr f3 n6
  have l23 : oLoad false 1 H3 (cellR ow 9 2) = some (cellR o 3 0) := row_load B3.row rfl rfl
  have eM : ([] ++ bitsN 1 1 ++ bitsN 0 2 : List Bool).length = 3 := by simp [bitsN_len]
  rw [eM] at W3
  have wl : IntKind.u32.wrap (b.length : Int) = (b.length : Int) := wrap_u .u32 (by simp) (by simp only [IntKind.bits]; omega)
  simp only [sA, Int.reduceNegSucc, reduceCtorEq, Nat.reduceEqDiff, ↓reduceIte, Nat.reduceAdd, Int.reduceEq, Int.reduceLT, Int.reduceLE, g0, g1, g15, nil_cell, fldA, fld0, l23, conv_in, wl]
  refine (put_spec W3 b.length 16 (by omega) (by omega) (by unfold fillN; omega) (by simp [bitsN_len]; unfold fillN; omega)).mono ?_
  rintro _ H4 ⟨rfl, τ4, W4, f4⟩
  have B4 := B3.fr f4 n0 n1 n5
  have F4 := F3.fr f4 n6
  have l24 : oLoad false 1 H4 (cellR ow 9 2) = some (cellR o 3 0) := row_load B4.row rfl rfl
  have xo : aBin .xor (.int .u32 (b.length : Int)) (.int .u32 65535) = some (.int .u32 ((65535 - b.length : Nat) : Int)) := by
    have := bin_xorU .u32 (by simp) (a := b.length) (b := 65535) (by simp only [IntKind.bits]; omega) (by simp only [IntKind.bits]; omega)
    rw [xor_16 (by omega)] at this
    exact this
  simp only [sA, Int.reduceNegSucc, reduceCtorEq, Nat.reduceEqDiff, ↓reduceIte, Nat.reduceAdd, Int.reduceEq, Int.reduceLT, Int.reduceLE, g0, g1, g15, nil_cell, fldA, fld0, l24, conv_in, wl, xo]
  refine (put_spec W4 (65535 - b.length) 16 (by omega) (by omega) (by unfold fillN; omega) (by simp [bitsN_len]; unfold fillN; omega)).mono ?_
  rintro _ H5 ⟨rfl, τ5, W5, f5⟩
  have B5 := B4.fr f5 n0 n1 n5
  have F5 := F4.fr f5 n6
  have fA : FrS (fun k => k ≠ 0) τ H τ5 H5 := (f1.trans (f2.trans (f3.trans (f4.trans f5)))).wide ns
  clear f1 f2 f3 f4 f5 B1 B2 B3 B4 F1 F2 F3 F4 W1 W2 W3 W4
  obtain ⟨s, ms, Ls, Bs⟩ := LinM.zero F5.1 (by omega)
  have F6 : FM τ5 H5 s [] := ⟨Ls, Bs _ F5.2⟩
  obtain ⟨sk, mk, ck, bk⟩ := B5.kp.slice (lo := 0) (hi := b.length) (by omega) (Nat.le_refl _)
  rw [List.drop_zero, Nat.sub_zero, List.take_of_length_le (by rw [byts_len]; exact Nat.le_refl _)] at ck
  have k5 := bk _ B5.kb
  have l3 : oLoad false 1 H5 (cellR ow 9 3) = some kept := row_load B5.row rfl rfl
  have l4 : oLoad false 1 H5 (cellR ow 9 4) = some (.int .i64 0) := row_load B5.row rfl rfl
  have l5 : oLoad false 1 H5 (cellR ow 9 5) = some (.int .i64 0) := row_load B5.row rfl rfl
  have w0 : IntKind.i64.wrap 0 = 0 := rfl
  have e0 : (b.length : Int) - 0 = (b.length : Int) := by omega
  have wb : IntKind.i64.wrap (b.length : Int) = (b.length : Int) := wrap64 (by omega) (by omega)
  have hlen := ck.len
  rw [byts_len] at hlen
  have mk' : aSl 1 kept (some (.int .i64 0)) (some (.int .i64 (b.length : Int))) none = some sk := mk
  simp only [sA, Int.reduceNegSucc, reduceCtorEq, Nat.reduceEqDiff, ↓reduceIte, Nat.reduceAdd, Int.reduceEq, Int.reduceLT, Int.reduceLE, g0, g1, g15, nil_cell, fldA, fld0, l3, l4, l5, ms, Int.sub_self, w0, e0, wb, mk', hlen]
  have hW : [] ++ bitsN 1 1 ++ bitsN 0 2 ++ List.replicate (fillN 3) false ++ bitsN b.length 16 ++ bitsN (65535 - b.length) 16 = bitsN 1 1 ++ bitsN 0 2 ++ List.replicate (fillN 3) false ++ bitsN b.length 16 ++ bitsN (65535 - b.length) 16 := rfl
  rw [hW] at W5
  generalize bitsN 1 1 ++ bitsN 0 2 ++ List.replicate (fillN 3) false ++ bitsN b.length 16 ++ bitsN (65535 - b.length) 16 = M at *
  refine aw_loop (fun m (T : Env) H' => ∃ (j : Nat) (τ' : Nat → Nat), j ≤ b.length ∧ m = b.length - j ∧ T 0 = cellR ow 9 0 ∧ T 1 = .int .i64 (b.length : Int) ∧ T 161 = sk ∧ T 162 = .int .i64 (b.length : Int) ∧ T 163 = .int .i64 (j : Int) ∧ BR τ' H' ow o K q mv kept b ∧ FM τ' H' (T 7) (byFl (b.take j)) ∧ OW H'.next τ' H' o M 40 ∧ FrS (fun k => k ≠ 0) τ H τ' H' ∧ Cel H'.next H' sk (byts b) ∧ Blk sk (τ' · = 5)) b.length
    ⟨0, τ5, Nat.zero_le _, rfl, by simp only [sA, Int.reduceNegSucc, reduceCtorEq, Nat.reduceEqDiff, ↓reduceIte, Nat.reduceAdd, Int.reduceEq, Int.reduceLT, Int.reduceLE, g0], by simp only [sA, Int.reduceNegSucc, reduceCtorEq, Nat.reduceEqDiff, ↓reduceIte, Nat.reduceAdd, Int.reduceEq, Int.reduceLT, Int.reduceLE, g1], by simp only [sA, Int.reduceNegSucc, reduceCtorEq, Nat.reduceEqDiff, ↓reduceIte, Nat.reduceAdd, Int.reduceEq, Int.reduceLT, Int.reduceLE], by simp only [sA, Int.reduceNegSucc, reduceCtorEq, Nat.reduceEqDiff, ↓reduceIte, Nat.reduceAdd, Int.reduceEq, Int.reduceLT, Int.reduceLE]; try rfl, by simp only [sA, Int.reduceNegSucc, reduceCtorEq, Nat.reduceEqDiff, ↓reduceIte, Nat.reduceAdd, Int.reduceEq, Int.reduceLT, Int.reduceLE]; try rfl, B5, by simp only [sA, Int.reduceNegSucc, reduceCtorEq, Nat.reduceEqDiff, ↓reduceIte, Nat.reduceAdd, Int.reduceEq, Int.reduceLT, Int.reduceLE]; exact F6, W5, fA, ck, k5⟩ ?_
  rintro m T H' ⟨j, τ', hj, rfl, k0, k1, k161, k162, k163, B', F', W', fr, ck', kb'⟩
  by_cases hlt : j < b.length
  · have hlt' : (j : Int) < (b.length : Int) := by omega
    obtain ⟨x, hx⟩ : ∃ x, b[j]? = some x := ⟨_, List.getElem?_eq_getElem hlt⟩
    have hidx := ck'.idx .i64 (i := j) (by rw [byts_len]; exact hlt)
    have hld := ck'.load (byts_get hx)
    have hxl := x.toNat_lt
    have wx : IntKind.u32.wrap (x.toNat : Int) = (x.toNat : Int) := b_u32 x
    have hlb : (byFl (b.take j)).length = j := by simp [byFl]; omega
    obtain ⟨w, H6, m6, k6, s6⟩ := FL.add F'.1 [(x.toNat, 8)] (by simp only [hlb, List.length_cons, List.length_nil]; omega)
    obtain ⟨F6, f6⟩ := F'.stpS k6 s6
    have m6' : aAppend 2 16 (H'.push (.cells (fldC (x.toNat, 8)) 0 false)) (T 7) (.slice (some ⟨H'.next, 2, 0⟩) 1 (.known 1)) = some (w, H6) := by simpa [flds] using m6
    have ef : byFl (b.take j) ++ [(x.toNat, 8)] = byFl (b.take (j + 1)) := by rw [take_snoc hx]; simp [byFl]
    rw [ef] at F6
    have z6 : ∀ c, H6.next ≤ c → upT τ' H' H6 6 c = 0 := fun c hc => upT_z f6.1 hc
    have hb6 : Blk sk fun c => c < H'.next ∧ τ' c = 5 := (cel_blk ck').and kb'
    simp only [sA, Int.reduceNegSucc, reduceCtorEq, Nat.reduceEqDiff, ↓reduceIte, Nat.reduceAdd, Int.reduceEq, Int.reduceLT, Int.reduceLE, k0, k1, k161, k162, k163, hlt', hidx, hld, conv_in, wx, fldV_one, buildF1, m6', wrap1 j (by omega)]
    exact ⟨_, by omega, j + 1, _, by omega, rfl, (by first | with_reducible rfl | trivial | rfl | assumption), (by first | with_reducible rfl | trivial | rfl | assumption), (by first | with_reducible rfl | trivial | rfl | assumption), (by first | with_reducible rfl | trivial | rfl | assumption), (by first | with_reducible rfl | trivial | rfl | assumption), B'.fr f6 (by omega) (by omega) (by omega), F6, W'.frS f6 (by omega) (by omega) z6, fr.trans (f6.wide fun k hk => by omega), cel_same ck' f6.1 (hb6.mono fun c hc => (f6.2 c hc.1).2 (by omega)), hb6.mono fun c hc => by rw [(f6.2 c hc.1).1]; exact hc.2⟩
  · have hlt' : ¬ (j : Int) < (b.length : Int) := by omega
    obtain rfl : j = b.length := by omega
    rw [List.take_length] at F'
    simp only [sA, Int.reduceNegSucc, reduceCtorEq, Nat.reduceEqDiff, ↓reduceIte, Nat.reduceAdd, Int.reduceEq, Int.reduceLT, Int.reduceLE, k0, k1, k161, k162, k163, hlt']
    exact hQ _ _ τ' (by simp only [sA, Int.reduceNegSucc, reduceCtorEq, Nat.reduceEqDiff, ↓reduceIte, Nat.reduceAdd, Int.reduceEq, Int.reduceLT, Int.reduceLE, k0]) (by simp only [sA, Int.reduceNegSucc, reduceCtorEq, Nat.reduceEqDiff, ↓reduceIte, Nat.reduceAdd, Int.reduceEq, Int.reduceLT, Int.reduceLE, k1]) B' (by simp only [sA, Int.reduceNegSucc, reduceCtorEq, Nat.reduceEqDiff, ↓reduceIte, Nat.reduceAdd, Int.reduceEq, Int.reduceLT, Int.reduceLE]; exact F') W' fr
end Go.Proofs.Zt
namespace Go.Proofs.Zt
open Go.Abs Go.Abs.S
set_option linter.unusedSimpArgs false
theorem storedB_len0 (b : Bs) : (storedB 0 b 1).length = 40 + 8 * b.length := by
  have hf : (b.flatMap fun x => bitsN x.toNat 8).length = 8 * b.length := by
    induction b with
    | nil => rfl
    | cons x r ih => simp only [List.flatMap_cons, List.length_append, bitsN_len, ih, List.length_cons]; omega
  simp only [storedB, List.length_append, bitsN_len, List.length_replicate, hf]
  have : fillN (0 + 3) = 5 := rfl
  omega
theorem blockB0 (b : Bs) (hb : b.length ≤ 600) : blockB 0 b 0 b.length 1 = if 40 + 8 * b.length < wideF (blockFl 1 (toks b 0 b.length)) then storedB 0 b 1 else fldBits (blockFl 1 (toks b 0 b.length)) := by
  obtain ⟨e, _⟩ := blockFl_ok (last := 1) (by omega) (toks_ok b b.length hb (b.length - 0) 0)
  have e' : fldBits (blockFl 1 (toks b 0 b.length)) = fixedB (toks b 0 b.length) 1 := e
  have eb : (b.drop 0).take b.length = b := by rw [List.drop_zero, List.take_of_length_le (Nat.le_refl _)]
  simp only [blockB, Nat.sub_zero, eb, storedB_len0, wideF_bits, e']
theorem sb_eq (b : Bs) : storedB 0 b 1 = bitsN 1 1 ++ bitsN 0 2 ++ List.replicate (fillN 3) false ++ bitsN b.length 16 ++ bitsN (65535 - b.length) 16 ++ fldBits (byFl b) := by rw [byFl_bits]; rfl
theorem block_rest {τ : Nat → Nat} {H : AHeap} {T : Env} {Q : AVal → AHeap → Prop} {ow o K q : Nat} {mv kept : AVal} {b : Bs} (g0 : T 0 = cellR ow 9 0) (g1 : T 1 = .int .i64 (b.length : Int)) (g6 : T 6 = cellR q 2 0) (B : BR τ H ow o K q mv kept b) (W : OW H.next τ H o [] 0) (F : FM τ H (T 7) ([(1, 1), (1, 2)] ++ (toks b 0 b.length).flatMap tokFl)) (hb : b.length ≤ 600)
    (hQ : ∀ w H2 τ2, OW H2.next τ2 H2 o (blockB 0 b 0 b.length 1) (blockB 0 b 0 b.length 1).length → Row H2 ow (dE (cellR o 3 0) kept b.length K mv) → τ2 ow = 1 → ow < H2.next → FrS (fun k => k ≠ 0) τ H τ2 H2 → Q w H2) :
    wp (ACalls Try.prog natZ) (hold (restP restB c28.body)) (fin c28.res Q) T H := by
  rw [hold_eq]
  refine wp_cutP [1, 1, 1, 1, 0, 1, 1, 4] ?_
  refine wp_cutP [1, 1, 1, 1, 1] ?_
  simp only [c28, restP, restB, sC, sA, Int.reduceNegSucc, reduceCtorEq, Nat.reduceEqDiff, ↓reduceIte, Nat.reduceAdd, Int.reduceEq, Int.reduceLT, Int.reduceLE, g0, g1, g6]
  refine (symbol_spec H 256 (by omega)).mono ?_
  rintro _ H1 ⟨rfl, E1⟩
  have B1 := B.fr (FrS.of_ext (S := fun _ => False) E1) (by simp) (by simp) (by simp)
  have F1 : FM τ H1 (T 7) _ := ⟨F.1.ext E1, F.2⟩
  have W1 := W.ext' E1
  have hfl := tokFls_len (toks b 0 b.length)
  have htl : (toks b 0 b.length).length ≤ b.length := toks_length b b.length (b.length - 0) 0
  obtain ⟨fv, H2, m2, k2', s2⟩ := FL.add F1.1 [symF 256] (by simp only [List.length_append, List.length_cons, List.length_nil]; omega)
  obtain ⟨F2, f2⟩ := F1.stpS k2' s2
  have m2' : aAppend 2 16 (H1.push (.cells (fldC (symF 256)) 0 false)) (T 7) (.slice (some ⟨H1.next, 2, 0⟩) 1 (.known 1)) = some (fv, H2) := by simpa [flds] using m2
  have z2 : ∀ c, H2.next ≤ c → upT τ H1 H2 6 c = 0 := fun c hc => upT_z f2.1 hc
  have B2 := B1.fr f2 (by omega) (by omega) (by omega)
  have W2 := W1.frS f2 (by omega) (by omega) z2
  have fr2 : FrS (fun k => k ≠ 0) τ H (upT τ H1 H2 6) H2 := (FrS.of_ext E1).trans (f2.wide fun k hk => by omega)
  obtain ⟨fs, hfs⟩ : ∃ fs, fs = blockFl 1 (toks b 0 b.length) := ⟨_, rfl⟩
  have ef : [(1, 1), (1, 2)] ++ (toks b 0 b.length).flatMap tokFl ++ [symF 256] = fs := by rw [hfs]; rfl
  rw [ef] at F2
  have hok : ∀ f ∈ fs, fldOk f = true := by rw [hfs]; exact (blockFl_ok (last := 1) (by omega) (toks_ok b b.length hb (b.length - 0) 0)).2
  have hbl := blockB0 b hb
  rw [← hfs] at hbl
  have hfsl : fs.length ≤ 3000 := by rw [← ef]; simp only [List.length_append, List.length_cons, List.length_nil]; omega
  have hlen : aLenK false fv = some (.int .i64 (fs.length : Int)) := LinM.len F2.1
  generalize upT τ H1 H2 6 = τ2 at *
  simp only [sA, Int.reduceNegSucc, reduceCtorEq, Nat.reduceEqDiff, ↓reduceIte, Nat.reduceAdd, Int.reduceEq, Int.reduceLT, Int.reduceLE, g0, g1, g6, buildF1, m2', hlen]
  clear F1 k2' s2 f2 m2 m2' B1 W1 ef hfs
  refine aw_loop (fun m (T : Env) H' => ∃ i : Nat, i ≤ fs.length ∧ m = fs.length - i ∧ T 0 = cellR ow 9 0 ∧ T 1 = .int .i64 (b.length : Int) ∧ T 6 = cellR q 2 0 ∧ T 7 = fv ∧ T 11 = .int .i64 ((wideF (fs.take i) : Nat) : Int) ∧ T 74 = fv ∧ T 75 = .int .i64 (fs.length : Int) ∧ T 76 = .int .i64 (i : Int) ∧ Ext H2.next H2 H') fs.length
    ⟨0, Nat.zero_le _, rfl, by simp only [sA, Int.reduceNegSucc, reduceCtorEq, Nat.reduceEqDiff, ↓reduceIte, Nat.reduceAdd, Int.reduceEq, Int.reduceLT, Int.reduceLE, g0], by simp only [sA, Int.reduceNegSucc, reduceCtorEq, Nat.reduceEqDiff, ↓reduceIte, Nat.reduceAdd, Int.reduceEq, Int.reduceLT, Int.reduceLE, g1], by simp only [sA, Int.reduceNegSucc, reduceCtorEq, Nat.reduceEqDiff, ↓reduceIte, Nat.reduceAdd, Int.reduceEq, Int.reduceLT, Int.reduceLE, g6], by simp only [sA, Int.reduceNegSucc, reduceCtorEq, Nat.reduceEqDiff, ↓reduceIte, Nat.reduceAdd, Int.reduceEq, Int.reduceLT, Int.reduceLE], by simp only [sA, Int.reduceNegSucc, reduceCtorEq, Nat.reduceEqDiff, ↓reduceIte, Nat.reduceAdd, Int.reduceEq, Int.reduceLT, Int.reduceLE]; try rfl, by simp only [sA, Int.reduceNegSucc, reduceCtorEq, Nat.reduceEqDiff, ↓reduceIte, Nat.reduceAdd, Int.reduceEq, Int.reduceLT, Int.reduceLE]; try rfl, by simp only [sA, Int.reduceNegSucc, reduceCtorEq, Nat.reduceEqDiff, ↓reduceIte, Nat.reduceAdd, Int.reduceEq, Int.reduceLT, Int.reduceLE]; try rfl, by simp only [sA, Int.reduceNegSucc, reduceCtorEq, Nat.reduceEqDiff, ↓reduceIte, Nat.reduceAdd, Int.reduceEq, Int.reduceLT, Int.reduceLE]; try rfl, Ext.refl _ _⟩ ?_
  rintro m T H' ⟨i, hi, rfl, k0, k1, k6, k7, k11, k74, k75, k76, E⟩
  have hwl : wideF (fs.take i) ≤ 16 * fs.length := by
    have := wideF_le (fs := fs.take i) fun f hf' => hok f (List.mem_of_mem_take hf')
    rw [List.length_take] at this; omega
  have F' : FM τ2 H' fv fs := ⟨F2.1.ext E, F2.2⟩
  by_cases hlt : i < fs.length
  · have hlt' : (i : Int) < (fs.length : Int) := by omega
    obtain ⟨f, hfi⟩ : ∃ f, fs[i]? = some f := ⟨_, List.getElem?_eq_getElem hlt⟩
    obtain ⟨a, ma, la⟩ := FL.at F'.1 hfi
    obtain ⟨hf1, hf2⟩ := fldOk_lt (hok f (List.mem_of_getElem? hfi))
    obtain ⟨H3, m3, r3, k3, q3⟩ := row_newL H' [.int .u32 0, .int .i64 0] (n := 2) rfl
    obtain ⟨H4, m4, r4, k4, q4⟩ := row_storeN r3 (n := 2) rfl (xs := fldC f) rfl rfl
    have E4 : Ext H'.next H' H4 := ⟨by omega, fun c hc => by rw [q4 c (by omega), q3 c (by omega)]⟩
    have lf1 : oLoad false 1 H4 (cellR H'.next 2 1) = some (.int .i64 (f.2 : Int)) := row_load r4 rfl rfl
    simp only [sA, Int.reduceNegSucc, reduceCtorEq, Nat.reduceEqDiff, ↓reduceIte, Nat.reduceAdd, Int.reduceEq, Int.reduceLT, Int.reduceLE, k0, k1, k6, k7, k11, k74, k75, k76, hlt', ma, la, m3, m4, fldA, fld0, lf1, wrapN (wideF (fs.take i)) f.2 (by omega), wrap1 i (by omega)]
    have ew : wideF (fs.take (i + 1)) = wideF (fs.take i) + f.2 := by rw [take_snoc hfi]; simp [wideF]
    exact ⟨_, by omega, i + 1, by omega, rfl, (by first | with_reducible rfl | trivial | rfl | assumption), (by first | with_reducible rfl | trivial | rfl | assumption), (by first | with_reducible rfl | trivial | rfl | assumption), (by first | with_reducible rfl | trivial | rfl | assumption), by rw [ew], (by first | with_reducible rfl | trivial | rfl | assumption), (by first | with_reducible rfl | trivial | rfl | assumption), (by first | with_reducible rfl | trivial | rfl | assumption), E.trans (E4.less E.next)⟩
  · have hlt' : ¬ (i : Int) < (fs.length : Int) := by omega
    obtain rfl : i = fs.length := by omega
    rw [List.take_length] at k11 hwl
    have B' := B2.fr (FrS.of_ext (S := fun _ => False) E) (by simp) (by simp) (by simp)
    have W' := W2.ext' E
    have fr' := fr2.trans (FrS.of_ext E)
    have l2 : oLoad false 1 H' (cellR ow 9 2) = some (cellR o 3 0) := row_load B'.row rfl rfl
    have l5 : oLoad false 1 H' (cellR ow 9 5) = some (.int .i64 0) := row_load B'.row rfl rfl
    simp only [sA, Int.reduceNegSucc, reduceCtorEq, Nat.reduceEqDiff, ↓reduceIte, Nat.reduceAdd, Int.reduceEq, Int.reduceLT, Int.reduceLE, k0, k1, k6, k7, k11, k74, k75, k76, hlt', nil_cell, fldA, fld0, l2]
    refine (bits_spec W').mono ?_
    rintro _ _ ⟨rfl, rfl⟩
    have w3 : IntKind.i64.wrap (0 + 3) = 3 := rfl
    have r3 : aBin .rem (.int .i64 3) (.int .i64 8) = some (.int .i64 3) := rfl
    have w5 : IntKind.i64.wrap (8 - 3) = 5 := rfl
    have r5 : aBin .rem (.int .i64 5) (.int .i64 8) = some (.int .i64 5) := rfl
    have e0 : (b.length : Int) - 0 = (b.length : Int) := by omega
    have wb : IntKind.i64.wrap (b.length : Int) = (b.length : Int) := wrap64 (by omega) (by omega)
    have w8 : IntKind.i64.wrap (3 + 5) = 8 := rfl
    have w40 : IntKind.i64.wrap (8 + 32) = 40 := rfl
    have wm : IntKind.i64.wrap (8 * (b.length : Int)) = 8 * (b.length : Int) := wrap64 (by omega) (by omega)
    have ws : IntKind.i64.wrap (40 + 8 * (b.length : Int)) = 40 + 8 * (b.length : Int) := wrap64 (by omega) (by omega)
    simp only [sA, Int.reduceNegSucc, reduceCtorEq, Nat.reduceEqDiff, ↓reduceIte, Nat.reduceAdd, Int.reduceEq, Int.reduceLT, Int.reduceLE, k0, k1, k6, k7, k11, nil_cell, fldA, fld0, w3, r3, w5, r5, l5, e0, wb, w8, w40, wm, ws]
    by_cases hcmp : 40 + 8 * b.length < wideF fs
    · have hcmp' : 40 + 8 * (b.length : Int) < ((wideF fs : Nat) : Int) := by omega
      rw [if_pos hcmp, sb_eq] at hbl
      simp only [hcmp', sA, Int.reduceNegSucc, reduceCtorEq, Nat.reduceEqDiff, ↓reduceIte, Nat.reduceAdd, Int.reduceEq, Int.reduceLT, Int.reduceLE]
      refine stored_branch (q := q) (fs := fs) (kept := kept) (b := b) (mv := mv) (o := o) (K := K) (ow := ow) (τ := τ2) (by simp only [sA, Int.reduceNegSucc, reduceCtorEq, Nat.reduceEqDiff, ↓reduceIte, Nat.reduceAdd, Int.reduceEq, Int.reduceLT, Int.reduceLE, k0]) (by simp only [sA, Int.reduceNegSucc, reduceCtorEq, Nat.reduceEqDiff, ↓reduceIte, Nat.reduceAdd, Int.reduceEq, Int.reduceLT, Int.reduceLE, k1]) (by simp only [sA, Int.reduceNegSucc, reduceCtorEq, Nat.reduceEqDiff, ↓reduceIte, Nat.reduceAdd, Int.reduceEq, Int.reduceLT, Int.reduceLE, k6]) (by simp only [sA, Int.reduceNegSucc, reduceCtorEq, Nat.reduceEqDiff, ↓reduceIte, Nat.reduceAdd, Int.reduceEq, Int.reduceLT, Int.reduceLE]) B' W' (by simp only [sA, Int.reduceNegSucc, reduceCtorEq, Nat.reduceEqDiff, ↓reduceIte, Nat.reduceAdd, Int.reduceEq, Int.reduceLT, Int.reduceLE, k7]; exact F') hb ?_
      intro T3 H3 τ3 h0 h1 B3 F3 W3 f3
      have PL := put_loop h0 h1 B3 W3 F3 (byFl_ok b) (by simp [byFl]; omega) (by omega) (by simp [bitsN_len]; unfold fillN; omega) hb (Q := Q) fun w H4 τ4 W4 r4 t4 o4 f4 => hQ w H4 τ4 (by
        have e : 40 + wideF (byFl b) = (blockB 0 b 0 b.length 1).length := by rw [hbl, List.length_append, wideF_bits]; simp only [List.length_append, bitsN_len, List.length_replicate]; rfl
        rw [e, ← hbl] at W4; exact W4) r4 t4 o4 (fr'.trans (f3.trans f4))
      simp only [c28, restP, restC] at PL
      simp only [sA, Int.reduceNegSucc, reduceCtorEq, Nat.reduceEqDiff, ↓reduceIte, Nat.reduceAdd, Int.reduceEq, Int.reduceLT, Int.reduceLE]
      exact PL
    · have hcmp' : ¬ 40 + 8 * (b.length : Int) < ((wideF fs : Nat) : Int) := by omega
      rw [if_neg hcmp] at hbl
      simp only [hcmp', sA, Int.reduceNegSucc, reduceCtorEq, Nat.reduceEqDiff, ↓reduceIte, Nat.reduceAdd, Int.reduceEq, Int.reduceLT, Int.reduceLE]
      have PL := fun T2 h0 h1 h7 => put_loop (T := T2) (fs := fs) h0 h1 B' W' h7 hok (by omega) (by omega) (by simp) hb (Q := Q) fun w H4 τ4 W4 r4 t4 o4 f4 => hQ w H4 τ4 (by
        rw [List.nil_append, Nat.zero_add, wideF_bits, ← hbl] at W4; exact W4) r4 t4 o4 (fr'.trans f4)
      simp only [c28, restP, restC] at PL
      exact PL _ (by simp only [sA, Int.reduceNegSucc, reduceCtorEq, Nat.reduceEqDiff, ↓reduceIte, Nat.reduceAdd, Int.reduceEq, Int.reduceLT, Int.reduceLE, k0]) (by simp only [sA, Int.reduceNegSucc, reduceCtorEq, Nat.reduceEqDiff, ↓reduceIte, Nat.reduceAdd, Int.reduceEq, Int.reduceLT, Int.reduceLE, k1]) (by simp only [sA, Int.reduceNegSucc, reduceCtorEq, Nat.reduceEqDiff, ↓reduceIte, Nat.reduceAdd, Int.reduceEq, Int.reduceLT, Int.reduceLE, k7]; exact F')
theorem block_spec {τ : Nat → Nat} {H : AHeap} {ow mb o : Nat} {kept : AVal} {b : Bs} (P : PW H.next τ H ow mb (cellR o 3 0) kept b 0) (W : OW H.next τ H o [] 0) (h6 : ∀ c, c < H.next → τ c ≠ 6) (t1 : τ ow = 1) (t3 : τ mb = 3) (k5 : Blk kept (τ · = 5)) (hb : b.length ≤ 600) :
    ACalls Try.prog natZ 28 [cellR ow 9 0, .int .i64 (b.length : Int), .bool true] H fun w H' => ∃ τ' K, OW H'.next τ' H' o (blockB 0 b 0 b.length 1) (blockB 0 b 0 b.length 1).length ∧ Row H' ow (dE (cellR o 3 0) kept b.length K (.map (some mb))) ∧ τ' ow = 1 ∧ ow < H'.next ∧ FrS (fun k => k ≠ 0) τ H τ' H' := by
  refine block_pre P h6 hb _ ?_
  intro T2 H2 τ2 K q g0 g1 g6 P2 F2 R2 tq hq hq2 h62 fr hn
  have o1 := P.own
  have o2 := P.mbn
  have f2 : FrS (fun k => k ≠ 0) τ H τ2 H2 := ⟨hn, fun c hc => ⟨(fr c hc).1, fun h => by
    have h0 : τ c = 0 := by simpa using h
    exact (fr c hc).2 (by rintro rfl; omega) (by rintro rfl; omega) (by omega) (by omega)⟩⟩
  have kb : Blk kept fun c => c < H.next ∧ τ c = 5 := (P.kb.mono fun c hc => hc.1).and k5
  have B : BR τ2 H2 ow o K q (.map (some mb)) kept b := ⟨P2.row, (fr _ o1).1.trans t1, by omega, P2.kp, kb.mono fun c hc => (fr c hc.1).1.trans hc.2, R2, tq, hq2⟩
  have W2 : OW H2.next τ2 H2 o [] 0 := W.fr hn (Nat.le_refl _) hn P2.tz (fun c hc _ => (fr c hc).1) fun c hc hk => (fr c hc).2 (by rintro rfl; unfold k2 at hk; omega) (by rintro rfl; unfold k2 at hk; omega) (by unfold k2 at hk; omega) (by unfold k2 at hk; omega)
  exact block_rest g0 g1 g6 B W2 F2 hb fun w H3 τ3 W3 r3 t3 o3 f3 => ⟨τ3, K, W3, r3, t3, o3, f2.trans f3⟩
end Go.Proofs.Zt
namespace Go.Proofs.Zt
open Go.Abs Go.Abs.S
set_option linter.unusedSimpArgs false
structure DS (τ : Nat → Nat) (H : AHeap) (ow o mb : Nat) (kept : AVal) (b : Bs) : Prop where
  row : Row H ow (dC (cellR o 3 0) kept 0 (.map (some mb)))
  kp : AppN 1 0 H kept (byts b) b.length
  k5 : Blk kept (τ · = 5)
  W : OW H.next τ H o [] 0
  map : H.get mb = some (.map [] 0)
  t1 : τ ow = 1
  t3 : τ mb = 3
  own : ow < H.next
  mbn : mb < H.next
  n6 : ∀ c, c < H.next → τ c ≠ 6
theorem DS.frS {S : Nat → Prop} {τ τ' : Nat → Nat} {H H' : AHeap} {ow o mb : Nat} {kept : AVal} {b : Bs} (D : DS τ H ow o mb kept b) (f : FrS S τ H τ' H') (h1 : ¬ S 1) (h2 : ¬ S 2) (h3 : ¬ S 3) (h4 : ¬ S 4) (h5 : ¬ S 5) (tz : ∀ c, H'.next ≤ c → τ' c = 0) (n6 : ∀ c, c < H'.next → τ' c ≠ 6) : DS τ' H' ow o mb kept b :=
  have hk : Blk kept fun c => c < H.next ∧ τ c = 5 := D.kp.blk'.and D.k5
  ⟨D.row.same ((f.2 _ D.own).2 (by rw [D.t1]; exact h1)), D.kp.same f.1 (hk.mono fun c hc => (f.2 c hc.1).2 (by rw [hc.2]; exact h5)), hk.mono fun c hc => (f.2 c hc.1).1.trans hc.2, D.W.frS f h2 h4 tz, ((f.2 _ D.mbn).2 (by rw [D.t3]; exact h3)).trans D.map, (f.2 _ D.own).1.trans D.t1, (f.2 _ D.mbn).1.trans D.t3, Nat.lt_of_lt_of_le D.own f.1, Nat.lt_of_lt_of_le D.mbn f.1, n6⟩
theorem DS.frz {τ : Nat → Nat} {H H' : AHeap} {ow o mb : Nat} {kept : AVal} {b : Bs} (D : DS τ H ow o mb kept b) (hn : H.next ≤ H'.next) (e : ∀ c, c < H.next → τ c ≠ 0 → H'.get c = H.get c) : DS τ H' ow o mb kept b :=
  D.frS (S := fun k => k = 0) ⟨hn, fun c hc => ⟨rfl, fun h => e c hc h⟩⟩ (by omega) (by omega) (by omega) (by omega) (by omega) (fun c hc => D.W.tz c (by omega)) fun c hc => by
    by_cases h : c < H.next
    · exact D.n6 c h
    · rw [D.W.tz c (by omega)]; omega
theorem DS.pw {τ : Nat → Nat} {H : AHeap} {ow o mb : Nat} {kept : AVal} {b : Bs} (D : DS τ H ow o mb kept b) : PW H.next τ H ow mb (cellR o 3 0) kept b 0 :=
  have t1 := D.t1
  have t3 := D.t3
  ⟨D.row, D.kp, (D.kp.blk'.and D.k5).mono fun c hc => ⟨hc.1, by omega, by rintro rfl; omega, by rintro rfl; omega⟩, ⟨[], D.map, fun i e h => by simp at h, fun i j e f h => by simp at h, fun k h => absurd rfl h⟩, D.own, D.mbn, by rintro rfl; omega, by omega, Nat.le_refl _, D.W.tz⟩
theorem dwrite_spec {n : Nat} {τ : Nat → Nat} {H : AHeap} {ow o mb : Nat} {kept bv : AVal} {b p : Bs} (D : DS τ H ow o mb kept b) (hp : Cel n H bv (byts p)) (hl : b.length + p.length ≤ 600) :
    ACalls Try.prog natZ 11 [cellR ow 9 0, bv] H fun w H' => w = .tuple [nilS, .int .i64 0] ∧ ∃ τ' kept', DS τ' H' ow o mb kept' (b ++ p) ∧ FrS (fun k => k = 1 ∨ k = 5) τ H τ' H' := by
  refine acalls_ofN rfl za11 rfl ?_
  obtain ⟨s, H1, m1, A1, n1, b1, o1⟩ := app_bytes D.kp (src_cel hp) (by omega)
  have l0 : oLoad false 1 H (cellR ow 9 0) = some (.bool true) := row_load D.row rfl rfl
  have l1 : oLoad false 1 H (cellR ow 9 1) = some (.bool false) := row_load D.row rfl rfl
  have l3 : oLoad false 1 H (cellR ow 9 3) = some kept := row_load D.row rfl rfl
  have t1 := D.t1
  have t3 := D.t3
  have o9 := D.own
  have kb : Blk kept fun c => c < H.next ∧ τ c = 5 := D.kp.blk'.and D.k5
  have row1 : Row H1 ow (dC (cellR o 3 0) kept 0 (.map (some mb))) := D.row.same (o1 ow D.own (kb.mono fun c hc => by rintro rfl; omega))
  have s1 : s.one = true := app_one A1
  obtain ⟨H2, m2, r2, k2', q2⟩ := row_st row1 (n := 9) rfl (i := 3) (by omega) (x := s) s1 (l' := dC (cellR o 3 0) s 0 (.map (some mb))) rfl
  have f2 : FrS (fun k => k = 1 ∨ k = 5) τ H (upT τ H H2 5) H2 := ⟨by omega, fun c hc => ⟨upT_old hc, fun h => by rw [q2 c (by rintro rfl; exact h (.inl t1)), o1 c hc (kb.mono fun d hd => by rintro rfl; exact h (.inr hd.2))]⟩⟩
  have z2 : ∀ c, H2.next ≤ c → upT τ H H2 5 c = 0 := fun c hc => upT_z f2.1 hc
  have sb : Blk s fun c => upT τ H H2 5 c = 5 ∧ c < H1.next ∧ c ≠ ow := ((b1 _ kb).and A1.blk').mono fun c hc => by
    rcases hc.1 with h | h
    · exact ⟨by rw [upT_old h.1]; exact h.2, hc.2, by rintro rfl; omega⟩
    · exact ⟨upT_new h (by omega), hc.2, by omega⟩
  have A2 : AppN 1 0 H2 s (byts (b ++ p)) (b ++ p).length := A1.same (by omega) (sb.mono fun c hc => q2 c hc.2.2)
  have D2 : DS (upT τ H H2 5) H2 ow o mb s (b ++ p) := ⟨r2, A2, sb.mono fun c hc => hc.1, D.W.frS f2 (by omega) (by omega) z2, ((f2.2 _ D.mbn).2 (by omega)).trans D.map, by rw [upT_old D.own]; exact t1, by rw [upT_old D.mbn]; exact t3, by omega, by have := D.mbn; omega, fun c hc => by
    by_cases h : c < H.next
    · rw [upT_old h]; exact D.n6 c h
    · rw [upT_new (by omega) hc]; omega⟩
  have l42 : oLoad false 1 H2 (cellR ow 9 4) = some (.int .i64 0) := row_load r2 rfl rfl
  have l52 : oLoad false 1 H2 (cellR ow 9 5) = some (.int .i64 0) := row_load r2 rfl rfl
  have l32 : oLoad false 1 H2 (cellR ow 9 3) = some s := row_load r2 rfl rfl
  have l22 : oLoad false 1 H2 (cellR ow 9 2) = some (cellR o 3 0) := row_load r2 rfl rfl
  have hlen := A2.len
  have wl : IntKind.i64.wrap ((b ++ p).length : Int) = ((b ++ p).length : Int) := wrap64 (by omega) (by simp only [List.length_append]; omega)
  have e0 : 0 + ((b ++ p).length : Int) = ((b ++ p).length : Int) := by omega
  have e1 : ((b ++ p).length : Int) - 0 = ((b ++ p).length : Int) := by omega
  have hgt : ¬ 4096 < ((b ++ p).length : Int) := by simp only [List.length_append]; omega
  generalize (b ++ p).length = len at *
  simp only [c11, sA, Int.reduceNegSucc, reduceCtorEq, Nat.reduceEqDiff, ↓reduceIte, Nat.reduceAdd, Int.reduceEq, Int.reduceLT, Int.reduceLE, eq_ptr_nil, nil_cell, fldA, fld0, l0, l1, l3, m1, m2]
  refine aw_loop (fun _ (T : Env) H' => T 0 = cellR ow 9 0 ∧ H2 = H') 0 ⟨by simp only [sA, Int.reduceNegSucc, reduceCtorEq, Nat.reduceEqDiff, ↓reduceIte, Nat.reduceAdd, Int.reduceEq, Int.reduceLT, Int.reduceLE], rfl⟩ ?_
  rintro _ T _ ⟨g0, rfl⟩
  simp only [sA, Int.reduceNegSucc, reduceCtorEq, Nat.reduceEqDiff, ↓reduceIte, Nat.reduceAdd, Int.reduceEq, Int.reduceLT, Int.reduceLE, g0, nil_cell, fldA, fld0, l42, l32, l52, hlen, e0, wl, e1, hgt]
  refine (trim_spec D2.row).mono ?_
  rintro w _ rfl
  simp only [sA, Int.reduceNegSucc, reduceCtorEq, Nat.reduceEqDiff, ↓reduceIte, Nat.reduceAdd, Int.reduceEq, Int.reduceLT, Int.reduceLE, g0, nil_cell, fldA, fld0, l22]
  refine (take0_spec D2.W).mono ?_
  rintro _ _ ⟨rfl, rfl⟩
  simp only [sA, Int.reduceNegSucc, reduceCtorEq, Nat.reduceEqDiff, ↓reduceIte, Nat.reduceAdd, Int.reduceEq, Int.reduceLT, Int.reduceLE]
  exact ⟨(by first | with_reducible rfl | trivial | rfl | assumption), _, _, D2, f2⟩
theorem dend_spec {τ : Nat → Nat} {H : AHeap} {ow o mb : Nat} {kept : AVal} {b : Bs} (D : DS τ H ow o mb kept b) (hl : b.length ≤ 600) :
    ACalls Try.prog natZ 12 [cellR ow 9 0] H fun w H' => ∃ s, w = .tuple [s, .int .i64 0] ∧ Cel H'.next H' s (u8s (pack (endB b))) ∧ ∃ τ', FrS (fun k => k ≠ 0) τ H τ' H' := by
  refine acalls_ofN rfl za12 rfl ?_
  have l0 : oLoad false 1 H (cellR ow 9 0) = some (.bool true) := row_load D.row rfl rfl
  have l1 : oLoad false 1 H (cellR ow 9 1) = some (.bool false) := row_load D.row rfl rfl
  have l3 : oLoad false 1 H (cellR ow 9 3) = some kept := row_load D.row rfl rfl
  have l4 : oLoad false 1 H (cellR ow 9 4) = some (.int .i64 0) := row_load D.row rfl rfl
  have hlen := D.kp.len
  have e0 : 0 + (b.length : Int) = (b.length : Int) := by omega
  have wl : IntKind.i64.wrap (b.length : Int) = (b.length : Int) := wrap64 (by omega) (by omega)
  simp only [c12, sA, Int.reduceNegSucc, reduceCtorEq, Nat.reduceEqDiff, ↓reduceIte, Nat.reduceAdd, Int.reduceEq, Int.reduceLT, Int.reduceLE, eq_ptr_nil, nil_cell, fldA, fld0, l0, l1, l3, l4, hlen, e0, wl]
  refine (block_spec D.pw D.W D.n6 D.t1 D.t3 D.k5 hl).mono ?_
  rintro w H1 ⟨τ1, K, W1, r1, t1, o1, f1⟩
  have hbl := blockB_len b hl
  have l2 : oLoad false 1 H1 (cellR ow 9 2) = some (cellR o 3 0) := row_load r1 rfl rfl
  simp only [sA, Int.reduceNegSucc, reduceCtorEq, Nat.reduceEqDiff, ↓reduceIte, Nat.reduceAdd, Int.reduceEq, Int.reduceLT, Int.reduceLE, nil_cell, fldA, fld0, l2]
  refine (align_spec W1 (by omega) (by omega)).mono ?_
  rintro _ H2 ⟨rfl, τ2, W2, f2⟩
  have r2 : Row H2 ow (dE (cellR o 3 0) kept b.length K (.map (some mb))) := r1.same ((f2.2 _ o1).2 (by rw [t1]; unfold k2; omega))
  have t2 : τ2 ow = 1 := (f2.2 _ o1).1.trans t1
  have n2 := f2.1
  obtain ⟨H3, m3, r3, k3, q3⟩ := row_st r2 (n := 9) rfl (i := 1) (by omega) (x := .bool true) rfl rfl
  obtain ⟨H4, m4, r4, k4, q4⟩ := row_st r3 (n := 9) rfl (i := 3) (by decide) (x := .slice none 0 (.known 0)) rfl rfl
  obtain ⟨H5, m5, r5, k5, q5⟩ := row_st r4 (n := 9) rfl (i := 7) (by decide) (x := .map none) rfl rfl
  have f5 : FrS (fun k => k = 1) τ2 H2 τ2 H5 := ⟨by omega, fun c hc => ⟨rfl, fun h => by
    have hne : c ≠ ow := by rintro rfl; exact h t2
    rw [q5 c hne, q4 c hne, q3 c hne]⟩⟩
  have W5 := W2.frS f5 (by omega) (by omega) fun c hc => W2.tz c (by omega)
  have l25 : oLoad false 1 H5 (cellR ow 9 2) = some (cellR o 3 0) := row_load r5 rfl rfl
  have eM : blockB 0 b 0 b.length 1 ++ List.replicate (fillN (blockB 0 b 0 b.length 1).length) false = endB b := rfl
  rw [eM] at W5
  have h8 := endB_len b
  have hE := endB_len2 b hl
  have h0 : 0 < (endB b).length := by
    rw [← eM, blockB0 b hl]
    split
    · rw [List.length_append, storedB_len0]; omega
    · rw [List.length_append, ← wideF_bits]; simp [blockFl, wideF]; omega
  simp only [sA, Int.reduceNegSucc, reduceCtorEq, Nat.reduceEqDiff, ↓reduceIte, Nat.reduceAdd, Int.reduceEq, Int.reduceLT, Int.reduceLE, nil_cell, fldA, fld0, m3, m4, m5, l25]
  refine (take1_spec W5 h8 h0 (by omega)).mono ?_
  rintro s H6 ⟨C6, B6, k6, q6⟩
  have ho : τ2 o = 2 := by obtain ⟨_, _, _, _, h, _⟩ := W5; exact h
  simp only [sA, Int.reduceNegSucc, reduceCtorEq, Nat.reduceEqDiff, ↓reduceIte, Nat.reduceAdd, Int.reduceEq, Int.reduceLT, Int.reduceLE]
  refine ⟨s, (by first | with_reducible rfl | trivial | rfl | assumption), C6, τ2, f1.trans ((f2.wide fun k hk => by unfold k2 at hk; omega).trans ((f5.wide fun k hk => by omega).trans ⟨by omega, fun c hc => ⟨rfl, fun h => q6 c (by rintro rfl; omega)⟩⟩))⟩
end Go.Proofs.Zt
namespace Go.Proofs.Zt
open Go.Abs Go.Abs.S
set_option linter.unusedSimpArgs false
theorem app_zero {m n k bytes : Nat} {H : AHeap} {s : AVal} {L : List AVal} (h : AppN m n H s L k) : aAppend m bytes H s nilS = some (s, H) := by
  rcases h with ⟨rfl, _⟩ | ⟨b, low, rfl, _⟩
  · rfl
  · rfl
theorem told_spec {H : AHeap} {z g : Nat} {bg : Bool} {dw : AVal} {sum : Nat} {rs cs : List AVal} {Q : AVal → AHeap → Prop} (Z : Row H z (zC bg dw sum)) (hz : z < H.next)
    (hcall : ∀ H1 s0, AppN 1 0 H1 s0 (u8s (hd bg)) (hd bg).length → Blk s0 (H.next ≤ ·) → Row H1 z (zC true dw sum) → H.next ≤ H1.next → (∀ c, c < H.next → c ≠ z → H1.get c = H.get c) → ACalls Try.prog natZ g (rs ++ cs) H1 fun w H2 => ∃ s e, w = .tuple [s, e] ∧ ∃ s' H3, aAppend 1 1 H2 s0 s = some (s', H3) ∧ Q s' H3) :
    ACalls Try.prog natZ 36 [cellR z 5 0, .func (.func g) rs cs] H Q := by
  refine acalls_ofN rfl za36 rfl ?_
  have l1 : oLoad false 1 H (cellR z 5 1) = some (.bool bg) := row_load Z rfl rfl
  cases bg with
  | true =>
    simp only [c36, sA, Int.reduceNegSucc, reduceCtorEq, Nat.reduceEqDiff, ↓reduceIte, Nat.reduceAdd, Int.reduceEq, Int.reduceLT, Int.reduceLE, nil_cell, fldA, fld0, l1]
    refine (hcall H nilS (AppN.nil _ _ _) (blk_nil _) Z (Nat.le_refl _) fun _ _ _ => rfl).mono ?_
    rintro _ H2 ⟨s, e, rfl, s', H3, m, q⟩
    have m' : aAppend 1 1 H2 (.slice none 0 (.known 0)) s = some (s', H3) := m
    simp only [sA, Int.reduceNegSucc, reduceCtorEq, Nat.reduceEqDiff, ↓reduceIte, Nat.reduceAdd, Int.reduceEq, Int.reduceLT, Int.reduceLE, ext_0, ext_1, m']
    exact q
  | false =>
    have c2 : Cel (H.next + 1) (H.push (.cells (u8s [120, 1]) 0 false)) (slR H.next 2 (.known 2)) (u8s [120, 1]) := (row_push H (u8s [120, 1])).cel rfl (Nat.lt_succ_self _)
    obtain ⟨s3, H3, m3, A3, n3, b3, o3⟩ := app_u8 (a := []) (AppN.nil 1 0 (H.push (.cells (u8s [120, 1]) 0 false))) c2 (by simp)
    rw [push_next] at n3 b3 o3
    have m3' : aAppend 1 1 (H.push (.cells (u8s [120, 1]) 0 false)) (.slice none 0 (.known 0)) (slR H.next 2 (.known 2)) = some (s3, H3) := m3
    have g3 : ∀ c, c < H.next → H3.get c = H.get c := fun c hc => (o3 c (by omega) (blk_nil _)).trans (get_push_lt hc)
    have B3 : Blk s3 (H.next ≤ ·) := (b3 (fun _ => False) (blk_nil _)).mono fun b hb => hb.elim (fun q => q.elim) fun q => by omega
    obtain ⟨H4, m4, r4, k4, q4⟩ := row_st (Z.same (g3 z hz)) (n := 5) rfl (i := 1) (by omega) (x := .bool true) rfl (l' := zC true dw sum) rfl
    simp only [c36, sA, Int.reduceNegSucc, reduceCtorEq, Nat.reduceEqDiff, ↓reduceIte, Nat.reduceAdd, Int.reduceEq, Int.reduceLT, Int.reduceLE, nil_cell, fldA, fld0, l1, build21, m3', m4]
    refine (hcall H4 s3 (A3.same (by omega) (B3.mono fun b hb => q4 b (by omega))) B3 r4 (by omega) fun c hc hne => by rw [q4 c hne]; exact g3 c hc).mono ?_
    rintro _ H5 ⟨s, e, rfl, s', H6, m, q⟩
    simp only [sA, Int.reduceNegSucc, reduceCtorEq, Nat.reduceEqDiff, ↓reduceIte, Nat.reduceAdd, Int.reduceEq, Int.reduceLT, Int.reduceLE, ext_0, ext_1, m]
    exact q
def ZS (τ : Nat → Nat) (H : AHeap) (z : Nat) (bg : Bool) (b : Bs) : Prop :=
  ∃ ow o mb kept, DS τ H ow o mb kept b ∧ Row H z (zC bg (cellR ow 9 0) (adler 1 b)) ∧ z < H.next ∧ τ z = 0
def FZ (z : Nat) (τ : Nat → Nat) (H : AHeap) (τ' : Nat → Nat) (H' : AHeap) : Prop := H.next ≤ H'.next ∧ ∀ c, c < H.next → τ' c = τ c ∧ (c ≠ z → τ c = 0 → H'.get c = H.get c)
theorem FZ.trans {z : Nat} {τ τ' τ'' : Nat → Nat} {H H' H'' : AHeap} (h : FZ z τ H τ' H') (k : FZ z τ' H' τ'' H'') : FZ z τ H τ'' H'' :=
  ⟨Nat.le_trans h.1 k.1, fun c hc => by
    obtain ⟨e1, e2⟩ := h.2 c hc
    obtain ⟨e3, e4⟩ := k.2 c (Nat.lt_of_lt_of_le hc h.1)
    exact ⟨e3.trans e1, fun h1 h2 => (e4 h1 (by rw [e1]; exact h2)).trans (e2 h1 h2)⟩⟩
theorem FZ.of_ext {z : Nat} {τ : Nat → Nat} {H H' : AHeap} (e : Ext H.next H H') : FZ z τ H τ H' := ⟨e.next, fun c hc => ⟨rfl, fun _ _ => e.old c hc⟩⟩
theorem FZ.of_fr {z : Nat} {S : Nat → Prop} {τ τ' : Nat → Nat} {H H' : AHeap} (f : FrS S τ H τ' H') (h0 : ¬ S 0) : FZ z τ H τ' H' := ⟨f.1, fun c hc => ⟨(f.2 c hc).1, fun _ h => (f.2 c hc).2 (by rw [h]; exact h0)⟩⟩
theorem FZ.of_z {z : Nat} {τ : Nat → Nat} {H H' : AHeap} (hn : H.next ≤ H'.next) (e : ∀ c, c < H.next → c ≠ z → H'.get c = H.get c) : FZ z τ H τ H' := ⟨hn, fun c hc => ⟨rfl, fun h _ => e c hc h⟩⟩
theorem zwrite_spec {n : Nat} {τ : Nat → Nat} {H : AHeap} {z : Nat} {bg : Bool} {bv : AVal} {b p : Bs} (h : ZS τ H z bg b) (hp : Cel n H bv (byts p)) (hn : n ≤ z) (hl : b.length + p.length ≤ 600) :
    ACalls Try.prog natZ 17 [cellR z 5 0, bv] H fun w H' => ∃ s, w = .tuple [s, .int .i64 0] ∧ Cel H'.next H' s (u8s (hd bg)) ∧ Blk s (H.next ≤ ·) ∧ ∃ τ', ZS τ' H' z true (b ++ p) ∧ FZ z τ H τ' H' := by
  obtain ⟨ow, o, mb, kept, D, R, hz, tz⟩ := h
  refine acalls_ofN rfl za17 rfl ?_
  have b1 : bv.one = true := cel_one hp
  obtain ⟨H1, m1, r1, k1, q1⟩ := row_newL H [bv] (n := 1) rfl
  have E1 : Ext H.next H H1 := ⟨by omega, fun c hc => q1 c (by omega)⟩
  have D1 := D.frz E1.next fun c hc _ => E1.old c hc
  have R1 := R.same (E1.old z hz)
  have sl : Row H1 z [.bool true, .bool bg, .bool false, cellR ow 9 0, .int .u32 ((adler 1 b : Nat) : Int)] := R1
  have l4 : oLoad false 1 H1 (cellR z 5 4) = some (.int .u32 ((adler 1 b : Nat) : Int)) := row_load R1 rfl rfl
  have lb : oLoad false 1 H1 (cellR H.next 1 0) = some bv := row_load r1 rfl rfl
  have hp1 := hp.ext (E1.less (by omega))
  simp only [c17, sA, Int.reduceNegSucc, reduceCtorEq, Nat.reduceEqDiff, ↓reduceIte, Nat.reduceAdd, Int.reduceEq, Int.reduceLT, Int.reduceLE, cells_one b1, m1]
  refine (zstate_spec R1).mono ?_
  rintro _ _ ⟨rfl, rfl⟩
  simp only [sA, Int.reduceNegSucc, reduceCtorEq, Nat.reduceEqDiff, ↓reduceIte, Nat.reduceAdd, Int.reduceEq, Int.reduceLT, Int.reduceLE, nil_cell, fldA, fld0, l4, lb]
  refine (adler_spec hp1 (adler 1 b) (adler_lt 1 b) (by omega)).mono ?_
  rintro _ _ ⟨rfl, rfl⟩
  rw [adler_append]
  obtain ⟨H2, m2, r2, k2', q2⟩ := row_st R1 (n := 5) rfl (i := 4) (by omega) (x := .int .u32 ((adler 1 (b ++ p) : Nat) : Int)) rfl (l' := zC bg (cellR ow 9 0) (adler 1 (b ++ p))) rfl
  have l3 : oLoad false 1 H2 (cellR z 5 3) = some (cellR ow 9 0) := row_load r2 rfl rfl
  obtain ⟨H3, m3, r3, k3, q3⟩ := row_newL H2 [.nilFunc] (n := 1) rfl
  obtain ⟨H4, m4, r4, k4, q4⟩ := row_st r3 (n := 1) rfl (i := 0) (by omega) (x := .func (.func 11) [cellR ow 9 0] []) rfl (l' := [.func (.func 11) [cellR ow 9 0] []]) rfl
  have g4 : ∀ c, c < H2.next → H4.get c = H2.get c := fun c hc => by rw [q4 c (by omega), q3 c (by omega)]
  have R4 := r2.same (g4 z (by omega))
  simp only [sA, Int.reduceNegSucc, reduceCtorEq, Nat.reduceEqDiff, ↓reduceIte, Nat.reduceAdd, Int.reduceEq, Int.reduceLT, Int.reduceLE, nil_cell, fldA, fld0, m2, l3, m3, m4]
  refine told_spec R4 (by omega) fun H5 s0 A0 B0 R5 n5 e5 => ?_
  have e05 : ∀ c, c < H.next → c ≠ z → H5.get c = H.get c := fun c hc hne => by rw [e5 c (by omega) hne, g4 c (by omega), q2 c hne, q1 c (by omega)]
  have D5 : DS τ H5 ow o mb kept b := D.frz (by omega) fun c hc h0 => e05 c hc (by rintro rfl; exact h0 tz)
  have hp5 : Cel n H5 bv (byts p) := hp.ext ⟨by omega, fun c hc => e05 c (by omega) (by omega)⟩
  have r5 : Row H5 H2.next [.func (.func 11) [cellR ow 9 0] []] := r4.same (e5 _ (by omega) (by omega))
  have rb5 : Row H5 H.next [bv] := r1.same (by rw [e5 _ (by omega) (by omega), g4 _ (by omega), q2 _ (by omega)])
  have lf : oLoad false 1 H5 (cellR H2.next 1 0) = some (.func (.func 11) [cellR ow 9 0] []) := row_load r5 rfl rfl
  have lb5 : oLoad false 1 H5 (cellR H.next 1 0) = some bv := row_load rb5 rfl rfl
  simp only [List.nil_append]
  refine acalls_ofN rfl za37 rfl ?_
  simp only [c37, sA, Int.reduceNegSucc, reduceCtorEq, Nat.reduceEqDiff, ↓reduceIte, Nat.reduceAdd, Int.reduceEq, Int.reduceLT, Int.reduceLE, lf, lb5]
  refine (dwrite_spec D5 hp5 hl).mono ?_
  rintro _ H6 ⟨rfl, τ6, kept6, D6, f6⟩
  have A6 : AppN 1 0 H6 s0 (u8s (hd bg)) (hd bg).length := A0.same f6.1 ((A0.blk'.and B0).mono fun c hc => (f6.2 c hc.1).2 (by rw [D.W.tz c (by omega)]; omega))
  have hz5 : z < H5.next := by omega
  have R6 := R5.same ((f6.2 z hz5).2 (by rw [tz]; omega))
  simp only [sA, Int.reduceNegSucc, reduceCtorEq, Nat.reduceEqDiff, ↓reduceIte, Nat.reduceAdd, Int.reduceEq, Int.reduceLT, Int.reduceLE, ext_0, ext_1]
  refine ⟨nilS, .int .i64 0, (by first | with_reducible rfl | trivial | rfl | assumption), s0, H6, app_zero A6, ?_⟩
  exact ⟨s0, (by first | with_reducible rfl | trivial | rfl | assumption), A6.cel1 A6.blk', B0.mono fun c hc => by omega, τ6, ⟨ow, o, mb, kept6, D6, R6, by have := f6.1; omega, (f6.2 z hz5).1.trans tz⟩, (FZ.of_z (by omega) e05).trans (FZ.of_fr f6 (by omega))⟩
theorem zend_spec {τ : Nat → Nat} {H : AHeap} {z : Nat} {bg : Bool} {b : Bs} (h : ZS τ H z bg b) (hl : b.length ≤ 600) :
    ACalls Try.prog natZ 18 [cellR z 5 0] H fun w H' => ∃ s, w = .tuple [s, .int .i64 0] ∧ Cel H'.next H' s (u8s (endN bg b)) ∧ ∃ τ', FZ z τ H τ' H' := by
  obtain ⟨ow, o, mb, kept, D, R, hz, tz⟩ := h
  refine acalls_ofN rfl za18 rfl ?_
  have l3 : oLoad false 1 H (cellR z 5 3) = some (cellR ow 9 0) := row_load R rfl rfl
  simp only [c18, sA, Int.reduceNegSucc, reduceCtorEq, Nat.reduceEqDiff, ↓reduceIte, Nat.reduceAdd, Int.reduceEq, Int.reduceLT, Int.reduceLE]
  refine (zstate_spec R).mono ?_
  rintro _ _ ⟨rfl, rfl⟩
  simp only [sA, Int.reduceNegSucc, reduceCtorEq, Nat.reduceEqDiff, ↓reduceIte, Nat.reduceAdd, Int.reduceEq, Int.reduceLT, Int.reduceLE, nil_cell, fldA, fld0, l3]
  refine told_spec R hz fun H1 s0 A0 B0 R1 n1 e1 => ?_
  have D1 : DS τ H1 ow o mb kept b := D.frz n1 fun c hc h0 => e1 c hc (by rintro rfl; exact h0 tz)
  refine (dend_spec D1 hl).mono ?_
  rintro _ H2 ⟨s, rfl, C2, τ2, f2⟩
  have b0 : Blk s0 fun c => H.next ≤ c ∧ c < H1.next := B0.and A0.blk'
  have A2 : AppN 1 0 H2 s0 (u8s (hd bg)) (hd bg).length := A0.same f2.1 (b0.mono fun c hc => (f2.2 c hc.2).2 (by rw [D.W.tz c hc.1]; omega))
  have el := endB_len2 b hl
  have pl : (pack (endB b)).length ≤ 10000 := by rw [pack_len]; omega
  have hdl : (hd bg).length ≤ 2 := by cases bg <;> simp [hd]
  obtain ⟨s3, H3, m3, A3, n3, b3, o3⟩ := app_u8 A2 C2 (by omega)
  have n2 := f2.1
  refine ⟨s, .int .i64 0, rfl, s3, H3, m3, ?_⟩
  have hz1 : z < H1.next := by omega
  have g3 : ∀ c, c < H.next → H3.get c = H2.get c := fun c hc => o3 c (by omega) (b0.mono fun d hd => by omega)
  have R3 : Row H3 z (zC true (cellR ow 9 0) (adler 1 b)) := R1.same (by rw [g3 z hz, (f2.2 z hz1).2 (by rw [tz]; omega)])
  have B3 : Blk s3 (H.next ≤ ·) := (b3 _ B0).mono fun c hc => by omega
  obtain ⟨H4, m4, r4, k4, q4⟩ := row_st R3 (n := 5) rfl (i := 2) (by omega) (x := .bool true) rfl rfl
  obtain ⟨H5, m5, r5, k5, q5⟩ := row_st r4 (n := 5) rfl (i := 3) (by decide) (x := .ptr none) rfl rfl
  have A5 : AppN 1 0 H5 s3 (u8s (hd bg ++ pack (endB b))) (hd bg ++ pack (endB b)).length := A3.same (by omega) (B3.mono fun c hc => by rw [q5 c (by omega), q4 c (by omega)])
  have l4 : oLoad false 1 H5 (cellR z 5 4) = some (.int .u32 ((adler 1 b : Nat) : Int)) := row_load r5 rfl rfl
  have ha := adler_lt 1 b
  have hs : ∀ k : Nat, k ≤ 32 → aBin .shr (.int .u32 ((adler 1 b : Nat) : Int)) (.int .u64 (k : Int)) = some (.int .u32 ((adler 1 b / 2 ^ k : Nat) : Int)) := fun k hk => shrN .u32 .u64 (adler 1 b) hk
  have h24 : aBin .shr (.int .u32 ((adler 1 b : Nat) : Int)) (.int .u64 24) = some (.int .u32 ((adler 1 b / 16777216 : Nat) : Int)) := hs 24 (by omega)
  have h16 : aBin .shr (.int .u32 ((adler 1 b : Nat) : Int)) (.int .u64 16) = some (.int .u32 ((adler 1 b / 65536 : Nat) : Int)) := hs 16 (by omega)
  have h08 : aBin .shr (.int .u32 ((adler 1 b : Nat) : Int)) (.int .u64 8) = some (.int .u32 ((adler 1 b / 256 : Nat) : Int)) := hs 8 (by omega)
  have wu : ∀ a : Nat, IntKind.u8.wrap (a : Int) = ((a % 256 : Nat) : Int) := fun a => wrap_um .u8 (.inl rfl) a
  have A6 := A5.same (H' := H5.push (.cells (u8s (fourL (adler 1 b))) 0 false)) (by rw [push_next]; omega) (A5.blk'.mono fun c hc => get_push_lt hc)
  have C6 : Cel (H5.next + 1) (H5.push (.cells (u8s (fourL (adler 1 b))) 0 false)) (slR H5.next 4 (.known 4)) (u8s (fourL (adler 1 b))) := (row_push H5 (u8s (fourL (adler 1 b)))).cel rfl (Nat.lt_succ_self _)
  obtain ⟨s7, H7, m7, A7, n7, b7, o7⟩ := app_u8 A6 C6 (by simp only [List.length_append, fourL, List.length_cons, List.length_nil]; omega)
  rw [push_next] at n7 o7
  have bs : aBuildSl 4 [.int .u8 0] H5 [(0, 1, .int .u8 ((adler 1 b / 16777216 % 256 : Nat) : Int)), (1, 1, .int .u8 ((adler 1 b / 65536 % 256 : Nat) : Int)), (2, 1, .int .u8 ((adler 1 b / 256 % 256 : Nat) : Int)), (3, 1, .int .u8 ((adler 1 b % 256 : Nat) : Int))] = some (slR H5.next 4 (.known 4), H5.push (.cells (u8s (fourL (adler 1 b))) 0 false)) := build4 _ _ _ _ _
  simp only [sA, Int.reduceNegSucc, reduceCtorEq, Nat.reduceEqDiff, ↓reduceIte, Nat.reduceAdd, Int.reduceEq, Int.reduceLT, Int.reduceLE, nil_cell, fldA, fld0, m4, m5, l4, h24, h16, h08, conv_in, wu, bs, m7]
  refine ⟨s7, (by first | with_reducible rfl | trivial | rfl | assumption), A7.cel1 A7.blk', τ2, by omega, fun c hc => ⟨(f2.2 c (by omega)).1, fun hne h0 => ?_⟩⟩
  rw [o7 c (by omega) (B3.mono fun d hd => by omega), get_push_lt (by omega), q5 c hne, q4 c hne, g3 c hc, (f2.2 c (by omega)).2 (by omega)]
  exact e1 c hc hne
end Go.Proofs.Zt
namespace Go.Abs.S
open Go.Abs Go.WideShapes Go.ChangeShapes
variable {H : Type} {enc : TypeId × Value → H}
theorem rowOf_cell {W : World} {a : Addr} {v : Value} (h : W.cell? a = some v) : a.spot = none ∧ ∃ n, rowOf W a.block = some n ∧ a.off < n := by
  have hs := World.cell?_spot h
  obtain ⟨c, off, spot⟩ := a
  simp only at hs
  subst hs
  refine ⟨rfl, ?_⟩
  unfold World.cell? at h
  unfold rowOf
  simp only at h ⊢
  split at h
  · rename_i C e fz hC
    rw [hC]
    simp only [Option.isSome_none, Bool.false_eq_true, if_false] at h
    exact ⟨_, rfl, (Array.getElem?_eq_some_iff.1 h).1⟩
  · simp at h
theorem absW_empty (W : World) (a : Addr) : Cel (heapW W).next (heapW W) (absW W (.slice (some a) 0 0)) [] ∧ (absW W (.slice (some a) 0 0)).one = true := by
  obtain ⟨c, off, spot⟩ := a
  cases spot with
  | some q => exact ⟨.inl ⟨rfl, rfl⟩, rfl⟩
  | none =>
    simp only [absW, Nat.le_refl, if_true]
    cases hr : rowOf W c with
    | none => exact ⟨.inl ⟨rfl, rfl⟩, rfl⟩
    | some n =>
      simp only
      by_cases ho : off ≤ n
      · rw [if_pos ho]
        refine ⟨.inr ⟨_, _, rfl, ?_, ?_⟩, rfl⟩
        · obtain ⟨C, e', fz, g1, _, _⟩ := objW_some hr
          exact (Array.getElem?_eq_some_iff.1 g1).1
        · exact rd_world hr (by simpa using ho) rfl fun i hi => by simp at hi
      · rw [if_neg ho]; exact ⟨.inl ⟨rfl, rfl⟩, rfl⟩
theorem cell_bytes {P : Program} {W : World} {t e : TypeId} {v : Value} {x : DataW H × List MemPlace} {fuel : Nat} (ht : P.underlying t = some (.slice e)) (he : P.underlying e = some (.int .u8)) (hc : P.cellsOf e = 1)
    (hf : DataW.trod enc P W 0 (fun _ => true) true fuel t [v] = some x) :
    ∃ l : List UInt8, Cel (heapW W).next (heapW W) (absW W v) (byts l) ∧ (absW W v).one = true ∧ l.length ≤ maxLen := by
  rcases open_ints ht he hc hf with ⟨h1, _⟩ | ⟨a, len, cap, zs, h1, _, h3, h4, h5, h6, h7, h8⟩
  · simp only [List.cons.injEq, and_true] at h1
    subst h1
    exact ⟨[], .inl ⟨rfl, rfl⟩, rfl, by simp⟩
  · simp only [List.cons.injEq, and_true] at h1
    subst h1
    simp only [if_true] at h5
    by_cases h0 : cap = 0
    · have hl : len = 0 := by omega
      subst h0 hl
      have := absW_empty W a
      exact ⟨[], this.1, this.2, by simp⟩
    · have hz : W.cell? (a.add 0) = some _ := h7 0 (by omega)
      have ea : a.add 0 = a := rfl
      rw [ea] at hz
      obtain ⟨q1, n, q3, q4⟩ := rowOf_cell hz
      obtain ⟨c, off, spot⟩ := a
      simp only at q1 q3 q4
      subst q1
      have hlt : ((zs.take len).map fun n : Int => UInt8.ofNat n.toNat).length = len := by simp; omega
      have hcell : ∀ i, i < len → W.cell? ⟨c, off + i, none⟩ = some (.int .u8 (zs.getD i 0)) := fun i hi => by
        have := h7 i (by omega)
        rwa [add_none] at this
      have hb : off + len ≤ n := by
        by_cases h0 : len = 0
        · omega
        · obtain ⟨C, e', fz, g1, g2, _⟩ := objW_some q3
          have := hcell (len - 1) (by omega)
          rw [cell?_of g1] at this
          have := (Array.getElem?_eq_some_iff.1 this).1
          omega
      have q4' : off ≤ n := by omega
      have eA : absW W (.slice (some ⟨c, off, none⟩) len cap) = .slice (some ⟨c, n, off⟩) len (.known cap) := by simp only [absW, h3, if_true, q3, q4']
      refine ⟨(zs.take len).map fun n : Int => UInt8.ofNat n.toNat, .inr ⟨⟨c, n, off⟩, .known cap, ?_, ?_, ?_⟩, by rw [eA]; rfl, by rw [hlt]; omega⟩
      · rw [eA, byts_len, hlt]
      · obtain ⟨C, e', fz, g1, _, _⟩ := objW_some q3
        exact (Array.getElem?_eq_some_iff.1 g1).1
      · rw [byts_len, hlt]
        refine rd_world q3 hb (by rw [byts_len, hlt]) fun i hi => ⟨_, hcell i hi, ?_⟩
        simp only [absW]
        have hz : i < zs.length := by omega
        have hw := h8 zs[i] (List.getElem_mem hz)
        have hg : ((zs.take len).map fun n : Int => UInt8.ofNat n.toNat)[i]? = some (UInt8.ofNat zs[i].toNat) := by
          rw [List.getElem?_map, List.getElem?_take_of_lt hi, List.getElem?_eq_getElem hz]; rfl
        rw [byts_get hg, byte_wf hw]
        simp [List.getD, hz]
theorem choose_list {α : Type} {len : Nat} {p : Nat → α → Prop} (h : ∀ i, i < len → ∃ x, p i x) : ∃ l : List α, l.length = len ∧ ∀ i x, l[i]? = some x → p i x := by
  induction len with
  | zero => exact ⟨[], rfl, by simp⟩
  | succ k ih =>
    obtain ⟨l, hl, hp⟩ := ih fun i hi => h i (by omega)
    obtain ⟨x, hx⟩ := h k (by omega)
    refine ⟨l ++ [x], by simp [hl], fun i y hy => ?_⟩
    by_cases hi : i < l.length
    · rw [List.getElem?_append_left hi] at hy; exact hp i y hy
    · have hlt := (List.getElem?_eq_some_iff.1 hy).1
      simp at hlt
      have e : i = k := by omega
      subst e
      rw [List.getElem?_append_right (by omega), hl, Nat.sub_self] at hy
      simp at hy; subst hy; exact hx
def Bss (n : Nat) (H : AHeap) (s : AVal) (ls : List (List UInt8)) : Prop :=
  (isE s = true ∧ ls = []) ∨ ∃ a r, s = .slice (some a) ls.length r ∧ a.b < n ∧ ∀ i l, ls[i]? = some l → ∃ x, rdCells H ⟨a.b, a.lim, a.o + i * 1⟩ 1 = some [x] ∧ Cel n H x (byts l) ∧ x.one = true
theorem Bss.len {n : Nat} {H : AHeap} {s : AVal} {ls : List (List UInt8)} (h : Bss n H s ls) : aLenK false s = some (.int .i64 (ls.length : Int)) := by
  rcases h with ⟨h, rfl⟩ | ⟨a, r, rfl, _⟩
  · rcases isE_cases h with rfl | ⟨a, rfl⟩ <;> rfl
  · rfl
theorem Bss.at {n : Nat} {H : AHeap} {s : AVal} {ls : List (List UInt8)} (h : Bss n H s ls) {i : Nat} {l : List UInt8} (hi : ls[i]? = some l) : ∃ a x, aIdxA 1 s (.int .i64 (i : Int)) = some a ∧ x.one = true ∧ ∀ H', Ext n H H' → oLoad false 1 H' a = some x ∧ Cel n H' x (byts l) := by
  rcases h with ⟨_, rfl⟩ | ⟨a, r, rfl, hn, hx⟩
  · simp at hi
  · obtain ⟨x, h1, h2, h3⟩ := hx i l hi
    have hlt : Nat.blt i ls.length = true := by
      rw [Nat.blt_eq]; exact (List.getElem?_eq_some_iff.1 hi).1
    have hix : aIdxA 1 (.slice (some a) ls.length r) (.int .i64 (i : Int)) = some (.ptr (some ⟨a.b, a.lim, a.o + i * 1⟩)) := by
      show (bif Nat.blt i ls.length then _ else none) = _
      rw [hlt]; rfl
    refine ⟨_, x, hix, h3, fun H' e => ⟨?_, h2.ext e⟩⟩
    have : rdCells H' ⟨a.b, a.lim, a.o + i * 1⟩ 1 = some [x] := by rw [rd_congr (a := ⟨a.b, a.lim, a.o + i * 1⟩) (e.old _ hn)]; exact h1
    simp only [oLoad, this, cond_false]
theorem arg_bytess {P : Program} {W : World} {base : Nat} {t e u : TypeId} {v : Value} {d : DataW H} {p : List MemPlace} (ht : P.underlying t = some (.slice e)) (hm : P.cellsOf e = 1) (he : P.underlying e = some (.slice u)) (hu : P.underlying u = some (.int .u8)) (hc : P.cellsOf u = 1)
    (hok : Value.okWide P W .any base t v) (h : DataW.Trod enc P W 0 (fun _ => true) true t v d p) :
    ∃ ls : List (List UInt8), Bss (heapW W).next (heapW W) (absW W v) ls ∧ (absW W v).one = true ∧ ls.length ≤ maxLen ∧ ∀ l ∈ ls, l.length ≤ maxLen := by
  rcases arg_slice ht (by omega) hok h with ⟨h2, _⟩ | ⟨c, n, off, len, cap, els, sp, h2, h3, h4, h5, h6, h7, h8⟩
  · exact ⟨[], .inl ⟨isE_nil h2, rfl⟩, by rw [h2]; rfl, by simp, by simp⟩
  · have key : ∀ i, i < len → ∃ l : List UInt8, (∃ x, rdCells (heapW W) ⟨c, n, off + i * 1⟩ 1 = some [x] ∧ Cel (heapW W).next (heapW W) x (byts l) ∧ x.one = true) ∧ l.length ≤ maxLen := by
      intro i hi
      obtain ⟨cs, k, y, g1, g2, g3, _⟩ := h8 i hi
      rw [hm] at g1 g2
      obtain ⟨a, rfl⟩ : ∃ a, cs = [a] := by
        match cs, g1 with
        | [a], _ => exact ⟨a, rfl⟩
      obtain ⟨l, q1, q2, q3⟩ := cell_bytes he hu hc g3
      exact ⟨l, ⟨_, by simpa using g2, q1, q2⟩, q3⟩
    obtain ⟨ls, hl, hp⟩ := choose_list key
    refine ⟨ls, .inr ⟨⟨c, n, off⟩, .known cap, by rw [h2, hl], h5, fun i l hi => (hp i l hi).1⟩, by rw [h2]; rfl, by omega, fun l hlm => ?_⟩
    obtain ⟨i, hi⟩ := List.mem_iff_getElem?.1 hlm
    exact (hp i l hi).2
end Go.Abs.S
namespace Go.Proofs.Zt
open Go.Abs Go.Abs.S
set_option linter.unusedSimpArgs false
theorem hd_lt (bg : Bool) : ∀ x ∈ hd bg, x < 256 := by
  intro x hx
  cases bg <;> simp [hd] at hx
  omega
theorem u8s_hd (bg : Bool) : u8s (hd bg) = byts ((hd bg).map UInt8.ofNat) := u8s_byts (hd_lt bg)
theorem endN_lt (bg : Bool) (b : Bs) : ∀ x ∈ endN bg b, x < 256 := by
  intro x hx
  simp only [endN, List.mem_append, fourL, List.mem_cons, List.not_mem_nil, or_false] at hx
  have := adler_lt 1 b
  rcases hx with (h | h) | h
  · exact hd_lt bg x h
  · exact pack_lt h
  · omega
structure VS (τ : Nat → Nat) (H : AHeap) (z q : Nat) (av sv : AVal) (b : Bs) (bg : Bool) : Prop where
  row : Row H q [av, .int .i64 0, sv, .int .i64 0, .bool false, .bool bg]
  dw : DW H av sv b []
  ba : Blk av fun c => τ c = 0 ∧ c ≠ z ∧ c ≠ q
  bs : VB (.agg [sv, .int .i64 0]) fun c => τ c = 0 ∧ c ≠ z ∧ c ≠ q
  qz : q ≠ z
  qn : q < H.next
  tq : τ q = 0
theorem VS.fz {τ τ' : Nat → Nat} {H H' : AHeap} {z q : Nat} {av sv : AVal} {b : Bs} {bg : Bool} (h : VS τ H z q av sv b bg) (f : FZ z τ H τ' H') : VS τ' H' z q av sv b bg := by
  have ba : Blk av fun c => c < H.next ∧ τ c = 0 ∧ c ≠ z ∧ c ≠ q := h.dw.1.blk'.and h.ba
  have bs : VB (.agg [sv, .int .i64 0]) fun c => c < H.next ∧ τ c = 0 ∧ c ≠ z ∧ c ≠ q := fun s c e => Blk.and (h.dw.2.vb s c e) (h.bs s c e)
  exact ⟨h.row.same ((f.2 q h.qn).2 h.qz h.tq), ⟨h.dw.1.same f.1 (ba.mono fun c hc => (f.2 c hc.1).2 hc.2.2.1 hc.2.1), rw_same h.dw.2 f.1 (bs.mono fun c hc => (f.2 c hc.1).2 hc.2.2.1 hc.2.1)⟩,
    ba.mono fun c hc => ⟨(f.2 c hc.1).1.trans hc.2.1, hc.2.2⟩, bs.mono fun c hc => ⟨(f.2 c hc.1).1.trans hc.2.1, hc.2.2⟩, h.qz, Nat.lt_of_lt_of_le h.qn f.1, (f.2 q h.qn).1.trans h.tq⟩
def newZ (n : Nat) : Nat → Nat := fun c => if c = n then 2 else if c = n + 1 then 3 else if c = n + 2 then 1 else 0
theorem ls_sum {ls : List Bs} {i : Nat} {p : Bs} (h : ls[i]? = some p) : (ls.take (i + 1)).flatten = (ls.take i).flatten ++ p := by
  rw [take_snoc h]; simp
theorem ZS.at_q {τ : Nat → Nat} {H H' : AHeap} {z q : Nat} {bg : Bool} {b : Bs} (h : ZS τ H z bg b) (hn : H.next ≤ H'.next) (tq : τ q = 0) (hq : q ≠ z) (e : ∀ c, c < H.next → c ≠ q → H'.get c = H.get c) : ZS τ H' z bg b := by
  obtain ⟨ow, o, mb, kept, D, R, hz, t⟩ := h
  exact ⟨ow, o, mb, kept, D.frz hn fun c hc h0 => e c hc (by rintro rfl; exact h0 tq), R.same (e z hz (Ne.symm hq)), Nat.lt_of_lt_of_le hz hn, t⟩
theorem ZS.tz {τ : Nat → Nat} {H : AHeap} {z : Nat} {bg : Bool} {b : Bs} (h : ZS τ H z bg b) : ∀ c, H.next ≤ c → τ c = 0 := by
  obtain ⟨ow, o, mb, kept, D, R, hz, t⟩ := h
  exact D.W.tz
theorem law_tail {τ : Nat → Nat} {H : AHeap} {T : Env} {z q : Nat} {av sv : AVal} {b : Bs} {bg : Bool} (g3 : T 3 = cellR z 5 0) (g4 : T 4 = cellR q 6 0) (Z : ZS τ H z bg b) (V : VS τ H z q av sv b bg) (hl : b.length ≤ 600) :
    wp (ACalls Try.prog natZ) (hold (restP [1, 1, 1, 1, 1] c5.body)) (fin c5.res fun x _ => x = .bool true) T H := by
  simp only [c5, restP, hold_eq, sA, Int.reduceNegSucc, reduceCtorEq, Nat.reduceEqDiff, ↓reduceIte, Nat.reduceAdd, Int.reduceEq, Int.reduceLT, Int.reduceLE, g3]
  refine (zend_spec Z hl).mono ?_
  rintro _ H1 ⟨s, rfl, C1, τ1, f1⟩
  have V1 := V.fz f1
  have l4 : oLoad true 6 H1 (cellR q 6 0) = some (.agg [av, .int .i64 0, sv, .int .i64 0, .bool false, .bool bg]) := row_loadN V1.row (n := 6) rfl
  simp only [sA, Int.reduceNegSucc, reduceCtorEq, Nat.reduceEqDiff, ↓reduceIte, Nat.reduceAdd, Int.reduceEq, Int.reduceLT, Int.reduceLE, g3, g4, ext_0, ext_1, l4]
  refine (rend8_spec V1.dw hl).mono ?_
  rintro _ H2 ⟨_, s2, rfl, ⟨cs, rfl, hcs, hc1⟩, C2, E2⟩
  obtain ⟨H3, m3, r3, k3, q3⟩ := row_newL H2 [.slice none 0 (.known 0), .int .i64 0, .slice none 0 (.known 0), .int .i64 0, .bool false, .bool false] (n := 6) rfl
  obtain ⟨H4, m4, r4, k4, q4⟩ := row_storeN r3 (n := 6) rfl (xs := cs) hcs hc1
  have e24 : ∀ c, c < H2.next → H4.get c = H2.get c := fun c hc => by rw [q4 c (by omega), q3 c (by omega)]
  have n2 := E2.next
  have C1' : Cel H1.next H4 s (u8s (endN bg b)) := C1.ext ⟨by omega, fun c hc => by rw [e24 c (by omega), E2.old c hc]⟩
  have C2' : Cel H2.next H4 s2 (u8s (endN bg b)) := C2.ext ⟨by omega, fun c hc => e24 c hc⟩
  rw [u8s_byts (endN_lt bg b)] at C1' C2'
  simp only [sA, Int.reduceNegSucc, reduceCtorEq, Nat.reduceEqDiff, ↓reduceIte, Nat.reduceAdd, Int.reduceEq, Int.reduceLT, Int.reduceLE, ext_0, ext_1, ext_2, m3, m4]
  refine (same_spec C1' C2').mono ?_
  rintro _ _ ⟨rfl, rfl⟩
  simp only [sA, Int.reduceNegSucc, reduceCtorEq, Nat.reduceEqDiff, ↓reduceIte, Nat.reduceAdd, Int.reduceEq, Int.reduceLT, Int.reduceLE]
  refine natB_call ?_
  simp only [sA, Int.reduceNegSucc, reduceCtorEq, Nat.reduceEqDiff, ↓reduceIte, Nat.reduceAdd, Int.reduceEq, Int.reduceLT, Int.reduceLE, fin, wRes, OptP_some]
  trivial
theorem law_spec {H0 : AHeap} {v : AVal} {ls : List Bs} (hv : Bss H0.next H0 v ls) (hls : ls.length ≤ 9223372036854775807) (hll : ∀ l ∈ ls, l.length ≤ 9223372036854775807) : ACalls Try.prog natZ 5 [v] H0 fun x _ => x = .bool true := by
  refine acalls_ofN rfl za5 rfl ?_
  refine wp_cutP [1, 1, 1, 1, 1] ?_
  have vlen := hv.len
  simp only [c5, sC, sA, Int.reduceNegSucc, reduceCtorEq, Nat.reduceEqDiff, ↓reduceIte, Nat.reduceAdd, Int.reduceEq, Int.reduceLT, Int.reduceLE]
  refine (znew_spec H0).mono ?_
  rintro _ H1 ⟨rfl, r1, r2, r3, g1, k1, E1⟩
  obtain ⟨H2, m2, r4, k2', q2⟩ := row_newL H1 [.slice none 0 (.known 0), .int .i64 0, .slice none 0 (.known 0), .int .i64 0, .bool false, .bool false] (n := 6) rfl
  have E2 : Ext H0.next H0 H2 := ⟨by omega, fun c hc => by rw [q2 c (by omega)]; exact E1.old c hc⟩
  simp only [sA, Int.reduceNegSucc, reduceCtorEq, Nat.reduceEqDiff, ↓reduceIte, Nat.reduceAdd, Int.reduceEq, Int.reduceLT, Int.reduceLE, m2]
  refine aw_loop (fun m (T : Env) H => ∃ (i : Nat) (τ : Nat → Nat) (av sv : AVal) (bg : Bool), i ≤ ls.length ∧ i ≤ 12 ∧ m = 12 - i ∧ T 0 = v ∧ T 3 = cellR (H0.next + 3) 5 0 ∧ T 4 = cellR H1.next 6 0 ∧ T 5 = .int .i64 ((ls.take i).flatten.length : Int) ∧ T 6 = .int .i64 (i : Int) ∧ (ls.take i).flatten.length ≤ 600 ∧ ZS τ H (H0.next + 3) bg (ls.take i).flatten ∧ VS τ H (H0.next + 3) H1.next av sv (ls.take i).flatten bg ∧ Ext H0.next H0 H ∧ (∀ c, c < H0.next → τ c = 0)) 12
    ⟨0, newZ H0.next, nilS, nilS, false, Nat.zero_le _, Nat.zero_le _, rfl, by simp only [sA, Int.reduceNegSucc, reduceCtorEq, Nat.reduceEqDiff, ↓reduceIte, Nat.reduceAdd, Int.reduceEq, Int.reduceLT, Int.reduceLE], by simp only [sA, Int.reduceNegSucc, reduceCtorEq, Nat.reduceEqDiff, ↓reduceIte, Nat.reduceAdd, Int.reduceEq, Int.reduceLT, Int.reduceLE], by simp only [sA, Int.reduceNegSucc, reduceCtorEq, Nat.reduceEqDiff, ↓reduceIte, Nat.reduceAdd, Int.reduceEq, Int.reduceLT, Int.reduceLE], by simp only [sA, Int.reduceNegSucc, reduceCtorEq, Nat.reduceEqDiff, ↓reduceIte, Nat.reduceAdd, Int.reduceEq, Int.reduceLT, Int.reduceLE]; try rfl, by simp only [sA, Int.reduceNegSucc, reduceCtorEq, Nat.reduceEqDiff, ↓reduceIte, Nat.reduceAdd, Int.reduceEq, Int.reduceLT, Int.reduceLE]; try rfl, Nat.zero_le _, ?_, ?_, E2, fun c hc => ?_⟩ ?_
  · have ea : adler 1 [] = 1 := by simp [adler, adlerF]
    have e0 : (ls.take 0).flatten = [] := rfl
    rw [e0]
    refine ⟨H0.next + 2, H0.next, H0.next + 1, nilS, ⟨r2.same (q2 _ (by omega)), AppN.nil _ _ _, blk_nil _, ⟨nilS, r3.same (q2 _ (by omega)), by omega, Nat.le_refl _, by simp [newZ], fun c hc => by unfold newZ; rw [if_neg (by omega), if_neg (by omega), if_neg (by omega)], AppN.nil _ _ _, blk_nil _, rfl⟩, (q2 _ (by omega)).trans g1, by simp [newZ], by simp [newZ], by omega, by omega, fun c hc => by unfold newZ; split <;> (try split) <;> (try split) <;> omega⟩, by rw [ea]; exact r1.same (q2 _ (by omega)), by omega, by simp [newZ]⟩
  · exact ⟨r4, ⟨AppN.nil _ _ _, ⟨nilS, rfl, .inl ⟨rfl, rfl⟩⟩⟩, blk_nil _, vb_agg (blk_nil _), by omega, by omega, by unfold newZ; rw [if_neg (by omega), if_neg (by omega), if_neg (by omega)]⟩
  · unfold newZ; rw [if_neg (by omega), if_neg (by omega), if_neg (by omega)]
  rintro m T H ⟨i, τ, av, sv, bg, hi, hi12, rfl, h0, h3, h4, h5, h6, hl, Z, V, E, tz⟩
  by_cases hlt : i < ls.length
  · by_cases hlt12 : i < 12
    · have a1 : (i : Int) < (ls.length : Int) := by omega
      have a2 : (i : Int) < 12 := by omega
      obtain ⟨p, hp⟩ : ∃ p, ls[i]? = some p := ⟨_, List.getElem?_eq_getElem hlt⟩
      obtain ⟨ad, x, mx, ox, hld⟩ := hv.at hp
      obtain ⟨lx, cx⟩ := hld H E
      have xlen := cx.len
      rw [byts_len] at xlen
      have hpl := hll p (List.mem_of_getElem? hp)
      have esum : (ls.take (i + 1)).flatten = (ls.take i).flatten ++ p := ls_sum hp
      have leave : ∀ T2 : Env, T2 3 = cellR (H0.next + 3) 5 0 → T2 4 = cellR H1.next 6 0 → wp (ACalls Try.prog natZ) (hold (restP [1, 1, 1, 1, 1] c5.body)) (fin c5.res fun x _ => x = .bool true) T2 H := fun T2 q3 q4 => law_tail q3 q4 Z V hl
      simp only [c5, restP] at leave
      by_cases h600 : 600 < p.length
      · have b1 : 600 < (p.length : Int) := by omega
        simp only [sA, Int.reduceNegSucc, reduceCtorEq, Nat.reduceEqDiff, ↓reduceIte, Nat.reduceAdd, Int.reduceEq, Int.reduceLT, Int.reduceLE, h0, h3, h4, h5, h6, vlen, a1, a2, mx, lx, xlen, b1]
        exact leave _ (by simp only [sA, Int.reduceNegSucc, reduceCtorEq, Nat.reduceEqDiff, ↓reduceIte, Nat.reduceAdd, Int.reduceEq, Int.reduceLT, Int.reduceLE, h3]) (by simp only [sA, Int.reduceNegSucc, reduceCtorEq, Nat.reduceEqDiff, ↓reduceIte, Nat.reduceAdd, Int.reduceEq, Int.reduceLT, Int.reduceLE, h4])
      · have b1 : ¬ 600 < (p.length : Int) := by omega
        obtain ⟨n5, hn5⟩ : ∃ n5, n5 = (ls.take i).flatten.length + p.length := ⟨_, rfl⟩
        have w5 : IntKind.i64.wrap (((ls.take i).flatten.length : Int) + (p.length : Int)) = (n5 : Int) := by rw [hn5]; exact wrapN _ _ (by omega)
        by_cases h6s : 600 < n5
        · have b2 : 600 < (n5 : Int) := by omega
          simp only [sA, Int.reduceNegSucc, reduceCtorEq, Nat.reduceEqDiff, ↓reduceIte, Nat.reduceAdd, Int.reduceEq, Int.reduceLT, Int.reduceLE, h0, h3, h4, h5, h6, vlen, a1, a2, mx, lx, xlen, b1, w5, b2]
          exact leave _ (by simp only [sA, Int.reduceNegSucc, reduceCtorEq, Nat.reduceEqDiff, ↓reduceIte, Nat.reduceAdd, Int.reduceEq, Int.reduceLT, Int.reduceLE, h3]) (by simp only [sA, Int.reduceNegSucc, reduceCtorEq, Nat.reduceEqDiff, ↓reduceIte, Nat.reduceAdd, Int.reduceEq, Int.reduceLT, Int.reduceLE, h4])
        · have b2 : ¬ 600 < (n5 : Int) := by omega
          simp only [sA, Int.reduceNegSucc, reduceCtorEq, Nat.reduceEqDiff, ↓reduceIte, Nat.reduceAdd, Int.reduceEq, Int.reduceLT, Int.reduceLE, h0, h3, h4, h5, h6, vlen, a1, a2, mx, lx, xlen, b1, w5, b2]
          clear leave
          refine (zwrite_spec Z cx (by omega) (by omega)).mono ?_
          rintro _ H5 ⟨s, rfl, C5, B5, τ5, Z5, f5⟩
          have V5 := V.fz f5
          have en := E.next
          have n5' := f5.1
          have tz5 : ∀ c, c < H0.next → τ5 c = 0 := fun c hc => (f5.2 c (by omega)).1.trans (tz c hc)
          have E5 : Ext H0.next H H5 := ⟨by omega, fun c hc => (f5.2 c (by omega)).2 (by omega) (tz c hc)⟩
          have zt5 := Z5.tz
          obtain ⟨Hr, hHr⟩ : ∃ G, G = H5.push (.cells [.slice none 0 (.known 0), .int .i64 0, .slice none 0 (.known 0), .int .i64 0, .bool false, .bool false] 0 false) := ⟨_, rfl⟩
          have gr : Hr.get H5.next = some (.cells [.slice none 0 (.known 0), .int .i64 0, .slice none 0 (.known 0), .int .i64 0, .bool false, .bool false] 0 false) := by rw [hHr, AHeap.get_push, if_pos rfl]
          have kr : Hr.next = H5.next + 1 := by rw [hHr]; rfl
          have or_ : ∀ c, c < H5.next → Hr.get c = H5.get c := fun c hc => by rw [hHr]; exact get_push_lt hc
          have Er : Ext H5.next H5 Hr := ⟨by omega, or_⟩
          have Vr := V5.fz (FZ.of_ext (z := H0.next + 3) (τ := τ5) Er)
          have l4 : oLoad true 6 Hr (cellR H1.next 6 0) = some (.agg [av, .int .i64 0, sv, .int .i64 0, .bool false, .bool bg]) := row_loadN Vr.row (n := 6) rfl
          obtain ⟨lxr, cxr⟩ := hld Hr (E.trans (E5.trans (Er.less (by omega))))
          simp only [sA, Int.reduceNegSucc, reduceCtorEq, Nat.reduceEqDiff, ↓reduceIte, Nat.reduceAdd, Int.reduceEq, Int.reduceLT, Int.reduceLE, h0, h3, h4, h5, h6, ext_0, ext_1]
          refine aw_drawN ?_
          simp only [claims, newOf, reserves, ← hHr]
          simp only [sA, Int.reduceNegSucc, reduceCtorEq, Nat.reduceEqDiff, ↓reduceIte, Nat.reduceAdd, Int.reduceEq, Int.reduceLT, Int.reduceLE, sR, tr_claim, h0, h4, h6, l4, mx, lxr]
          refine (rwrite8_spec Vr.dw cxr (by omega) (by omega)).mono ?_
          rintro _ H6 ⟨av', sv', s2, rfl, D6, B6, A6, V6, E6⟩
          have n6 := E6.next
          have cl6 : aClaim H6 H5.next [.slice none 0 (.known 0), .int .i64 0, .slice none 0 (.known 0), .int .i64 0, .bool false, .bool false] none = some (cellR H5.next 6 0) := claim_ok ((E6.old _ (by omega)).trans gr) rfl
          have clr : aClaim Hr H5.next [.slice none 0 (.known 0), .int .i64 0, .slice none 0 (.known 0), .int .i64 0, .bool false, .bool false] none = some (cellR H5.next 6 0) := claim_ok gr rfl
          have x1 := app_one D6.1
          obtain ⟨x2, x3, x4⟩ := dw_aeq D6
          have ho : ([av', .int .i64 0, sv', .int .i64 0, .bool false, .bool true] : List AVal).all AVal.one = true := by simp only [List.all_cons, List.all_nil, x1, x4]; rfl
          have R6 : Row H6 H5.next [.slice none 0 (.known 0), .int .i64 0, .slice none 0 (.known 0), .int .i64 0, .bool false, .bool false] := ⟨0, (E6.old _ (by omega)).trans gr, Nat.zero_le _⟩
          obtain ⟨H7, m7, r7, k7, q7⟩ := row_storeN R6 (n := 6) rfl (xs := [av', .int .i64 0, sv', .int .i64 0, .bool false, .bool true]) rfl ho
          simp only [sA, Int.reduceNegSucc, reduceCtorEq, Nat.reduceEqDiff, ↓reduceIte, Nat.reduceAdd, Int.reduceEq, Int.reduceLT, Int.reduceLE, sR, tr_claim, ext_0, ext_1, ext_2, cl6, m7]
          simp only [ck_nil', ck_cons, ckP_load, ckP_claim, ckP_nil, ck_end, and_true, true_and, List.map_cons, List.map_nil, sA, Int.reduceNegSucc, reduceCtorEq, Nat.reduceEqDiff, ↓reduceIte, Nat.reduceAdd, Int.reduceEq, Int.reduceLT, Int.reduceLE]
          refine ⟨⟨_, rfl, fun _ => ⟨_, clr, aeq_cellR _ _ _⟩⟩, ?_⟩
          have qn := V5.qn
          have R7q : Row H7 H1.next [av, .int .i64 0, sv, .int .i64 0, .bool false, .bool bg] := Vr.row.same (by rw [q7 _ (by omega), E6.old _ (by omega)])
          obtain ⟨H8, m8, r8, k8, q8⟩ := row_storeN R7q (n := 6) rfl (xs := [av', .int .i64 0, sv', .int .i64 0, .bool false, .bool true]) rfl ho
          have l7 : oLoad true 6 H7 (cellR H5.next 6 0) = some (.agg [av', .int .i64 0, sv', .int .i64 0, .bool false, .bool true]) := row_loadN r7 (n := 6) rfl
          have o58 : ∀ c, c < H5.next → c ≠ H1.next → H8.get c = H5.get c := fun c hc hq => by rw [q8 c hq, q7 c (by omega), E6.old c (by omega), or_ c hc]
          have nH := V.qn
          have bs5 : Blk s fun c => H.next ≤ c ∧ c < H5.next := B5.and (cel_blk C5)
          have C8 : Cel H8.next H8 s (u8s (hd bg)) := cel_same C5 (by omega) (bs5.mono fun c hc => o58 c hc.2 (by omega))
          have A8 : AppN 1 Hr.next H8 s2 (u8s (hd bg)) (hd bg).length := AppN.samN' B6 (Nat.le_refl _) (by omega) fun c h1 h2 => by rw [q8 c (by omega), q7 c (by omega)]
          have A80 : AppN 1 0 H8 s2 (u8s (hd bg)) (hd bg).length := AppN.samN' A8 (Nat.zero_le _) (Nat.le_refl _) fun _ _ _ => rfl
          have C82 : Cel H8.next H8 s2 (u8s (hd bg)) := A80.cel1 A80.blk'
          rw [u8s_hd] at C8 C82
          simp only [sA, Int.reduceNegSucc, reduceCtorEq, Nat.reduceEqDiff, ↓reduceIte, Nat.reduceAdd, Int.reduceEq, Int.reduceLT, Int.reduceLE, h0, h3, h4, h5, h6, l7, m8]
          refine (same_spec C8 C82).mono ?_
          rintro _ _ ⟨rfl, rfl⟩
          simp only [sA, Int.reduceNegSucc, reduceCtorEq, Nat.reduceEqDiff, ↓reduceIte, Nat.reduceAdd, Int.reduceEq, Int.reduceLT, Int.reduceLE, h0, h3, h4, h5, h6, wrap1 i (by omega)]
          have bav : Blk av' fun c => Hr.next ≤ c ∧ c < H6.next := A6.and D6.1.blk'
          have bsv : VB (.agg [sv', .int .i64 0]) fun c => c < Hr.next ∧ τ5 c = 0 ∧ c ≠ H0.next + 3 ∧ c ≠ H1.next ∧ c ≠ H5.next := V6 _ fun s c e => by
            have h1 := V5.dw.2.vb s c e
            exact ((V5.bs s c e).and h1).mono fun d hd => ⟨by omega, hd.1.1, hd.1.2.1, hd.1.2.2, by omega⟩
          refine ⟨12 - (i + 1), by omega, i + 1, τ5, av', sv', true, by omega, by omega, rfl, (by first | with_reducible rfl | trivial | rfl | assumption), (by first | with_reducible rfl | trivial | rfl | assumption), (by first | with_reducible rfl | trivial | rfl | assumption), by rw [esum, List.length_append, ← hn5], (by first | with_reducible rfl | trivial | rfl | assumption), by rw [esum, List.length_append, ← hn5]; omega, ?_, ?_, ?_, tz5⟩
          · rw [esum]
            exact Z5.at_q (by omega) V5.tq V5.qz o58
          · rw [esum]
            exact ⟨r8, ⟨D6.1.same (by omega) (bav.mono fun c hc => by rw [q8 c (by omega), q7 c (by omega)]), rw_same D6.2 (by omega) (bsv.mono fun c hc => by rw [q8 c hc.2.2.2.1, q7 c hc.2.2.2.2])⟩, bav.mono fun c hc => ⟨zt5 c (by omega), by omega, by omega⟩, bsv.mono fun c hc => ⟨hc.2.1, hc.2.2.1, hc.2.2.2.1⟩, V5.qz, by omega, V5.tq⟩
          · exact E.trans (E5.trans ⟨by omega, fun c hc => o58 c (by omega) (by omega)⟩)
    · have a1 : (i : Int) < (ls.length : Int) := by omega
      have a2 : ¬ (i : Int) < 12 := by omega
      have leave : ∀ T2 : Env, T2 3 = cellR (H0.next + 3) 5 0 → T2 4 = cellR H1.next 6 0 → wp (ACalls Try.prog natZ) (hold (restP [1, 1, 1, 1, 1] c5.body)) (fin c5.res fun x _ => x = .bool true) T2 H := fun T2 q3 q4 => law_tail q3 q4 Z V hl
      simp only [c5, restP] at leave
      simp only [sA, Int.reduceNegSucc, reduceCtorEq, Nat.reduceEqDiff, ↓reduceIte, Nat.reduceAdd, Int.reduceEq, Int.reduceLT, Int.reduceLE, h0, h3, h4, h5, h6, vlen, a1, a2]
      exact leave _ (by simp only [sA, Int.reduceNegSucc, reduceCtorEq, Nat.reduceEqDiff, ↓reduceIte, Nat.reduceAdd, Int.reduceEq, Int.reduceLT, Int.reduceLE, h3]) (by simp only [sA, Int.reduceNegSucc, reduceCtorEq, Nat.reduceEqDiff, ↓reduceIte, Nat.reduceAdd, Int.reduceEq, Int.reduceLT, Int.reduceLE, h4])
  · have a1 : ¬ (i : Int) < (ls.length : Int) := by omega
    have leave : ∀ T2 : Env, T2 3 = cellR (H0.next + 3) 5 0 → T2 4 = cellR H1.next 6 0 → wp (ACalls Try.prog natZ) (hold (restP [1, 1, 1, 1, 1] c5.body)) (fin c5.res fun x _ => x = .bool true) T2 H := fun T2 q3 q4 => law_tail q3 q4 Z V hl
    simp only [c5, restP] at leave
    simp only [sA, Int.reduceNegSucc, reduceCtorEq, Nat.reduceEqDiff, ↓reduceIte, Nat.reduceAdd, Int.reduceEq, Int.reduceLT, Int.reduceLE, h0, h3, h4, h5, h6, vlen, a1]
    exact leave _ (by simp only [sA, Int.reduceNegSucc, reduceCtorEq, Nat.reduceEqDiff, ↓reduceIte, Nat.reduceAdd, Int.reduceEq, Int.reduceLT, Int.reduceLE, h3]) (by simp only [sA, Int.reduceNegSucc, reduceCtorEq, Nat.reduceEqDiff, ↓reduceIte, Nat.reduceAdd, Int.reduceEq, Int.reduceLT, Int.reduceLE, h4])
end Go.Proofs.Zt
namespace Go.Abs
open Go.ChangeShapes Go.WideShapes Go.ChangeAt Go.RowKit
section
variable {H : Type} {enc : TypeId × Value → H} {P : Program}
theorem trodAll_below {W W' : World} {base : Nat} {sp : Nat → Bool} {held : Bool} (hb : Below W.heap.size W W') : ∀ {ts : List TypeId} {vs : List Value} {ds : List (DataW H)} {ps : List MemPlace},
    DataW.TrodAll enc P W base sp held ts vs ds ps → DataW.TrodAll enc P W' base sp held ts vs ds ps
  | [], [], [], _, h => h
  | _ :: _, _ :: _, _ :: _, _, ⟨p, q, ⟨n, h1⟩, h2, e⟩ => by
    refine ⟨p, q, ⟨n, DataW.trod_carry n _ _ _ h1 fun x hx => hb.same (DataW.trod_lt n _ _ _ h1 x hx)⟩, trodAll_below hb h2, e⟩
theorem trodVars_below {W W' : World} {sp : Nat → Bool} {gs : List (DataW H)} {q : List MemPlace} (h : DataW.TrodVars enc P W sp [] gs q) : DataW.TrodVars enc P W' sp [] gs q := by
  obtain ⟨rfl, rfl⟩ := trodVars_none h
  exact h
theorem law_post {f : Func} {s : ChangeSpec} {apart : Bool} {W W' : World} {args : Array Value} {ds gs : List (DataW H)} {before : List MemPlace} {tb : TypeId}
    (hl : laidOutB P = true) (hm : mapsRowed P = true)
    (hz : ((List.range P.types.size).all fun t => match P.underlying t with | some (.slice e) => decide (0 < P.cellsOf e) | _ => true) = true)
    (hts : (f.params.toList.all fun t => decide (t < P.types.size)) = true) (hv : s.vars = [])
    (hW : DataW.Whole enc P f.params.toList s.vars apart W args.toList ds gs before)
    (hfn : s.fn H (ds ++ gs) = { results := [.lit (.bool true)], args := ds }) (hr : f.resultTypes = #[tb]) (ht : P.underlying tb = some .bool) (hb : Below W.heap.size W W') :
    s.post enc P f apart true false false W args (.bool true) W' := by
  have hlt : ∀ p ∈ before, p.block < W.heap.size := fun p hp => hW.lt p hp
  have hW0 := hW
  obtain ⟨p, q, hA, hV, rfl, hfz, hnd⟩ := hW
  rw [hv] at hV
  obtain ⟨rfl, rfl⟩ := trodVars_none hV
  have hT : ∀ t ∈ f.params.toList, t < P.types.size := fun t ht => by simpa using List.all_eq_true.1 hts t ht
  refine ⟨ds, [], p ++ [], [], p, [], hW0, ?_, ?_, ?_, World.keptBut_mono (fun x hx => ⟨hx, by simpa using hx⟩) (hb.frame (· ∈ p ++ [])), fun h => by simp at h⟩
  · rw [hfn, hr]
    exact trodAll_cons_mk (shut_bool ht _) trodAll_mk0
  · rw [hfn]
    refine trodAll_below hb (DataW.TrodAll.respare (kids_rows hl hm) (slices_full_of P hz) hT hA fun x hx => ?_)
    simpa using hlt x (by simpa using hx)
  · rw [hfn, hv]
    exact trodVars_below (W := W) hV
end
end Go.Abs
