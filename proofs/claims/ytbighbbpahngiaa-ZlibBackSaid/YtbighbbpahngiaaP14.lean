/- Part of a proof (I60 I61 L1); no condition. -/
import Derived.WalkKit
import Derived.Below
import Derived.ChangeSame
import Derived.ReadAgain
import Derived.OpenShut
import Derived.ProofKit
import Derived.Test.YtbighbbpahngiaaP13
set_option linter.unusedSimpArgs false
set_option linter.unusedVariables false
set_option linter.unnecessarySimpa false
namespace Go.Proofs.Zi
open Go.Abs Go.Abs.S
set_option linter.unusedSimpArgs false
theorem AppN.to_from {H : AHeap} {s : AVal} {L : List AVal} {k : Nat} (h : AppN 1 0 H s L k) {m : Nat} (hm : m ≤ k) : ∃ s', aSl 1 s none (some (.int .i64 (m : Int))) none = some s' ∧ Cel H.next H s' (L.take m) ∧ ∀ lo, lo ≤ m → ∃ s'', aSl 1 s' (some (.int .i64 (lo : Int))) none none = some s'' ∧ Cel H.next H s'' ((L.take m).drop lo) := by
  rw [sl_none]
  rcases h with ⟨rfl, rfl, rfl⟩ | ⟨b, low, rfl, h3, h4, h5, h6, h7, h8⟩
  · obtain rfl : m = 0 := by omega
    refine ⟨nilS, rfl, .inl ⟨rfl, rfl⟩, fun lo hlo => ?_⟩
    obtain rfl : lo = 0 := by omega
    exact ⟨nilS, rfl, .inl ⟨rfl, rfl⟩⟩
  · have hR : Row H b L := ⟨low, h6, h7⟩
    have hl : (L.take m).length = m := by simp; omega
    have hr := rd_row hR rfl (i := 0) (k := m) (by omega)
    rw [List.drop_zero] at hr
    refine ⟨.slice (some ⟨b, L.length, 0⟩) m (.open_ 1), ?_, .inr ⟨_, _, by rw [hl], h5, by rw [hl]; exact hr⟩, fun lo hlo => ?_⟩
    · simp only [aSl, Nat.beq_refl, cond_true, Nat.sub_zero, Nat.div_one, bnd_lh (Nat.zero_le m) (show m ≤ L.length by omega), Nat.zero_add, Nat.mul_one, Nat.ble_eq_true_of_le (show m ≤ L.length by omega)]
    · have hl2 : ((L.take m).drop lo).length = m - lo := by simp; omega
      have hr2 := rd_row hR rfl (i := lo) (k := m - lo) (by omega)
      have e : (L.drop lo).take (m - lo) = (L.take m).drop lo := by rw [List.drop_take]
      rw [e] at hr2
      refine ⟨.slice (some ⟨b, L.length, lo⟩) (m - lo) (.open_ 1), ?_, .inr ⟨_, _, by rw [hl2], h5, by rw [hl2]; exact hr2⟩⟩
      simp only [aSl, Nat.beq_refl, cond_true, Nat.sub_zero, Nat.div_one, bnd_l hlo, Nat.zero_add, Nat.mul_one, Nat.ble_eq_true_of_le (show m ≤ L.length by omega)]
def four8 (n : Nat) : Bs := (fourL n).map UInt8.ofNat
theorem four8_len (n : Nat) : (four8 n).length = 4 := rfl
theorem ofN (n : Nat) : (UInt8.ofNat (n % 256)).toNat = n % 256 := by simp
theorem four8_sum {n : Nat} (h : n < 2 ^ 32) (x : Bs) : sum4 (four8 n ++ x) = n := by
  show (UInt8.ofNat (n / 16777216 % 256)).toNat * 16777216 + (UInt8.ofNat (n / 65536 % 256)).toNat * 65536 + (UInt8.ofNat (n / 256 % 256)).toNat * 256 + (UInt8.ofNat (n % 256)).toNat = n
  rw [ofN, ofN, ofN, ofN]; omega
theorem open0 (b : Bs) : openE b (four8 (adler 1 b)) = 0 := by
  have h := four8_sum (adler_lt 1 b) []
  rw [List.append_nil] at h
  unfold openE
  rw [if_neg (by rw [four8_len]; omega), if_neg (by rw [h]; simp), if_neg (by rw [four8_len]; omega)]
theorem open12 (b : Bs) : openE b ((four8 (adler 1 b)).take 3) = 12 := by
  unfold openE
  rw [if_pos (by rw [List.length_take, four8_len]; omega)]
theorem open10 (b : Bs) (x : UInt8) : openE b (four8 (adler 1 b) ++ [x]) = 10 := by
  have h := four8_sum (adler_lt 1 b) [x]
  unfold openE
  rw [if_neg (by rw [List.length_append, four8_len]; simp), if_neg (by rw [h]; simp), if_pos (by rw [List.length_append, four8_len]; simp)]
theorem open11 (b : Bs) {j : Nat} (hj : j < 4) {y : UInt8} (hy : y ≠ (four8 (adler 1 b)).getD j 0) : openE b ((four8 (adler 1 b)).set j y) = 11 := by
  have h := four8_sum (adler_lt 1 b) []
  rw [List.append_nil] at h
  have hl : ((four8 (adler 1 b)).set j y).length = 4 := by rw [List.length_set, four8_len]
  have hne : sum4 ((four8 (adler 1 b)).set j y) ≠ adler 1 b := by
    obtain ⟨s, hs⟩ : ∃ s, s = adler 1 b := ⟨_, rfl⟩
    rw [← hs] at h hy ⊢
    obtain ⟨a0, a1, a2, a3, hq⟩ : ∃ a0 a1 a2 a3, four8 s = [a0, a1, a2, a3] := ⟨_, _, _, _, rfl⟩
    rw [hq] at h hy ⊢
    have b0 := a0.toNat_lt
    have b1 := a1.toNat_lt
    have b2 := a2.toNat_lt
    have b3 := a3.toNat_lt
    have by_ := y.toNat_lt
    have h' : a0.toNat * 16777216 + a1.toNat * 65536 + a2.toNat * 256 + a3.toNat = s := h
    have inj : ∀ a : UInt8, y ≠ a → y.toNat ≠ a.toNat := fun a hn e => hn (UInt8.toNat_inj.1 e)
    match j, hj with
    | 0, _ =>
      have := inj a0 hy
      show y.toNat * 16777216 + a1.toNat * 65536 + a2.toNat * 256 + a3.toNat ≠ s
      omega
    | 1, _ =>
      have := inj a1 hy
      show a0.toNat * 16777216 + y.toNat * 65536 + a2.toNat * 256 + a3.toNat ≠ s
      omega
    | 2, _ =>
      have := inj a2 hy
      show a0.toNat * 16777216 + a1.toNat * 65536 + y.toNat * 256 + a3.toNat ≠ s
      omega
    | 3, _ =>
      have := inj a3 hy
      show a0.toNat * 16777216 + a1.toNat * 65536 + a2.toNat * 256 + y.toNat ≠ s
      omega
  unfold openE
  rw [if_neg (by omega), if_pos hne]
theorem xor_ne {x t : UInt8} (h : t ≠ 0) : x ^^^ t ≠ x := fun e => h (by
  have : x ^^^ (x ^^^ t) = x ^^^ x := by rw [e]
  simpa [← UInt8.xor_assoc] using this)
theorem blkB_ge {m : Nat} {b : Bs} {sent to : Nat} : 10 ≤ (blkB 1 m b sent to).length := by
  unfold blkB
  split
  · simp only [stoH, List.length_append, bitsN_len, List.length_replicate]; omega
  · rw [← wideF_bits]
    have h : (symF 256).2 = 7 := by decide +kernel
    simp only [blockFl, wideF, List.map_append, List.map_cons, List.map_nil, List.sum_append, List.sum_cons, List.sum_nil, h]; omega
end Go.Proofs.Zi
namespace Go.Proofs.Zi
open Go.Abs Go.Abs.S
set_option linter.unusedSimpArgs false
theorem n8_call {H : AHeap} {K : AVal → AHeap → Prop} (h : ∀ H, K (.bool true) H) : ACalls Try.prog natI 21 [] H K :=
  awake8_spec.mono fun w H' e => by subst e; exact h H'
theorem FZ.old {z n : Nat} {τ τ' : Nat → Nat} {H H' : AHeap} (f : FZ z τ H τ' H') (hn : n ≤ H.next) (hz : n ≤ z) (tz : ∀ c, c < n → τ c = 0) : Ext n H H' ∧ ∀ c, c < n → τ' c = 0 :=
  ⟨⟨f.1, fun c hc => (f.2 c (by omega) (tz c hc)).2 (by omega)⟩, fun c hc => (f.2 c (by omega) (tz c hc)).1⟩
theorem lt_pack {bg : Bool} {T : List Bool} : ∀ x ∈ hd bg ++ pack T, x < 256 := by
  intro x hx
  rcases List.mem_append.1 hx with h | h
  · cases bg <;> simp [hd] at h
    omega
  · exact pack_lt h
theorem lt_end {bg : Bool} {T : List Bool} {s : Nat} : ∀ x ∈ hd bg ++ pack T ++ fourL s, x < 256 := by
  intro x hx
  rcases List.mem_append.1 hx with h | h
  · exact lt_pack x h
  · simp only [fourL, List.mem_cons, List.not_mem_nil, or_false] at h; omega
theorem open_told {n : Nat} {H : AHeap} {v : AVal} {b d tl : Bs} {G q e : Nat} (hT : Told b d G q) (hb : b.length ≤ 10000) (hd : d.length ≤ 100000) (htl : tl.length ≤ 10) (hv : Cel n H v (byts (120 :: 1 :: (d ++ tl)))) (hs : ∀ lo, lo ≤ (d ++ tl).length + 2 → ∃ s', aSl 1 v (some (.int .i64 (lo : Int))) none none = some s' ∧ Cel n H s' (byts ((120 :: 1 :: (d ++ tl) : Bs).drop lo))) (hn : n ≤ H.next) (he : openE b tl = e) :
    ACalls Try.prog natI 24 [v, .int .i64 (b.length : Int)] H fun w H' => Ext H.next H H' ∧ ((e = 0 ∧ ∃ out, w = .tuple [out, .int .i64 0] ∧ Cel H'.next H' out (byts b)) ∨ (e ≠ 0 ∧ w = .tuple [nilS, .int .i64 (e : Int)])) := by
  have S1 : At (bitsB (d ++ tl)) 0 (bitsB d) := by rw [bitsB_append]; exact at_self _ _
  have hq1 := hT.q1
  have hq2 := hT.q2
  have hq : (q + 7) / 8 = d.length := by omega
  subst he
  exact open_ok hv hs hn (by rw [List.length_append]; omega) (by omega) (hT.most (by omega) S1) (by rw [List.length_append]; omega) (by omega) (by rw [hq, List.drop_left])
theorem law8_spec {H0 : AHeap} {v : AVal} {b : Bs} {cut at_ : Int} {t : UInt8} (hv : ArgS H0.next H0 v (byts b)) : ACalls Try.prog natI 7 [v, .int .i64 cut, .int .i64 at_, .int .u8 (t.toNat : Int)] H0 fun x _ => x = .bool true := by
  refine acalls_ofN rfl za7 rfl ?_
  refine wp_cutP [1, 1, 1, 1, 1, 1, 1, 1, 1, 1, 1, 1] ?_
  have lv := hv.cel.len
  rw [byts_len] at lv
  by_cases h1 : 10000 < b.length
  · have h1' : (10000 : Int) < (b.length : Int) := by omega
    simp only [c7, sC, sA, Int.reduceNegSucc, reduceCtorEq, Nat.reduceEqDiff, ↓reduceIte, Nat.reduceAdd, Int.reduceEq, Int.reduceLT, Int.reduceLE, Nat.reduceLT, lv, h1']
    refine n8_call fun _ => ?_
    simp only [sA, Int.reduceNegSucc, reduceCtorEq, Nat.reduceEqDiff, ↓reduceIte, Nat.reduceAdd, Int.reduceEq, Int.reduceLT, Int.reduceLE, Nat.reduceLT, fin, wRes, OptP_some]
    try trivial
  have h1' : ¬ (10000 : Int) < (b.length : Int) := by omega
  simp only [c7, sC, sA, Int.reduceNegSucc, reduceCtorEq, Nat.reduceEqDiff, ↓reduceIte, Nat.reduceAdd, Int.reduceEq, Int.reduceLT, Int.reduceLE, Nat.reduceLT, lv, h1']
  refine (znew_spec H0).mono ?_
  rintro _ H1 ⟨rfl, r0, r1, r2, g1, n1, E1⟩
  obtain ⟨Z0, tz0⟩ := newZ_ZW r0 r1 r2 g1 n1
  simp only [sA, Int.reduceNegSucc, reduceCtorEq, Nat.reduceEqDiff, ↓reduceIte, Nat.reduceAdd, Int.reduceEq, Int.reduceLT, Int.reduceLE, Nat.reduceLT, lv, wrap1 b.length (by omega)]
  refine (pick_spec cut (b.length + 1) (by omega) (by omega)).mono ?_
  rintro _ _ ⟨⟨r, hr, rfl⟩, rfl⟩
  obtain ⟨s1, m1, C1⟩ := (hv.ext E1).take (k := r) (by rw [byts_len]; omega)
  have C1' := C1.cel
  rw [byts_take] at C1'
  have e1n := E1.next
  simp only [sA, Int.reduceNegSucc, reduceCtorEq, Nat.reduceEqDiff, ↓reduceIte, Nat.reduceAdd, Int.reduceEq, Int.reduceLT, Int.reduceLE, Nat.reduceLT, m1]
  refine (zwrite_spec Z0 C1' e1n ((cel_blk C1').mono fun c hc => by omega) (by simp; omega) (Nat.zero_le _) (Nat.zero_le _) (Nat.zero_le _)).mono ?_
  rintro _ H2 ⟨x1, X1, sent1, pl1, M1, T1, rfl, ax1, eT1, tT1, hM1, hpl1, hs1, hlong1, h91, B1, ⟨τ1, K1, Z1, bx1, f1⟩, -⟩
  obtain ⟨E2, tz1⟩ := f1.old (n := H0.next) (by omega) (by omega) tz0
  simp only [List.nil_append] at *
  obtain ⟨s2, m2, C2⟩ := arg_from (hv.ext (E1.trans E2)) (a := r) (by rw [byts_len]; omega)
  rw [byts_drop] at C2
  have e2n := E2.next
  have htd : b.take r ++ b.drop r = b := List.take_append_drop r b
  simp only [sA, Int.reduceNegSucc, reduceCtorEq, Nat.reduceEqDiff, ↓reduceIte, Nat.reduceAdd, Int.reduceEq, Int.reduceLT, Int.reduceLE, Nat.reduceLT, ext_0, ext_1, m2]
  refine (zwrite_spec Z1 C2 (by omega) ((cel_blk C2).mono fun c hc => by omega) (by rw [← List.length_append, htd]; omega) hs1 h91 (by have := congrArg List.length eT1; rw [List.length_append] at this; omega)).mono ?_
  rintro _ H3 ⟨x2, X2, sent2, pl2, M2, T2, rfl, ax2, eT2, tT2, hM2, hpl2, hs2, hlong2, h92, B2, ⟨τ2, K2, Z2, bx2, f2⟩, -⟩
  rw [htd] at hs2 hlong2 B2 Z2
  obtain ⟨E3, tz2⟩ := f2.old (n := H0.next) (by omega) (by omega) tz1
  have e3n := E3.next
  have f2n := f2.1
  have k1 : Blk x1 fun c => c < H2.next ∧ τ1 c = 0 ∧ H1.next ≤ c := ax1.blk'.and bx1
  have k1' : Blk x1 fun c => c < H3.next ∧ τ2 c = 0 ∧ H1.next ≤ c := k1.mono fun c hc => ⟨by omega, (f2.2 c hc.1 hc.2.1).1, hc.2.2⟩
  have ax1 := ax1.same (H' := H3) f2n (k1.mono fun c hc => (f2.2 c hc.1 hc.2.1).2 (by omega))
  have k2' : Blk x2 fun c => c < H3.next ∧ τ2 c = 0 ∧ H2.next ≤ c := ax2.blk'.and bx2
  simp only [sA, Int.reduceNegSucc, reduceCtorEq, Nat.reduceEqDiff, ↓reduceIte, Nat.reduceAdd, Int.reduceEq, Int.reduceLT, Int.reduceLE, Nat.reduceLT, ext_0, ext_1]
  refine (zend_spec Z2 (by omega) hs2 hlong2 h92 hM2).mono ?_
  rintro _ H4 ⟨x3, rfl, cx3, n4, o4⟩
  have E4 : Ext H0.next H3 H4 := ⟨n4, fun c hc => o4 c (by omega) (tz2 c hc) (by omega)⟩
  have ax1 := ax1.same (H' := H4) n4 (k1'.mono fun c hc => o4 c hc.1 hc.2.1 (by omega))
  have ax2 := ax2.same (H' := H4) n4 (k2'.mono fun c hc => o4 c hc.1 hc.2.1 (by omega))
  have cx1 := ax1.cel1 ax1.blk'
  have cx2 := ax2.cel1 ax2.blk'
  rw [u8s_byts lt_pack] at cx1 cx2
  rw [u8s_byts lt_end] at cx3
  obtain ⟨G, q, hT⟩ := told_of (b := b) (by omega) hs2 B1 B2 eT1 eT2 tT1 tT2
  have hbl := blkB_len 1 M2.length (b := b) (sent := sent2) (to := b.length) hs2 (Nat.le_refl _)
  have hbg : 10 ≤ (blkB 1 M2.length b sent2 b.length).length := blkB_ge
  have hel : (M2 ++ endX M2.length b sent2).length ≤ 40000 ∧ 10 ≤ (M2 ++ endX M2.length b sent2).length := by
    have hf : fillN (M2.length + (blkB 1 M2.length b sent2 b.length).length) ≤ 7 := by unfold fillN; omega
    unfold endX
    simp only [List.length_append, List.length_replicate]; omega
  have q1 := congrArg List.length eT1
  have q2 := congrArg List.length eT2
  simp only [List.length_append] at q1 q2
  have hd1 : ((pack T1).map UInt8.ofNat).length ≤ 30000 := by rw [List.length_map, pack_len]; omega
  have hd2 : ((pack T2).map UInt8.ofNat).length ≤ 30000 := by rw [List.length_map, pack_len]; omega
  have hd3 : ((pack (M2 ++ endX M2.length b sent2)).map UInt8.ofNat).length ≤ 30000 ∧ 2 ≤ ((pack (M2 ++ endX M2.length b sent2)).map UInt8.ofNat).length := by rw [List.length_map, pack_len]; omega
  have g1' : (hd false ++ pack T1).map UInt8.ofNat = 120 :: 1 :: (pack T1).map UInt8.ofNat := rfl
  have g2' : (hd true ++ pack T2).map UInt8.ofNat = (pack T2).map UInt8.ofNat := rfl
  have g3' : (hd true ++ pack (M2 ++ endX M2.length b sent2) ++ fourL (adler 1 b)).map UInt8.ofNat = (pack (M2 ++ endX M2.length b sent2)).map UInt8.ofNat ++ four8 (adler 1 b) := by
    rw [List.map_append]; rfl
  rw [g1'] at cx1
  rw [g2'] at cx2
  rw [g3'] at cx3
  generalize (pack T1).map UInt8.ofNat = d1 at *
  generalize (pack T2).map UInt8.ofNat = d2 at *
  generalize (pack (M2 ++ endX M2.length b sent2)).map UInt8.ofNat = d3 at *
  have hf4 := four8_len (adler 1 b)
  simp only [sA, Int.reduceNegSucc, reduceCtorEq, Nat.reduceEqDiff, ↓reduceIte, Nat.reduceAdd, Int.reduceEq, Int.reduceLT, Int.reduceLE, Nat.reduceLT, ext_0, ext_1]
  refine (copy_spec cx1 (by simp only [List.length_cons]; omega)).mono ?_
  rintro y1 H5 ⟨A1, yb1, E5⟩
  have e5n := E5.next
  obtain ⟨y2, H6, m6, A2, n6, b6, o6⟩ := app_bytes A1 (src_cel (cx2.ext E5)) (by simp only [List.length_cons]; omega)
  have yb2 : Blk y2 (H4.next ≤ ·) := (b6 _ yb1).mono fun c hc => by omega
  have E6 : Ext H4.next H4 H6 := ⟨by omega, fun c hc => by rw [o6 c (by omega) (yb1.mono fun d hd => by omega)]; exact E5.old c hc⟩
  obtain ⟨y3, H7, m7, A3, n7, b7, o7⟩ := app_bytes A2 (src_cel (cx3.ext E6)) (by simp only [List.length_append, List.length_cons]; omega)
  have yb3 : Blk y3 (H4.next ≤ ·) := (b7 _ yb2).mono fun c hc => by omega
  have E7 : Ext H4.next H4 H7 := ⟨by omega, fun c hc => by rw [o7 c (by omega) (yb2.mono fun d hd => by omega)]; exact E6.old c hc⟩
  have dlen : (d1 ++ d2 ++ d3).length ≤ 90000 ∧ 2 ≤ (d1 ++ d2 ++ d3).length := by simp only [List.length_append]; omega
  have eall : 120 :: 1 :: d1 ++ d2 ++ (d3 ++ four8 (adler 1 b)) = 120 :: 1 :: (d1 ++ d2 ++ d3 ++ four8 (adler 1 b)) := by simp only [List.cons_append, List.append_assoc]
  rw [eall] at A3
  generalize d1 ++ d2 ++ d3 = d at *
  have E07 : Ext H0.next H0 H7 := (((E1.trans E2).trans E3).trans E4).trans (E7.less (by omega))
  have e07 := E07.next
  have C7 : Cel H7.next H7 y3 (byts (120 :: 1 :: (d ++ four8 (adler 1 b)))) := A3.cel1 A3.blk'
  have hal : (120 :: 1 :: (d ++ four8 (adler 1 b)) : Bs).length = d.length + 6 := by simp only [List.length_cons, List.length_append, hf4]
  rw [hal] at A3
  have hkl : (d ++ four8 (adler 1 b)).length = d.length + 4 := by rw [List.length_append, hf4]
  simp only [sA, Int.reduceNegSucc, reduceCtorEq, Nat.reduceEqDiff, ↓reduceIte, Nat.reduceAdd, Int.reduceEq, Int.reduceLT, Int.reduceLE, Nat.reduceLT, m6, m7, lv]
  refine (open_told hT (by omega) (by omega) (by omega) C7 (app_hs A3 (by omega)) (Nat.le_refl _) (open0 b)).mono ?_
  rintro _ H8 ⟨E8, ⟨-, out, rfl, cO⟩ | ⟨h, -⟩⟩
  case inr => exact absurd rfl h
  have e8n := E8.next
  have ly3 := C7.len
  rw [byts_len, hal] at ly3
  have E08 : Ext H0.next H0 H8 := E07.trans (E8.less (by omega))
  have cv := (hv.ext E08).cel
  have w0 : IntKind.i64.wrap (0 + 0) = 0 := rfl
  have w00 : IntKind.i64.wrap 0 = 0 := rfl
  have hl8 : ¬ ((d.length + 6 : Nat) : Int) < 8 := by omega
  simp only [sA, Int.reduceNegSucc, reduceCtorEq, Nat.reduceEqDiff, ↓reduceIte, Nat.reduceAdd, Int.reduceEq, Int.reduceLT, Int.reduceLE, Nat.reduceLT, ext_0, ext_1, w0, w00, ly3, hl8, Int.add_zero]
  refine (same_spec cO cv).mono ?_
  rintro _ _ ⟨rfl, rfl⟩
  have wd : IntKind.i64.wrap (((d.length + 6 : Nat) : Int) - 1) = ((d.length + 5 : Nat) : Int) := by rw [IntKind.wrap_i64]; omega
  have A8 := A3.same (H' := H8) e8n (A3.blk'.mono fun c hc => E8.old c hc)
  obtain ⟨y6, m10, C10, hs10⟩ := AppN.to_from A8 (m := d.length + 5) (by omega)
  have et : (120 :: 1 :: (d ++ four8 (adler 1 b)) : Bs).take (d.length + 5) = 120 :: 1 :: (d ++ (four8 (adler 1 b)).take 3) := by
    rw [show d.length + 5 = d.length + 3 + 1 + 1 by omega, List.take_succ_cons, List.take_succ_cons, List.take_append, show d.length + 3 - d.length = 3 by omega, List.take_of_length_le (by omega)]
  rw [byts_take, et] at C10
  rw [byts_take, et] at hs10
  simp only [sA, Int.reduceNegSucc, reduceCtorEq, Nat.reduceEqDiff, ↓reduceIte, Nat.reduceAdd, Int.reduceEq, Int.reduceLT, Int.reduceLE, Nat.reduceLT, ly3, hl8, wd, m10, lv]
  refine (open_told hT (by omega) (by omega) (by rw [List.length_take]; omega) C10 (fun lo hlo => ?_) (Nat.le_refl _) (open12 b)).mono ?_
  · rw [List.length_append, List.length_take] at hlo
    obtain ⟨s', q1, q2⟩ := hs10 lo (by omega)
    rw [byts_drop] at q2
    exact ⟨s', q1, q2⟩
  rintro _ H9 ⟨E9, ⟨h, -⟩ | ⟨-, rfl⟩⟩
  case inl => exact absurd h (by omega)
  have e9n := E9.next
  have E79 : Ext H7.next H7 H9 := E8.trans (E9.less (by omega))
  simp only [sA, Int.reduceNegSucc, reduceCtorEq, Nat.reduceEqDiff, ↓reduceIte, Nat.reduceAdd, Int.reduceEq, Int.reduceLT, Int.reduceLE, Nat.reduceLT, ext_0, ext_1]
  refine (copy_spec (C7.ext E79) (by rw [hal]; omega)).mono ?_
  rintro y7 Ha ⟨Aa, yba, Ea⟩
  rw [hal] at Aa
  have ean := Ea.next
  have bld := build1 (.int .u8 0) Ha (x := .int .u8 (t.toNat : Int)) rfl
  obtain ⟨y8, Hb, mb, Ab, nb, bb, ob⟩ := Aa.pushB (m := 1) (xs := [.int .u8 (t.toNat : Int)]) rfl rfl (by omega) (bytes := 1) (by omega) (by omega)
  have Eb : Ext H9.next H9 Hb := ⟨by omega, fun c hc => by rw [ob c (by omega) (yba.mono fun d hd => by omega)]; exact Ea.old c hc⟩
  have eb : byts (120 :: 1 :: (d ++ four8 (adler 1 b))) ++ [.int .u8 (t.toNat : Int)] = byts (120 :: 1 :: (d ++ (four8 (adler 1 b) ++ [t]))) := by
    have : [AVal.int .u8 (t.toNat : Int)] = byts [t] := rfl
    rw [this, ← byts_append, List.cons_append, List.cons_append, List.append_assoc]
  rw [eb] at Ab
  have mb' : aAppend 1 1 (Ha.push (.cells [.int .u8 (t.toNat : Int)] 0 false)) y7 (oneS Ha) = some (y8, Hb) := mb
  simp only [sA, Int.reduceNegSucc, reduceCtorEq, Nat.reduceEqDiff, ↓reduceIte, Nat.reduceAdd, Int.reduceEq, Int.reduceLT, Int.reduceLE, Nat.reduceLT, bld, mb', lv]
  refine (open_told hT (by omega) (by omega) (by rw [List.length_append, hf4]; simp) (Ab.cel1 Ab.blk') (app_hs Ab (by rw [List.length_append, List.length_append, hf4]; simp)) (Nat.le_refl _) (open10 b t)).mono ?_
  rintro _ Hc ⟨Ec, ⟨h, -⟩ | ⟨-, rfl⟩⟩
  case inl => exact absurd h (by omega)
  have ecn := Ec.next
  have ebn := Eb.next
  have E7c : Ext H7.next H7 Hc := E79.trans ((Eb.less (by omega)).trans (Ec.less (by omega)))
  have e7c := E7c.next
  simp only [sA, Int.reduceNegSucc, reduceCtorEq, Nat.reduceEqDiff, ↓reduceIte, Nat.reduceAdd, Int.reduceEq, Int.reduceLT, Int.reduceLE, Nat.reduceLT, ext_0, ext_1]
  simp only [c7, restP, hold_eq, sA, Int.reduceNegSucc, reduceCtorEq, Nat.reduceEqDiff, ↓reduceIte, Nat.reduceAdd, Int.reduceEq, Int.reduceLT, Int.reduceLE, Nat.reduceLT]
  by_cases ht : t = 0
  · subst ht
    have h0 : ((0 : UInt8).toNat : Int) = 0 := rfl
    simp only [sA, Int.reduceNegSucc, reduceCtorEq, Nat.reduceEqDiff, ↓reduceIte, Nat.reduceAdd, Int.reduceEq, Int.reduceLT, Int.reduceLE, Nat.reduceLT, h0]
    refine n8_call fun _ => ?_
    simp only [sA, Int.reduceNegSucc, reduceCtorEq, Nat.reduceEqDiff, ↓reduceIte, Nat.reduceAdd, Int.reduceEq, Int.reduceLT, Int.reduceLE, Nat.reduceLT, fin, wRes, OptP_some]
    try trivial
  have ht' : ¬ (t.toNat : Int) = 0 := fun e => ht (UInt8.toNat_inj.1 (by simpa using e))
  simp only [sA, Int.reduceNegSucc, reduceCtorEq, Nat.reduceEqDiff, ↓reduceIte, Nat.reduceAdd, Int.reduceEq, Int.reduceLT, Int.reduceLE, Nat.reduceLT, ht', ly3, wd]
  refine (pick_spec at_ 4 (by omega) (by omega)).mono ?_
  rintro _ _ ⟨⟨j, hj, rfl⟩, rfl⟩
  have wj : IntKind.i64.wrap (((d.length + 5 : Nat) : Int) - (j : Int)) = ((d.length + 5 - j : Nat) : Int) := by rw [IntKind.wrap_i64]; omega
  have Ac := A3.same (H' := Hc) e7c (A3.blk'.mono fun c hc => E7c.old c hc)
  obtain ⟨x, hx⟩ : ∃ x, x = (four8 (adler 1 b)).getD (3 - j) 0 := ⟨_, rfl⟩
  obtain ⟨a, Hd, i1, i2, i3, Ad, nd, od⟩ := Ac.write (i := d.length + 5 - j) (by omega) (x := .int .u8 ((x ^^^ t).toNat : Int)) rfl
  have hget : (120 :: 1 :: (d ++ four8 (adler 1 b)) : Bs)[d.length + 5 - j]? = some x := by
    rw [show d.length + 5 - j = d.length + (3 - j) + 1 + 1 by omega, List.getElem?_cons_succ, List.getElem?_cons_succ, List.getElem?_append_right (by omega), Nat.add_sub_cancel_left, hx, List.getD_eq_getElem?_getD, List.getElem?_eq_getElem (by omega)]; rfl
  have lx := i2 _ (byts_get hget)
  have hset : (byts (120 :: 1 :: (d ++ four8 (adler 1 b)))).set (d.length + 5 - j) (.int .u8 ((x ^^^ t).toNat : Int)) = byts (120 :: 1 :: (d ++ (four8 (adler 1 b)).set (3 - j) (x ^^^ t))) := by
    rw [show d.length + 5 - j = d.length + (3 - j) + 1 + 1 by omega]
    show AVal.int .u8 _ :: AVal.int .u8 _ :: (byts (d ++ four8 (adler 1 b))).set (d.length + (3 - j)) _ = AVal.int .u8 _ :: AVal.int .u8 _ :: byts _
    rw [byts_append, List.set_append_right _ _ (by rw [byts_len]; omega), byts_len, Nat.add_sub_cancel_left, byts_append]
    congr 3
    simp [byts]
  rw [hset] at Ad
  have hxl := x.toNat_lt
  have htl := t.toNat_lt
  have xo : aBin .xor (.int .u8 (x.toNat : Int)) (.int .u8 (t.toNat : Int)) = some (.int .u8 ((x ^^^ t).toNat : Int)) := by
    have := bin_xorU .u8 (by simp) (a := x.toNat) (b := t.toNat) (by simp only [IntKind.bits]; omega) (by simp only [IntKind.bits]; omega)
    rw [this, UInt8.toNat_xor]
  simp only [sA, Int.reduceNegSucc, reduceCtorEq, Nat.reduceEqDiff, ↓reduceIte, Nat.reduceAdd, Int.reduceEq, Int.reduceLT, Int.reduceLE, Nat.reduceLT, wj, i1, lx, xo, i3, lv]
  refine (open_told hT (by omega) (by omega) (by rw [List.length_set, hf4]; omega) (Ad.cel1 Ad.blk') (app_hs Ad (by rw [List.length_append, List.length_set, hf4])) (Nat.le_refl _) (open11 b (j := 3 - j) (by omega) (by rw [← hx]; exact xor_ne ht))).mono ?_
  rintro _ He ⟨Ee, ⟨h, -⟩ | ⟨-, rfl⟩⟩
  case inl => exact absurd h (by omega)
  simp only [sA, Int.reduceNegSucc, reduceCtorEq, Nat.reduceEqDiff, ↓reduceIte, Nat.reduceAdd, Int.reduceEq, Int.reduceLT, Int.reduceLE, Nat.reduceLT, ext_0, ext_1]
  refine n8_call fun _ => ?_
  simp only [sA, Int.reduceNegSucc, reduceCtorEq, Nat.reduceEqDiff, ↓reduceIte, Nat.reduceAdd, Int.reduceEq, Int.reduceLT, Int.reduceLE, Nat.reduceLT, fin, wRes, OptP_some]
  try trivial
end Go.Proofs.Zi
namespace Go.Abs
open Go.ChangeShapes Go.WideShapes Go.ChangeAt Go.RowKit
section
variable {H : Type} {enc : TypeId × Value → H} {P : Program}
theorem trodAll_below {W W' : World} {base : Nat} {sp : Nat → Bool} {held : Bool} (hb : Below W.heap.size W W') : ∀ {ts : List TypeId} {vs : List Value} {ds : List (DataW H)} {ps : List MemPlace},
    DataW.TrodAll enc P W base sp held ts vs ds ps → DataW.TrodAll enc P W' base sp held ts vs ds ps
  | [], [], [], _, h => h
  | _ :: _, _ :: _, _ :: _, _, ⟨p, q, ⟨n, h1⟩, h2, e⟩ => by
    refine ⟨p, q, ⟨n, DataW.trod_carry n _ _ _ h1 fun x hx => hb.same (DataW.trod_lt n _ _ _ h1 x hx)⟩, trodAll_below hb h2, e⟩
theorem trodVars_below {W W' : World} {sp : Nat → Bool} {gs : List (DataW H)} {q : List MemPlace} (h : DataW.TrodVars enc P W sp [] gs q) : DataW.TrodVars enc P W' sp [] gs q := by
  obtain ⟨rfl, rfl⟩ := trodVars_none h
  exact h
theorem law_post {f : Func} {s : ChangeSpec} {apart : Bool} {W W' : World} {args : Array Value} {ds gs : List (DataW H)} {before : List MemPlace} {tb : TypeId}
    (hl : laidOutB P = true) (hm : mapsRowed P = true)
    (hz : ((List.range P.types.size).all fun t => match P.underlying t with | some (.slice e) => decide (0 < P.cellsOf e) | _ => true) = true)
    (hts : (f.params.toList.all fun t => decide (t < P.types.size)) = true) (hv : s.vars = [])
    (hW : DataW.Whole enc P f.params.toList s.vars apart W args.toList ds gs before)
    (hfn : s.fn H (ds ++ gs) = { results := [.lit (.bool true)], args := ds }) (hr : f.resultTypes = #[tb]) (ht : P.underlying tb = some .bool) (hb : Below W.heap.size W W') :
    s.post enc P f apart true false false W args (.bool true) W' := by
  have hlt : ∀ p ∈ before, p.block < W.heap.size := fun p hp => hW.lt p hp
  have hW0 := hW
  obtain ⟨p, q, hA, hV, rfl, hfz, hnd⟩ := hW
  rw [hv] at hV
  obtain ⟨rfl, rfl⟩ := trodVars_none hV
  have hT : ∀ t ∈ f.params.toList, t < P.types.size := fun t ht => by simpa using List.all_eq_true.1 hts t ht
  refine ⟨ds, [], p ++ [], [], p, [], hW0, ?_, ?_, ?_, World.keptBut_mono (fun x hx => ⟨hx, by simpa using hx⟩) (hb.frame (· ∈ p ++ [])), fun h => by simp at h⟩
  · rw [hfn, hr]
    exact trodAll_cons_mk (shut_bool ht _) trodAll_mk0
  · rw [hfn]
    refine trodAll_below hb (DataW.TrodAll.respare (kids_rows hl hm) (slices_full_of P hz) hT hA fun x hx => ?_)
    simpa using hlt x (by simpa using hx)
  · rw [hfn, hv]
    exact trodVars_below (W := W) hV
end
end Go.Abs
