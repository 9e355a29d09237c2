/- Part of a proof (I53 I54 I56 I55 L1); no condition. -/
import Derived.WalkKit
import Derived.Below
import Derived.ChangeSame
import Derived.ReadAgain
import Derived.OpenShut
import Derived.ProofKit
import Derived.Test.YtbighbbpahngiaaP7
import Derived.Test.YtbighbbpahngiaaP12
set_option linter.unusedSimpArgs false
set_option linter.unusedVariables false
set_option linter.unnecessarySimpa false
namespace Go.Proofs.Zi
open Go.Abs Go.Abs.S
set_option linter.unusedSimpArgs false
def At (S : List Bool) (p : Nat) (X : List Bool) : Prop := p ≤ S.length ∧ X <+: S.drop p
theorem At.app {S : List Bool} {p : Nat} {X Y : List Bool} (h : At S p (X ++ Y)) : At S p X ∧ At S (p + X.length) Y := by
  obtain ⟨h1, t, h2⟩ := h
  have hl : (X ++ Y ++ t).length = S.length - p := by rw [h2, List.length_drop]
  simp only [List.length_append] at hl
  refine ⟨⟨h1, Y ++ t, by rw [← h2, List.append_assoc]⟩, by omega, t, ?_⟩
  rw [← List.drop_drop, ← h2, List.append_assoc, List.drop_left]
theorem At.len {S : List Bool} {p : Nat} {X : List Bool} (h : At S p X) : p + X.length ≤ S.length := by
  obtain ⟨h1, t, h2⟩ := h
  have hl : (X ++ t).length = S.length - p := by rw [h2, List.length_drop]
  simp only [List.length_append] at hl
  omega
theorem At.take {S : List Bool} {p : Nat} {X : List Bool} (h : At S p X) : (S.drop p).take X.length = X := by
  obtain ⟨h1, t, h2⟩ := h
  rw [← h2, List.take_left]
theorem At.get {S : List Bool} {p j : Nat} {X : List Bool} (h : At S p X) {c : Bool} (hj : X[j]? = some c) : S[p + j]? = some c := by
  obtain ⟨h1, t, h2⟩ := h
  rw [← List.getElem?_drop, ← h2, List.getElem?_append_left (List.getElem?_eq_some_iff.1 hj).1, hj]
theorem getM_at {S : List Bool} {p v k : Nat} (h : At S p (bitsN v k)) (hv : v < 2 ^ k) : getM k S p = .ok v (p + k) := by
  have h1 := h.len
  have h2 := h.take
  rw [bitsN_len] at h1 h2
  unfold getM
  rw [if_pos h1, h2, natOf_bits hv]
theorem symM_at {cnt syms : List Nat} {S X : List Bool} {p : Nat} (h : At S p X) : ∀ (f long code first at_ j t e : Nat), symM cnt syms X f long code first at_ j = .ok t e → symM cnt syms S f long code first at_ (p + j) = .ok t (p + e)
  | 0, _, _, _, _, _, _, _, hx => by cases hx
  | f + 1, long, code, first, at_, j, t, e, hx => by
    unfold symM at hx ⊢
    cases hc : X[j]? with
    | none => rw [hc] at hx; cases hx
    | some c =>
      rw [hc] at hx
      rw [h.get hc]
      simp only at hx ⊢
      obtain ⟨cc, hcc⟩ : ∃ x, x = 2 * code + (if c then 1 else 0) := ⟨_, rfl⟩
      rw [← hcc] at hx ⊢
      by_cases c1 : cc < 2 * first
      · rw [if_pos c1] at hx; cases hx
      rw [if_neg c1] at hx ⊢
      by_cases c2 : cc - 2 * first < cnt.getD long 0
      · rw [if_pos c2] at hx ⊢
        cases hs : syms[at_ + (cc - 2 * first)]? with
        | none => rw [hs] at hx; cases hx
        | some sy =>
          rw [hs] at hx
          injection hx with h1 h2
          subst h1 h2
          rfl
      · rw [if_neg c2] at hx ⊢
        exact symM_at h f _ _ _ _ _ _ _ hx
theorem nearM_at {S : List Bool} {p s : Nat} (hs : s < 286) (h : At S p (fixB s)) : nearM S p = .ok s (p + (fixB s).length) := by
  have hn := all_range near_sym hs
  cases e : symM (cntT nearL) (symT nearL) (fixB s) 15 1 0 0 0 0 with
  | ok t q =>
    rw [e] at hn
    simp only [Bool.and_eq_true, Nat.beq_eq] at hn
    have := symM_at h _ _ _ _ _ _ _ _ e
    rw [hn.1, hn.2] at this
    exact this
  | bad _ => rw [e] at hn; cases hn
  | unk => rw [e] at hn; cases hn
theorem farM_at {S : List Bool} {p s : Nat} (hs : s < 30) (h : At S p (bitsN s 5).reverse) : farM S p = .ok s (p + 5) := by
  have hn := all_range far_sym hs
  cases e : symM (cntT farL) (symT farL) (bitsN s 5).reverse 15 1 0 0 0 0 with
  | ok t q =>
    rw [e] at hn
    simp only [Bool.and_eq_true, Nat.beq_eq] at hn
    have := symM_at h _ _ _ _ _ _ _ _ e
    rw [hn.1, hn.2] at this
    exact this
  | bad _ => rw [e] at hn; cases hn
  | unk => rw [e] at hn; cases hn
theorem len_tab : (List.range 259).all (fun n => Nat.blt n 3 || (if n = 258 then Nat.beq (find lenL n) 28 && Nat.beq (lenE.getD (find lenL n) 0) 0 else Nat.blt (find lenL n) 28 && (if find lenL n < 4 then Nat.beq n (3 + find lenL n) && Nat.beq (lenE.getD (find lenL n) 0) 0 else Nat.beq (lenE.getD (find lenL n) 0) (find lenL n / 4 - 1) && (Nat.beq n (3 + ((4 + find lenL n % 4) * 2 ^ (find lenL n / 4 - 1) + (n - lenL.getD (find lenL n) 0))) && Nat.blt (n - lenL.getD (find lenL n) 0) (2 ^ lenE.getD (find lenL n) 0))))) = true := by decide +kernel
theorem span_at {S : List Bool} {p sp gr v : Nat} (hg : ¬ sp < gr) (h : At S p (bitsN v (sp / gr - 1))) (hv : v < 2 ^ (sp / gr - 1)) : spanM sp gr S p = .ok ((gr + sp % gr) * 2 ^ (sp / gr - 1) + v) (p + (sp / gr - 1)) := by
  have h1 := h.len
  have h2 := h.take
  rw [bitsN_len] at h1 h2
  unfold spanM
  rw [if_neg hg, if_pos h1, h2, natOf_bits hv]
theorem len_at {S : List Bool} {p n : Nat} (h1 : 3 ≤ n) (h2 : n ≤ 258) (h : At S p (bitsN (n - lenL.getD (find lenL n) 0) (lenE.getD (find lenL n) 0))) : find lenL n ≤ 28 ∧ lenM (find lenL n) S p = .ok n (p + lenE.getD (find lenL n) 0) := by
  have hn := all_range len_tab (i := n) (by omega)
  have hn3 : Nat.blt n 3 = false := Bool.eq_false_iff.2 (by rw [ne_eq, Nat.blt_eq]; omega)
  rw [hn3, Bool.false_or] at hn
  generalize find lenL n = sp at *
  by_cases he : n = 258
  · rw [if_pos he] at hn
    simp only [Bool.and_eq_true, Nat.beq_eq] at hn
    obtain ⟨rfl, h0⟩ := hn
    refine ⟨Nat.le_refl _, ?_⟩
    rw [h0, he]; rfl
  · rw [if_neg he] at hn
    simp only [Bool.and_eq_true, Nat.blt_eq] at hn
    obtain ⟨hs, hn⟩ := hn
    refine ⟨by omega, ?_⟩
    unfold lenM
    rw [if_pos hs]
    by_cases h4 : sp < 4
    · rw [if_pos h4] at hn
      simp only [Bool.and_eq_true, Nat.beq_eq] at hn
      obtain ⟨e, h0⟩ := hn
      have : spanM sp 4 S p = .ok sp p := by unfold spanM; rw [if_pos h4]
      rw [this, h0]
      simp only [SR.bind]
      rw [← e]; rfl
    · rw [if_neg h4] at hn
      simp only [Bool.and_eq_true, Nat.beq_eq, Nat.blt_eq] at hn
      obtain ⟨e1, e2, e3⟩ := hn
      rw [e1] at h e3 ⊢
      rw [span_at h4 h e3]
      simp only [SR.bind]
      rw [← e2]
theorem dis_tab2 : (List.range 30).all (fun sp => if sp < 2 then Nat.beq (disL.getD sp 0) (1 + sp) && Nat.beq (disE.getD sp 0) 0 else Nat.beq (disE.getD sp 0) (sp / 2 - 1) && Nat.beq (disL.getD sp 0) (1 + (2 + sp % 2) * 2 ^ (sp / 2 - 1))) = true := by decide +kernel
theorem findF_le (l : List Nat) (n : Nat) : ∀ (f k : Nat), l.getD k 0 ≤ n → l.getD (findF l n f k) 0 ≤ n
  | 0, k, h => h
  | f + 1, k, h => by
    unfold findF
    split
    · rename_i hk; exact findF_le l n f (k + 1) hk.2
    · exact h
theorem dis_at {S : List Bool} {p n : Nat} (h1 : 1 ≤ n) (h2 : n ≤ 32768) (h : At S p (bitsN (n - disL.getD (find disL n) 0) (disE.getD (find disL n) 0))) : find disL n < 30 ∧ spanM (find disL n) 2 S p = .ok (n - 1) (p + disE.getD (find disL n) 0) := by
  have hle : disL.getD (find disL n) 0 ≤ n := findF_le disL n _ 0 h1
  obtain ⟨_, q2, q3, q4⟩ := dis_ok h1 h2
  simp only [disR] at q2 q3 q4
  rw [q2] at q4
  have q5 : n - disL.getD (find disL n) 0 < 2 ^ disE.getD (find disL n) 0 := by
    simp only [fldOk, Bool.and_eq_true, Nat.blt_eq] at q4; exact q4.1
  have ht := all_range dis_tab2 (i := find disL n) (by omega)
  generalize find disL n = sp at *
  refine ⟨by omega, ?_⟩
  by_cases hs : sp < 2
  · rw [if_pos hs] at ht
    simp only [Bool.and_eq_true, Nat.beq_eq] at ht
    rw [ht.2] at q5 ⊢
    rw [ht.1] at hle q5
    unfold spanM
    rw [if_pos hs]
    congr 1
    omega
  · rw [if_neg hs] at ht
    simp only [Bool.and_eq_true, Nat.beq_eq] at ht
    rw [ht.1] at h q5 ⊢
    rw [span_at hs h q5]
    congr 1
    have := ht.2
    omega
theorem copyB_at {b : Bs} {back : Nat} : ∀ (m i pos : Nat), i - pos = back → pos < i → i + m ≤ b.length → (∀ j, j < m → b[pos + j]? = b[i + j]?) → copyB back m (b.take i) = b.take (i + m)
  | 0, _, _, _, _, _, _ => rfl
  | m + 1, i, pos, hb, hp, hl, he => by
    have hx : (b.take i).getD ((b.take i).length - back) 0 = b.getD i 0 := by
      have h0 := he 0 (by omega)
      rw [Nat.add_zero, Nat.add_zero] at h0
      rw [List.length_take, List.getD_eq_getElem?_getD, List.getD_eq_getElem?_getD, show min i b.length - back = pos by omega, List.getElem?_take_of_lt hp, h0]
    have e : b.take i ++ [b.getD i 0] = b.take (i + 1) := by
      rw [List.take_add_one, List.getD_eq_getElem?_getD, List.getElem?_eq_getElem (by omega : i < b.length)]; rfl
    unfold copyB
    rw [hx, e, copyB_at m (i + 1) (pos + 1) (by omega) (by omega) (by omega) fun j hj => by
      have := he (j + 1) (by omega)
      rw [show pos + 1 + j = pos + (j + 1) by omega, show i + 1 + j = i + (j + 1) by omega]; exact this]
    congr 1; omega
theorem toks_at {S : List Bool} {b : Bs} {to most : Nat} (hto : to ≤ b.length) (hm : to ≤ most) (h2 : to ≤ 20000) : ∀ (f i p F : Nat), to - i ≤ f → i ≤ to → At S p ((toksF b to f i).flatMap tokB ++ fixB 256) → (toksF b to f i).length < F → symsM S most F (b.take i) p = .ok (b.take to) (p + ((toksF b to f i).flatMap tokB ++ fixB 256).length)
  | f, i, p, 0, _, _, _, hF => by omega
  | 0, i, p, F + 1, h1, hi, h, _ => by
    obtain rfl : i = to := by omega
    simp only [toksF, List.flatMap_nil, List.nil_append] at h ⊢
    unfold symsM
    rw [nearM_at (by omega) h]
    rfl
  | f + 1, i, p, F + 1, h1, hi, h, hF => by
    unfold toksF at h hF ⊢
    by_cases hlt : i < to
    · rw [if_pos hlt] at h hF ⊢
      by_cases h3 : 3 ≤ (matchF b i to).1
      · rw [if_pos h3] at h hF ⊢
        have hb := best_spec b i (mlen i to) i (0, 0) (Nat.le_refl _) (.inl rfl)
        have hmf : best b i (mlen i to) i (0, 0) = matchF b i to := rfl
        rw [hmf] at hb
        obtain ⟨n, hn⟩ : ∃ n, n = (matchF b i to).1 := ⟨_, rfl⟩
        obtain ⟨pos, hpos⟩ : ∃ n, n = (matchF b i to).2 := ⟨_, rfl⟩
        rw [← hn, ← hpos] at hb
        rw [← hn] at h3
        rw [← hn, ← hpos] at h hF ⊢
        have hb' : pos < i ∧ n = run b pos i (mlen i to) := by
          rcases hb with hb | hb
          · omega
          · exact hb
        have hrl := run_le b pos i (mlen i to)
        have hml : mlen i to ≤ 258 ∧ mlen i to ≤ to - i := by unfold mlen; omega
        rw [List.flatMap_cons, List.append_assoc] at h ⊢
        have htb : tokB ⟨n, i - pos, 0⟩ = lenB n ++ disB (i - pos) := by unfold tokB; rw [if_neg (by simp only; omega)]
        rw [htb] at h ⊢
        obtain ⟨ha, hrest⟩ := h.app
        obtain ⟨hl, hd⟩ := ha.app
        unfold lenB at hl
        obtain ⟨hl1, hl2⟩ := hl.app
        unfold disB at hd
        obtain ⟨hd1, hd2⟩ := hd.app
        obtain ⟨k1, k2⟩ := len_at h3 (by omega) hl2
        have hls : (lenB n).length = (fixB (257 + find lenL n)).length + lenE.getD (find lenL n) 0 := by unfold lenB; rw [List.length_append, bitsN_len]
        have h5 : (bitsN (find disL (i - pos)) 5).reverse.length = 5 := by rw [List.length_reverse, bitsN_len]
        rw [h5] at hd2
        obtain ⟨k3, k4⟩ := dis_at (n := i - pos) (by omega) (by omega) hd2
        have hds : (disB (i - pos)).length = 5 + disE.getD (find disL (i - pos)) 0 := by unfold disB; rw [List.length_append, bitsN_len, h5]
        have hq : p + (fixB (257 + find lenL n)).length + lenE.getD (find lenL n) 0 = p + (lenB n).length := by rw [hls]; omega
        have hMR : matchR S most n (b.take i) (p + (lenB n).length) = .ok (b.take (i + n)) (p + (lenB n).length + (disB (i - pos)).length) := by
          unfold matchR
          rw [farM_at k3 hd1]
          simp only [SR.bind]
          rw [if_neg (by omega), k4]
          simp only
          rw [if_neg (by rw [List.length_take]; omega), if_neg (by rw [List.length_take]; omega), show 1 + (i - pos - 1) = i - pos by omega, copyB_at n i pos rfl hb'.1 (by omega) fun j hj => run_at b (mlen i to) pos i j (by omega), hds]
          congr 1; omega
        have hMM : matchM S most (257 + find lenL n - 257) (b.take i) (p + (fixB (257 + find lenL n)).length) = .ok (b.take (i + n)) (p + (lenB n).length + (disB (i - pos)).length) := by
          unfold matchM
          rw [show 257 + find lenL n - 257 = find lenL n by omega, k2]
          simp only [SR.bind]
          rw [hq, hMR]
        unfold symsM
        rw [nearM_at (by omega) hl1]
        simp only [SR.bind]
        rw [if_neg (by omega), if_neg (by omega), if_pos (by omega), hMM]
        simp only
        have hp : p + (lenB n ++ disB (i - pos)).length = p + (lenB n).length + (disB (i - pos)).length := by rw [List.length_append]; omega
        rw [hp] at hrest
        rw [toks_at hto hm h2 f (i + n) _ F (by omega) (by omega) hrest (by simp only [List.length_cons] at hF; omega)]
        have hz : ∀ (a c x : Nat), a = c → (SR.ok (b.take to) a : SR Bs) = SR.ok (b.take to) c := fun a c _ e => by rw [e]
        exact hz _ _ 0 (by simp only [List.length_append]; omega)
      · rw [if_neg h3] at h hF ⊢
        rw [List.flatMap_cons, List.append_assoc] at h ⊢
        have hbl := (b.getD i 0).toNat_lt
        have htb : tokB ⟨0, 0, b.getD i 0⟩ = fixB (b.getD i 0).toNat := by unfold tokB; rw [if_pos rfl]
        rw [htb] at h ⊢
        obtain ⟨ha, hrest⟩ := h.app
        have e : b.take i ++ [b.getD i 0] = b.take (i + 1) := by
          rw [List.take_add_one, List.getD_eq_getElem?_getD, List.getElem?_eq_getElem (by omega : i < b.length)]; rfl
        unfold symsM
        rw [nearM_at (by omega) ha]
        simp only [SR.bind]
        have hu : UInt8.ofNat (b.getD i 0).toNat = b.getD i 0 := by simp
        rw [if_pos (by omega), if_neg (by rw [List.length_take]; omega), hu, e, toks_at hto hm h2 f (i + 1) _ F (by omega) (by omega) hrest (by simp only [List.length_cons] at hF; omega)]
        have hz : ∀ (a c x : Nat), a = c → (SR.ok (b.take to) a : SR Bs) = SR.ok (b.take to) c := fun a c _ e => by rw [e]
        exact hz _ _ 0 (by simp only [List.length_append]; omega)
    · rw [if_neg hlt] at h hF ⊢
      obtain rfl : i = to := by omega
      simp only [List.flatMap_nil, List.nil_append] at h ⊢
      unfold symsM
      rw [nearM_at (by omega) h]
      rfl
theorem toksF_len (b : Bs) (to : Nat) : ∀ (f i : Nat), (toksF b to f i).length ≤ f
  | 0, _ => Nat.le_refl _
  | f + 1, i => by
    unfold toksF
    split
    · split
      · have := toksF_len b to f (i + (matchF b i to).1); simp only [List.length_cons]; omega
      · have := toksF_len b to f (i + 1); simp only [List.length_cons]; omega
    · simp
theorem bytesM_at {S : List Bool} : ∀ (l o : Bs) (q : Nat), At S q (l.flatMap fun x => bitsN x.toNat 8) → bytesM S l.length o q = .ok (o ++ l) (q + 8 * l.length)
  | [], o, q, _ => by simp [bytesM]
  | x :: l, o, q, h => by
    rw [List.flatMap_cons] at h
    obtain ⟨h1, h2⟩ := h.app
    rw [bitsN_len] at h2
    have := x.toNat_lt
    show bytesM S (l.length + 1) o q = _
    unfold bytesM
    rw [getM_at h1 (by omega)]
    simp only [SR.bind]
    have hu : UInt8.ofNat x.toNat = x := by simp
    rw [hu, bytesM_at l _ _ h2, List.append_assoc]
    simp only [List.length_cons, List.cons_append, List.nil_append]
    congr 1; omega
theorem block_at {S : List Bool} {b : Bs} {ln m sent to p most F : Nat} (hln : ln ≤ 1) (hst : sent ≤ to) (hto : to ≤ b.length) (hb : b.length ≤ 20000) (hm : to ≤ most) (hF : 20000 < F) (hp : p % 8 = m % 8) (h : At S p (blkB ln m b sent to)) : blockM S most F (b.take sent) p = .ok (b.take to, ln == 0) (p + (blkB ln m b sent to).length) := by
  have hfill : fillN (m + 3) = fillN (p + 3) := by unfold fillN; omega
  have hsl := segB_len hst hto
  unfold blkB at h ⊢
  split at h
  · rename_i hc
    rw [if_pos hc] at ⊢
    have e : stoH ln m (to - sent) ++ fldBits (byFl (segB b sent to)) = bitsN ln 1 ++ (bitsN 0 2 ++ (List.replicate (fillN (p + 3)) false ++ (bitsN (to - sent) 16 ++ (bitsN (65535 - (to - sent)) 16 ++ (segB b sent to).flatMap fun x => bitsN x.toNat 8)))) := by
      rw [byFl_bits]; simp only [stoH, List.append_assoc, hfill]
    rw [e] at h ⊢
    obtain ⟨h1, h⟩ := h.app
    obtain ⟨h2, h⟩ := h.app
    obtain ⟨h3, h⟩ := h.app
    obtain ⟨h4, h⟩ := h.app
    obtain ⟨h5, h6⟩ := h.app
    simp only [bitsN_len, List.length_replicate] at h2 h4 h5 h6
    have hS : storedM S most (b.take sent) (p + 1 + 2) = .ok (b.take to) (p + 1 + 2 + fillN (p + 3) + 16 + 16 + 8 * (to - sent)) := by
      unfold storedM
      rw [show p + 1 + 2 + fillN (p + 1 + 2) = p + 1 + 2 + fillN (p + 3) from rfl, getM_at h4 (by omega)]
      simp only [SR.bind]
      rw [getM_at h5 (by omega)]
      simp only
      rw [if_neg (by omega), if_neg (by rw [List.length_take]; omega)]
      have := bytesM_at (segB b sent to) (b.take sent) _ h6
      rw [hsl] at this
      rw [this]
      congr 1
      unfold segB
      rw [← List.take_add, show sent + (to - sent) = to by omega]
    unfold blockM
    rw [getM_at h1 (by omega)]
    simp only [SR.bind]
    rw [getM_at h2 (by omega)]
    simp only
    rw [if_pos trivial, hS]
    simp only
    congr 1
    have hbl : ((segB b sent to).flatMap fun x => bitsN x.toNat 8).length = 8 * (to - sent) := by
      rw [← hsl]; exact bitsB_len _
    simp only [List.length_append, bitsN_len, List.length_replicate, hbl]; omega
  · rename_i hc
    rw [if_neg hc] at ⊢
    obtain ⟨e, _⟩ := blockFl_ok hln (toks_ok b to (by omega) (to - sent) sent)
    have e' : fldBits (blockFl ln (toks b sent to)) = bitsN ln 1 ++ (bitsN 1 2 ++ ((toks b sent to).flatMap tokB ++ fixB 256)) := by
      unfold toks
      rw [e]; simp only [fixedB, List.append_assoc]
    rw [e'] at h ⊢
    obtain ⟨h1, h⟩ := h.app
    obtain ⟨h2, h⟩ := h.app
    simp only [bitsN_len] at h2 h
    have hl := toksF_len b to (to - sent) sent
    have hS := toks_at (S := S) (b := b) (to := to) (most := most) hto hm (by omega) (to - sent) sent (p + 1 + 2) F (Nat.le_refl _) hst h (by omega)
    unfold blockM
    rw [getM_at h1 (by omega)]
    simp only [SR.bind]
    rw [getM_at h2 (by omega)]
    simp only
    rw [if_neg (by omega), if_pos trivial, hS]
    simp only
    congr 1
    simp only [List.length_append, bitsN_len, toks]; omega
theorem blks_all {most F t p : Nat} {c c' : Bs} {X : List Bool} (h : Blks t c X c') (hm : 20000 ≤ most) (hF : 20000 < F) (hp : p % 8 = t % 8) : ∃ k, ∀ f S, At S p X → blocksM S most F (f + k) c p = blocksM S most F f c' (p + X.length) := by
  induction h with
  | nil => exact ⟨0, fun f S _ => rfl⟩
  | more h e h1 h2 h3 ih =>
    obtain ⟨k, hk⟩ := ih
    refine ⟨k + 1, fun f S ha => ?_⟩
    obtain ⟨a1, a2⟩ := ha.app
    rw [show f + (k + 1) = (f + 1) + k by omega, hk (f + 1) S a1, e, blocksM, block_at (by omega) h1 h2 h3 (by omega) hF (by omega) a2]
    simp only [SR.bind]
    rw [if_pos (show ((0 : Nat) == 0) = true from rfl), List.length_append]
    congr 1; omega
theorem bits_pack {T : List Bool} (h : T.length % 8 = 0) : bitsB ((pack T).map UInt8.ofNat) = T := by
  apply List.ext_getElem?
  intro i
  have hl : (bitsB ((pack T).map UInt8.ofNat)).length = T.length := by rw [bitsB_len, List.length_map, pack_len]; omega
  by_cases hi : i < T.length
  · have hb := bitsB_drop ((pack T).map UInt8.ofNat) (i / 8)
    have hj : i / 8 < (pack T).length := by rw [pack_len]; omega
    have e1 : (bitsB ((pack T).map UInt8.ofNat))[i]? = (bitsB (((pack T).map UInt8.ofNat).drop (i / 8)))[i % 8]? := by
      rw [← hb, List.getElem?_drop, show 8 * (i / 8) + i % 8 = i by omega]
    have hg := pack_get (l := T) (j := i / 8) (by omega)
    have e2 : ((pack T).map UInt8.ofNat).drop (i / 8) = UInt8.ofNat (byteAt T (i / 8)) :: ((pack T).map UInt8.ofNat).drop (i / 8 + 1) := by
      rw [List.drop_eq_getElem_cons (by rw [List.length_map]; exact hj)]
      congr 1
      rw [List.getElem_map]
      congr 1
      have := List.getElem?_eq_getElem hj
      rw [hg] at this
      exact (Option.some.inj this).symm
    have hlt := byteAt_lt T (i / 8)
    have hu : (UInt8.ofNat (byteAt T (i / 8))).toNat = byteAt T (i / 8) := by simp; omega
    rw [e1, e2]
    simp only [bitsB, List.flatMap_cons]
    rw [List.getElem?_append_left (by rw [bitsN_len]; omega), hu]
    unfold byteAt
    have h8 : ((T.drop (8 * (i / 8))).take 8).length = 8 := by rw [List.length_take, List.length_drop]; omega
    have := bits_natOf ((T.drop (8 * (i / 8))).take 8)
    rw [h8] at this
    rw [this, List.getElem?_take_of_lt (by omega), List.getElem?_drop, show 8 * (i / 8) + i % 8 = i by omega]
  · rw [List.getElem?_eq_none (by omega), List.getElem?_eq_none (by omega)]
end Go.Proofs.Zi
namespace Go.Proofs.Zi
open Go.Abs Go.Abs.S
set_option linter.unusedSimpArgs false
theorem bitsB_append (a b : Bs) : bitsB (a ++ b) = bitsB a ++ bitsB b := by simp [bitsB]
theorem bitsB_take (d : Bs) : ∀ j, (bitsB d).take (8 * j) = bitsB (d.take j) := by
  induction d with
  | nil => intro j; simp [bitsB]
  | cons x d ih =>
    intro j
    cases j with
    | zero => simp [bitsB]
    | succ j =>
      simp only [bitsB, List.flatMap_cons, List.take_succ_cons] at ih ⊢
      rw [← ih j, List.take_append, bitsN_len, List.take_of_length_le (by rw [bitsN_len]; omega), show 8 * (j + 1) - 8 = 8 * j by omega]
structure Told (b d : Bs) (G q : Nat) : Prop where
  q1 : 8 * d.length < q + 8
  q2 : q ≤ 8 * d.length
  ok : ∀ S, At S 0 (bitsB d) → blocksM S 20000 20001 G [] 0 = .ok b q
theorem told_of {b c1 : Bs} {T1 T2 M1 M2 X1 X2 : List Bool} {sent : Nat} (hb : b.length ≤ 20000) (hs : sent ≤ b.length) (b1 : Blks 0 [] X1 c1) (b2 : Blks M1.length c1 X2 (b.take sent)) (e1 : T1 ++ M1 = X1) (e2 : T2 ++ M2 = M1 ++ X2) (t1 : T1.length % 8 = 0) (t2 : T2.length % 8 = 0) :
    ∃ G q, Told b ((pack T1).map UInt8.ofNat ++ (pack T2).map UInt8.ofNat ++ (pack (M2 ++ endX M2.length b sent)).map UInt8.ofNat) G q := by
  have l1 : X1.length = T1.length + M1.length := by rw [← e1, List.length_append]
  have l2 : T2.length + M2.length = M1.length + X2.length := by rw [← List.length_append, e2, List.length_append]
  obtain ⟨eb, heb⟩ : ∃ e, e = blkB 1 M2.length b sent b.length := ⟨_, rfl⟩
  obtain ⟨fl, hfl⟩ : ∃ f, f = fillN (M2.length + eb.length) := ⟨_, rfl⟩
  have hend : endX M2.length b sent = eb ++ List.replicate fl false := by unfold endX; rw [heb, hfl, heb]
  have t3 : (M2 ++ endX M2.length b sent).length % 8 = 0 := by
    rw [hend]; simp only [List.length_append, List.length_replicate]
    have := fill_ok (M2.length + eb.length)
    rw [← hfl] at this; omega
  have hbits : bitsB ((pack T1).map UInt8.ofNat ++ (pack T2).map UInt8.ofNat ++ (pack (M2 ++ endX M2.length b sent)).map UInt8.ofNat) = X1 ++ (X2 ++ (eb ++ List.replicate fl false)) := by
    rw [bitsB_append, bitsB_append, bits_pack t1, bits_pack t2, bits_pack t3, hend, ← e1]
    have : T2 ++ (M2 ++ (eb ++ List.replicate fl false)) = M1 ++ (X2 ++ (eb ++ List.replicate fl false)) := by rw [← List.append_assoc, e2, List.append_assoc]
    simp only [List.append_assoc] at this ⊢
    rw [this]
  generalize (pack T1).map UInt8.ofNat ++ (pack T2).map UInt8.ofNat ++ (pack (M2 ++ endX M2.length b sent)).map UInt8.ofNat = d at hbits ⊢
  have hlen := congrArg List.length hbits
  rw [bitsB_len] at hlen
  simp only [List.length_append, List.length_replicate] at hlen
  have hf7 : fl < 8 := by rw [hfl]; unfold fillN; omega
  obtain ⟨k1, h1⟩ : ∃ k, ∀ f S, At S 0 X1 → blocksM S 20000 20001 (f + k) [] 0 = blocksM S 20000 20001 f c1 (0 + X1.length) := blks_all b1 (by omega) (by omega) (by omega)
  obtain ⟨k2, h2⟩ : ∃ k, ∀ f S, At S X1.length X2 → blocksM S 20000 20001 (f + k) c1 X1.length = blocksM S 20000 20001 f (b.take sent) (X1.length + X2.length) := blks_all b2 (by omega) (by omega) (by omega)
  refine ⟨1 + k2 + k1, X1.length + X2.length + eb.length, by omega, by omega, fun S hS => ?_⟩
  rw [hbits] at hS
  obtain ⟨a1, hS⟩ := hS.app
  rw [Nat.zero_add] at hS
  obtain ⟨a2, hS⟩ := hS.app
  obtain ⟨a3, _⟩ := hS.app
  rw [h1 _ S a1, Nat.zero_add, h2 _ S a2]
  unfold blocksM
  rw [heb] at a3 ⊢
  rw [block_at (by omega) hs (Nat.le_refl _) hb (by omega) (by omega) (by omega) a3, List.take_length]
  rfl
theorem Told.most {b d : Bs} {G q : Nat} (h : Told b d G q) (hb : b.length ≤ 20000) {S : List Bool} (hS : At S 0 (bitsB d)) : blocksM S b.length 20001 G [] 0 = .ok b q := by
  have := (blocksM_less (m := b.length) G [] 0 (Nat.zero_le _)).1 b q (h.ok S hS)
  rw [if_pos (Nat.le_refl _)] at this
  exact this
theorem Told.long {b d : Bs} {G q : Nat} (h : Told b d G q) (hb : 0 < b.length) {S : List Bool} (hS : At S 0 (bitsB d)) : blocksM S (b.length - 1) 20001 G [] 0 = .bad 3 := by
  have := (blocksM_less (m := b.length - 1) G [] 0 (Nat.zero_le _)).1 b q (h.ok S hS)
  rw [if_neg (by omega)] at this
  exact this
theorem at_self (X Y : List Bool) : At (X ++ Y) 0 X := ⟨Nat.zero_le _, Y, rfl⟩
theorem Told.short {b d : Bs} {G q : Nat} (h : Told b d G q) (hb : b.length ≤ 20000) : blocksM (bitsB (d.take (d.length - 1))) b.length 20001 G [] 0 = .bad 12 := by
  have hS : At (bitsB d) 0 (bitsB d) := by simpa using at_self (bitsB d) []
  have h1 := h.q1
  have h2 := h.q2
  have hl := blocksM_loc _ _ _ _ _ (h.most hb hS)
  have := (hl.2 (8 * (d.length - 1))).2 (Nat.zero_le _) ?_
  · rw [← bitsB_take]; exact this
  · rcases Nat.eq_zero_or_pos d.length with h0 | h0
    · obtain rfl : d = [] := List.length_eq_zero_iff.1 h0
      exfalso
      obtain ⟨_, k⟩ := hl
      have k0 := h.ok [] ⟨Nat.le_refl _, [], rfl⟩
      cases G with
      | zero => cases k0
      | succ G => cases k0
    · omega
theorem Told.pos {b d : Bs} {G q : Nat} (h : Told b d G q) : 0 < d.length := by
  rcases Nat.eq_zero_or_pos d.length with h0 | h0
  · obtain rfl : d = [] := List.length_eq_zero_iff.1 h0
    exfalso
    have k0 := h.ok [] ⟨Nat.le_refl _, [], rfl⟩
    cases G with
    | zero => cases k0
    | succ G => cases k0
  · exact h0
end Go.Proofs.Zi
namespace Go.Proofs.Zi
open Go.Abs Go.Abs.S
set_option linter.unusedSimpArgs false
def isB (d : Bs) (most : Nat) (want : Bs) (used : Nat) : Bool := match blocksM (bitsB d) most 50 50 [] 0 with
  | .ok o q => decide (o = want) && Nat.beq ((q + 7) / 8) used
  | _ => false
def wrongB (d : Bs) (most e : Nat) : Bool := match blocksM (bitsB d) most 50 50 [] 0 with
  | .bad f => Nat.beq f e
  | _ => false
theorem is_spec {n : Nat} {H : AHeap} {v : AVal} {d want : Bs} {most used : Nat} (hv : Cel n H v (byts d)) (hd : d.length ≤ 1000000) (hm : most ≤ 100000) (h : isB d most want used = true) :
    ACalls Try.prog natI 25 [v, .int .i64 (most : Int), .str want, .int .i64 (used : Int)] H fun w H' => w = .bool true ∧ Ext H.next H H' := by
  refine acalls_ofN rfl za25 rfl ?_
  have hu : blocksM (bitsB d) most 50 50 [] 0 ≠ .unk := fun e => by unfold isB at h; rw [e] at h; cases h
  simp only [c25, sA, Int.reduceNegSucc, reduceCtorEq, Nat.reduceEqDiff, ↓reduceIte, Nat.reduceAdd, Int.reduceEq, Int.reduceLT, Int.reduceLE, Nat.reduceLT]
  refine (inflate_spec hv hd hm hu).mono ?_
  rintro _ H1 ⟨E1, ⟨out, o, q, hM, rfl, cO⟩ | ⟨e, hM, rfl⟩⟩
  · unfold isB at h
    rw [hM] at h
    simp only [Bool.and_eq_true, decide_eq_true_eq, Nat.beq_eq] at h
    obtain ⟨rfl, h2⟩ := h
    have b1 := bs_cel cO
    simp only [sA, Int.reduceNegSucc, reduceCtorEq, Nat.reduceEqDiff, ↓reduceIte, Nat.reduceAdd, Int.reduceEq, Int.reduceLT, Int.reduceLE, Nat.reduceLT, ext_0, ext_1, ext_2, b1, h2]
    exact ⟨(by first | with_reducible rfl | trivial | rfl | assumption), E1⟩
  · unfold isB at h; rw [hM] at h; cases h
theorem wrong_spec {n : Nat} {H : AHeap} {v : AVal} {d : Bs} {most e : Nat} (hv : Cel n H v (byts d)) (hd : d.length ≤ 1000000) (hm : most ≤ 100000) (h : wrongB d most e = true) :
    ACalls Try.prog natI 26 [.int .i64 (most : Int), .int .i64 (e : Int), v] H fun w H' => w = .bool true ∧ Ext H.next H H' := by
  refine acalls_ofN rfl za26 rfl ?_
  have hu : blocksM (bitsB d) most 50 50 [] 0 ≠ .unk := fun e => by unfold wrongB at h; rw [e] at h; cases h
  simp only [c26, sA, Int.reduceNegSucc, reduceCtorEq, Nat.reduceEqDiff, ↓reduceIte, Nat.reduceAdd, Int.reduceEq, Int.reduceLT, Int.reduceLE, Nat.reduceLT]
  refine (inflate_spec hv hd hm hu).mono ?_
  rintro _ H1 ⟨E1, ⟨out, o, q, hM, rfl, cO⟩ | ⟨f, hM, rfl⟩⟩
  · unfold wrongB at h; rw [hM] at h; cases h
  · unfold wrongB at h
    rw [hM] at h
    simp only [Nat.beq_eq] at h
    subst h
    have ln : aLenK false nilS = some (.int .i64 0) := _root_.id rfl
    simp only [sA, Int.reduceNegSucc, reduceCtorEq, Nat.reduceEqDiff, ↓reduceIte, Nat.reduceAdd, Int.reduceEq, Int.reduceLT, Int.reduceLE, Nat.reduceLT, ext_0, ext_1, ext_2, ln]
    exact ⟨(by first | with_reducible rfl | trivial | rfl | assumption), E1⟩
theorem lit_cel (H : AHeap) (d : Bs) {m : Nat} (hm : d.length = m) : Cel (H.next + 1) (H.push (.cells (byts d) 0 false)) (slR H.next m (.known m)) (byts d) :=
  (row_push H (byts d)).cel (by rw [byts_len]; exact hm) (Nat.lt_succ_self _)
theorem awake_spec {H : AHeap} : ACalls Try.prog natI 8 [] H fun w _ => w = .bool true := by
  refine acalls_ofN rfl za8 rfl ?_
  have b2 : ∀ (H : AHeap) (x y : UInt8), aBuildSl 2 [.int .u8 0] H [(0, 1, .int .u8 (x.toNat : Int)), (1, 1, .int .u8 (y.toNat : Int))] = some (slR H.next 2 (.known 2), H.push (.cells (byts [x, y]) 0 false)) := fun _ _ _ => rfl
  have q1 := fun H => b2 H 3 0
  have q2 : ∀ H : AHeap, aBuildSl 3 [.int .u8 0] H [(0, 1, .int .u8 75), (1, 1, .int .u8 4), (2, 1, .int .u8 0)] = some (slR H.next 3 (.known 3), H.push (.cells (byts [75, 4, 0]) 0 false)) := fun _ => rfl
  have q3 : ∀ H : AHeap, aBuildSl 4 [.int .u8 0] H [(0, 1, .int .u8 75), (1, 1, .int .u8 132), (2, 1, .int .u8 3), (3, 1, .int .u8 0)] = some (slR H.next 4 (.known 4), H.push (.cells (byts [75, 132, 3, 0]) 0 false)) := fun _ => rfl
  have q4 : ∀ H : AHeap, aBuildSl 6 [.int .u8 0] H [(0, 1, .int .u8 1), (1, 1, .int .u8 1), (2, 1, .int .u8 0), (3, 1, .int .u8 254), (4, 1, .int .u8 255), (5, 1, .int .u8 7)] = some (slR H.next 6 (.known 6), H.push (.cells (byts [1, 1, 0, 254, 255, 7]) 0 false)) := fun _ => rfl
  have q5 : ∀ H : AHeap, aBuildSl 1 [.int .u8 0] H [(0, 1, .int .u8 7)] = some (slR H.next 1 (.known 1), H.push (.cells (byts [7]) 0 false)) := fun _ => rfl
  have q6 : ∀ H : AHeap, aBuildSl 1 [.int .u8 0] H [(0, 1, .int .u8 75)] = some (slR H.next 1 (.known 1), H.push (.cells (byts [75]) 0 false)) := fun _ => rfl
  have q7 : ∀ H : AHeap, aBuildSl 5 [.int .u8 0] H [(0, 1, .int .u8 1), (1, 1, .int .u8 1), (2, 1, .int .u8 0), (3, 1, .int .u8 255), (4, 1, .int .u8 255)] = some (slR H.next 5 (.known 5), H.push (.cells (byts [1, 1, 0, 255, 255]) 0 false)) := fun _ => rfl
  have q1' : ∀ H : AHeap, aBuildSl 2 [.int .u8 0] H [(0, 1, .int .u8 3), (1, 1, .int .u8 0)] = some (slR H.next 2 (.known 2), H.push (.cells (byts [3, 0]) 0 false)) := fun _ => rfl
  simp only [c8, sA, Int.reduceNegSucc, reduceCtorEq, Nat.reduceEqDiff, ↓reduceIte, Nat.reduceAdd, Int.reduceEq, Int.reduceLT, Int.reduceLE, Nat.reduceLT, q1']
  refine (is_spec (most := 9) (want := []) (used := 2) (lit_cel H [3, 0] rfl) (by decide) (by omega) (by decide +kernel)).mono ?_
  rintro _ H1 ⟨rfl, -⟩
  simp only [sA, Int.reduceNegSucc, reduceCtorEq, Nat.reduceEqDiff, ↓reduceIte, Nat.reduceAdd, Int.reduceEq, Int.reduceLT, Int.reduceLE, Nat.reduceLT, q2]
  refine (is_spec (most := 9) (want := [97]) (used := 3) (lit_cel H1 [75, 4, 0] rfl) (by decide) (by omega) (by decide +kernel)).mono ?_
  rintro _ H2 ⟨rfl, -⟩
  simp only [sA, Int.reduceNegSucc, reduceCtorEq, Nat.reduceEqDiff, ↓reduceIte, Nat.reduceAdd, Int.reduceEq, Int.reduceLT, Int.reduceLE, Nat.reduceLT, q3]
  refine (is_spec (most := 10) (want := [97, 97, 97, 97, 97, 97, 97, 97, 97, 97]) (used := 4) (lit_cel H2 [75, 132, 3, 0] rfl) (by decide) (by omega) (by decide +kernel)).mono ?_
  rintro _ H3 ⟨rfl, -⟩
  simp only [sA, Int.reduceNegSucc, reduceCtorEq, Nat.reduceEqDiff, ↓reduceIte, Nat.reduceAdd, Int.reduceEq, Int.reduceLT, Int.reduceLE, Nat.reduceLT, q3]
  refine (wrong_spec (most := 9) (e := 3) (lit_cel H3 [75, 132, 3, 0] rfl) (by decide) (by omega) (by decide +kernel)).mono ?_
  rintro _ H4 ⟨rfl, -⟩
  simp only [sA, Int.reduceNegSucc, reduceCtorEq, Nat.reduceEqDiff, ↓reduceIte, Nat.reduceAdd, Int.reduceEq, Int.reduceLT, Int.reduceLE, Nat.reduceLT, q4]
  refine (is_spec (most := 1) (want := [7]) (used := 6) (lit_cel H4 [1, 1, 0, 254, 255, 7] rfl) (by decide) (by omega) (by decide +kernel)).mono ?_
  rintro _ H5 ⟨rfl, -⟩
  simp only [sA, Int.reduceNegSucc, reduceCtorEq, Nat.reduceEqDiff, ↓reduceIte, Nat.reduceAdd, Int.reduceEq, Int.reduceLT, Int.reduceLE, Nat.reduceLT, q5]
  refine (wrong_spec (most := 9) (e := 10) (lit_cel H5 [7] rfl) (by decide) (by omega) (by decide +kernel)).mono ?_
  rintro _ H6 ⟨rfl, -⟩
  simp only [sA, Int.reduceNegSucc, reduceCtorEq, Nat.reduceEqDiff, ↓reduceIte, Nat.reduceAdd, Int.reduceEq, Int.reduceLT, Int.reduceLE, Nat.reduceLT]
  refine (wrong_spec (n := 0) (d := []) (most := 9) (e := 12) (.inl ⟨rfl, rfl⟩) (by decide) (by omega) (by decide +kernel)).mono ?_
  rintro _ H7 ⟨rfl, -⟩
  simp only [sA, Int.reduceNegSucc, reduceCtorEq, Nat.reduceEqDiff, ↓reduceIte, Nat.reduceAdd, Int.reduceEq, Int.reduceLT, Int.reduceLE, Nat.reduceLT, q6]
  refine (wrong_spec (most := 9) (e := 12) (lit_cel H7 [75] rfl) (by decide) (by omega) (by decide +kernel)).mono ?_
  rintro _ H8 ⟨rfl, -⟩
  simp only [sA, Int.reduceNegSucc, reduceCtorEq, Nat.reduceEqDiff, ↓reduceIte, Nat.reduceAdd, Int.reduceEq, Int.reduceLT, Int.reduceLE, Nat.reduceLT, q7]
  refine (wrong_spec (most := 9) (e := 10) (lit_cel H8 [1, 1, 0, 255, 255] rfl) (by decide) (by omega) (by decide +kernel)).mono ?_
  rintro _ H9 ⟨rfl, -⟩
  simp only [sA, Int.reduceNegSucc, reduceCtorEq, Nat.reduceEqDiff, ↓reduceIte, Nat.reduceAdd, Int.reduceEq, Int.reduceLT, Int.reduceLE, Nat.reduceLT]
end Go.Proofs.Zi
namespace Go.Proofs.Zi
open Go.Abs Go.Abs.S
set_option linter.unusedSimpArgs false
theorem natI_call {H : AHeap} {K : AVal → AHeap → Prop} (h : ∀ H, K (.bool true) H) : ACalls Try.prog natI 8 [] H K :=
  awake_spec.mono fun w H' e => by subst e; exact h H'
theorem arg_from {n : Nat} {H : AHeap} {s : AVal} {l : List AVal} (h : ArgS n H s l) {a : Nat} (ha : a ≤ l.length) :
    ∃ s', aSl 1 s (some (.int .i64 (a : Int))) none none = some s' ∧ Cel n H s' (l.drop a) := by
  have hbd : ∀ c, l.length ≤ c → aBnd l.length c (some (.int .i64 (a : Int))) none none = some (a, l.length, none) := by
    intro c hc
    have h2 : bdO (some (.int .i64 (a : Int))) l.length 0 = some a := bd_nat ha
    have h1 : bdO none c l.length = some l.length := rfl
    simp only [aBnd, h1, h2]
  rcases h with ⟨rfl, rfl⟩ | ⟨ad, c, rfl, h2, h3, h4⟩
  · have ha0 : a = 0 := by simpa using ha
    subst ha0
    have := hbd 0 (Nat.le_refl _)
    simp only [List.length_nil] at this
    refine ⟨nilS, ?_, .inl ⟨rfl, by simp⟩⟩
    simp only [aSl, nilS, this]
  · have hlen : (l.drop a).length = l.length - a := by simp
    obtain ⟨L, low, ro, q1, q2, q3, q4, q5⟩ := rd_spec h4
    simp only [aSl, hbd c h2, Option.getD_none]
    cases hq : Nat.beq c a with
    | true =>
      have hca : c = a := Nat.eq_of_beq_eq_true hq
      have e0 : l.length - a = 0 := by omega
      refine ⟨_, rfl, .inr ⟨ad, .known (c - a), by rw [hlen], h3, ?_⟩⟩
      rw [hlen, e0]
      have := rd_pre h4 (Nat.zero_le _)
      have e1 : l.drop a = [] := List.drop_of_length_le (by omega)
      rw [e1]
      simpa using this
    | false =>
      refine ⟨_, rfl, .inr ⟨⟨ad.b, ad.lim, ad.o + a * 1⟩, .known (c - a), by rw [hlen], h3, ?_⟩⟩
      rw [hlen]
      unfold rdCells
      simp only [q1, Nat.mul_one, Nat.ble_eq_true_of_le q2, Nat.ble_eq_true_of_le q3, Nat.ble_eq_true_of_le (show ad.o + a + (l.length - a) ≤ ad.lim by omega), Bool.and_self, cond_true]
      congr 1
      conv => rhs; rw [q5]
      rw [List.drop_take, List.drop_drop]
theorem sl_none {s : AVal} {hi : Option AVal} : aSl 1 s none hi none = aSl 1 s (some (.int .i64 ((0 : Nat) : Int))) hi none := by
  have hb : ∀ len c, aBnd len c none hi none = aBnd len c (some (.int .i64 ((0 : Nat) : Int))) hi none := by
    intro len c
    unfold aBnd
    have : ∀ h, bdO none h 0 = bdO (some (.int .i64 ((0 : Nat) : Int))) h 0 := fun h => (bd_nat (Nat.zero_le h)).symm
    simp only [this]
  unfold aSl
  simp only [hb]
theorem pick_spec (x : Int) (m : Nat) (h0 : 0 < m) (hm : m ≤ 1000000) {H : AHeap} : ACalls Try.prog natI 10 [.int .i64 x, .int .i64 (m : Int)] H fun v H' => (∃ r : Nat, r < m ∧ v = .int .i64 (r : Int)) ∧ H = H' := by
  refine acalls_ofN rfl za10 rfl ?_
  have h0' : ¬ (m : Int) ≤ 0 := by omega
  have hlt := Int.tmod_lt_of_pos x (show (0 : Int) < (m : Int) by omega)
  have hgt := Int.lt_tmod_of_pos x (show (0 : Int) < (m : Int) by omega)
  have hr := bin_rem .i64 x (m : Int) (by omega)
  by_cases hn : x.tmod (m : Int) < 0
  · have w : IntKind.i64.wrap (x.tmod (m : Int) + (m : Int)) = x.tmod (m : Int) + (m : Int) := wrap64 (by omega) (by omega)
    simp only [c10, sA, Int.reduceNegSucc, reduceCtorEq, Nat.reduceEqDiff, ↓reduceIte, Nat.reduceAdd, Int.reduceEq, Int.reduceLT, Int.reduceLE, Nat.reduceLT, h0', hr, hn, w]
    exact ⟨⟨(x.tmod (m : Int) + (m : Int)).toNat, by omega, by congr 1; omega⟩, (by first | with_reducible rfl | trivial | rfl | assumption)⟩
  · simp only [c10, sA, Int.reduceNegSucc, reduceCtorEq, Nat.reduceEqDiff, ↓reduceIte, Nat.reduceAdd, Int.reduceEq, Int.reduceLT, Int.reduceLE, Nat.reduceLT, h0', hr, hn]
    exact ⟨⟨(x.tmod (m : Int)).toNat, by omega, by congr 1; omega⟩, (by first | with_reducible rfl | trivial | rfl | assumption)⟩
theorem copy_spec {n : Nat} {H : AHeap} {v : AVal} {l : Bs} (hv : Cel n H v (byts l)) (hl : l.length ≤ 900000) : ACalls Try.prog natI 13 [v] H fun w H' => AppN 1 0 H' w (byts l) l.length ∧ Blk w (H.next ≤ ·) ∧ Ext H.next H H' := by
  refine acalls_ofN rfl za13 rfl ?_
  obtain ⟨s, H1, m1, A1, n1, b1, o1⟩ := app_bytes (app_nil H) (src_cel hv) (by simpa using (show l.length ≤ 1000000 by omega))
  have m1' : aAppend 1 1 H (.slice none 0 (.known 0)) v = some (s, H1) := m1
  simp only [c13, sA, Int.reduceNegSucc, reduceCtorEq, Nat.reduceEqDiff, ↓reduceIte, Nat.reduceAdd, Int.reduceEq, Int.reduceLT, Int.reduceLE, Nat.reduceLT, m1']
  exact ⟨by simpa using A1, (b1 (fun _ => False) (blk_nil _)).mono fun b hb => hb.resolve_left id, n1, fun c hc => o1 c hc (blk_nil _)⟩
def newD (n : Nat) : Nat → Nat := fun c => if c = n then 2 else if c = n + 1 then 3 else if c = n + 2 then 1 else 0
theorem dnew_DB {H0 H : AHeap} (r1 : Row H (H0.next + 2) (dC 0 (cellR H0.next 3 0) nilS 0 (.map (some (H0.next + 1))))) (r2 : Row H H0.next [.bool true, nilS, .int .i64 0]) (g : H.get (H0.next + 1) = some (.map [] 0)) (hn : H.next = H0.next + 3) : DB (H0.next + 3) (newD H0.next) H (H0.next + 2) H0.next (H0.next + 1) nilS [] 0 0 [] 0 := by
  have tz : ∀ c, H.next ≤ c → newD H0.next c = 0 := fun c hc => by unfold newD; rw [if_neg (by omega), if_neg (by omega), if_neg (by omega)]
  have t1 : newD H0.next (H0.next + 2) = 1 := by unfold newD; rw [if_neg (by omega), if_neg (by omega), if_pos rfl]
  refine ⟨⟨r1, AppN.nil _ _ _, blk_nil _, ⟨[], g, fun i e h => by simp at h, fun i j e f h => by simp at h, fun k hk => absurd rfl hk⟩, by omega, by omega, by omega, by rw [t1]; omega, by omega, tz⟩, ⟨nilS, r2, by omega, Nat.le_refl _, by simp [newD], tz, AppN.nil _ _ _, blk_nil _, rfl⟩, blk_nil _, t1, by unfold newD; rw [if_neg (by omega), if_pos rfl], fun c hc => by unfold newD; split <;> (try split) <;> (try split) <;> omega, Nat.le_refl _, .inl rfl⟩
theorem byts_take (s : Bs) (k : Nat) : (byts s).take k = byts (s.take k) := by simp [byts, List.map_take]
theorem byts_drop (s : Bs) (k : Nat) : (byts s).drop k = byts (s.drop k) := by simp [byts, List.map_drop]
theorem FW.cel {n m : Nat} {τ τ' : Nat → Nat} {H H' : AHeap} {s : AVal} {l : List AVal} (f : FW τ H τ' H') (h : Cel n H s l) (hb : Blk s (τ · = 7)) (hn : n ≤ H.next) (hm : n ≤ m) : Cel m H' s l ∧ Blk s (τ' · = 7) := by
  have hk := (cel_blk h).and hb
  exact ⟨cel_same h hm (hk.mono fun c hc => (f.2 c (by omega) (.inr hc.2)).2), hk.mono fun c hc => by rw [(f.2 c (by omega) (.inr hc.2)).1]; exact hc.2⟩
theorem FW.old {τ τ' : Nat → Nat} {H H' : AHeap} {n : Nat} (f : FW τ H τ' H') (hn : n ≤ H.next) (tz : ∀ c, c < n → τ c = 0) : Ext n H H' ∧ ∀ c, c < n → τ' c = 0 :=
  ⟨⟨f.1, fun c hc => (f.2 c (by omega) (.inl (tz c hc))).2⟩, fun c hc => by rw [(f.2 c (by omega) (.inl (tz c hc))).1]; exact tz c hc⟩
theorem law_spec {H0 : AHeap} {v w : AVal} {b bh : Bs} {cut : Int} (hv : ArgS H0.next H0 v (byts b)) (hw : ArgS H0.next H0 w (byts bh)) : ACalls Try.prog natI 3 [v, w, .int .i64 cut] H0 fun x _ => x = .bool true := by
  refine acalls_ofN rfl za3 rfl ?_
  refine wp_cutP [1, 1, 1, 1, 1, 1, 1, 1, 1, 1, 1, 1] ?_
  have lv := hv.cel.len
  have lw := hw.cel.len
  rw [byts_len] at lv lw
  by_cases h1 : 20000 < b.length
  · have h1' : (20000 : Int) < (b.length : Int) := by omega
    simp only [c3, sC, sA, Int.reduceNegSucc, reduceCtorEq, Nat.reduceEqDiff, ↓reduceIte, Nat.reduceAdd, Int.reduceEq, Int.reduceLT, Int.reduceLE, Nat.reduceLT, lv, h1']
    refine natI_call fun _ => ?_
    simp only [sA, Int.reduceNegSucc, reduceCtorEq, Nat.reduceEqDiff, ↓reduceIte, Nat.reduceAdd, Int.reduceEq, Int.reduceLT, Int.reduceLE, Nat.reduceLT, fin, wRes, OptP_some]
    try trivial
  have h1' : ¬ (20000 : Int) < (b.length : Int) := by omega
  by_cases h2 : 100 < bh.length
  · have h2' : (100 : Int) < (bh.length : Int) := by omega
    simp only [c3, sC, sA, Int.reduceNegSucc, reduceCtorEq, Nat.reduceEqDiff, ↓reduceIte, Nat.reduceAdd, Int.reduceEq, Int.reduceLT, Int.reduceLE, Nat.reduceLT, lv, h1', lw, h2']
    refine natI_call fun _ => ?_
    simp only [sA, Int.reduceNegSucc, reduceCtorEq, Nat.reduceEqDiff, ↓reduceIte, Nat.reduceAdd, Int.reduceEq, Int.reduceLT, Int.reduceLE, Nat.reduceLT, fin, wRes, OptP_some]
    try trivial
  have h2' : ¬ (100 : Int) < (bh.length : Int) := by omega
  simp only [c3, sC, sA, Int.reduceNegSucc, reduceCtorEq, Nat.reduceEqDiff, ↓reduceIte, Nat.reduceAdd, Int.reduceEq, Int.reduceLT, Int.reduceLE, Nat.reduceLT, lv, h1', lw, h2']
  refine (dnew_spec H0).mono ?_
  rintro _ H1 ⟨rfl, r1, r2, g1, n1, E1⟩
  have D0 := dnew_DB r1 r2 g1 n1
  have tz0 : ∀ c, c < H0.next → newD H0.next c = 0 := fun c hc => by unfold newD; rw [if_neg (by omega), if_neg (by omega), if_neg (by omega)]
  simp only [sA, Int.reduceNegSucc, reduceCtorEq, Nat.reduceEqDiff, ↓reduceIte, Nat.reduceAdd, Int.reduceEq, Int.reduceLT, Int.reduceLE, Nat.reduceLT, lv, wrap1 b.length (by omega)]
  refine (pick_spec cut (b.length + 1) (by omega) (by omega)).mono ?_
  rintro _ _ ⟨⟨r, hr, rfl⟩, rfl⟩
  obtain ⟨s1, m1, C1⟩ := (hv.ext E1).take (k := r) (by rw [byts_len]; omega)
  have C1' := C1.cel
  rw [byts_take] at C1'
  have e1n := E1.next
  simp only [sA, Int.reduceNegSucc, reduceCtorEq, Nat.reduceEqDiff, ↓reduceIte, Nat.reduceAdd, Int.reduceEq, Int.reduceLT, Int.reduceLE, Nat.reduceLT, m1]
  refine (dwrite_spec D0 C1' (by simp; omega) (Nat.zero_le _) (Nat.zero_le _) (Nat.zero_le _)).mono ?_
  rintro _ H2 ⟨x1, X1, sent1, pl1, M1, T1, rfl, cx1, eT1, tT1, hM1, hpl1, -, hs1, hlong1, h91, B1, τ1, K1, kept1, D1, bx1, f1⟩
  obtain ⟨E2, tz1⟩ := f1.old (n := H0.next) (by omega) tz0
  simp only [List.nil_append] at *
  obtain ⟨s2, m2, C2⟩ := arg_from (hv.ext (E1.trans E2)) (a := r) (by rw [byts_len]; omega)
  rw [byts_drop] at C2
  have e2n := E2.next
  have htd : b.take r ++ b.drop r = b := List.take_append_drop r b
  simp only [sA, Int.reduceNegSucc, reduceCtorEq, Nat.reduceEqDiff, ↓reduceIte, Nat.reduceAdd, Int.reduceEq, Int.reduceLT, Int.reduceLE, Nat.reduceLT, ext_0, ext_1, m2]
  refine (dwrite_spec D1 C2 (by rw [← List.length_append, htd]; omega) hs1 h91 (by have := congrArg List.length eT1; rw [List.length_append] at this; omega)).mono ?_
  rintro _ H3 ⟨x2, X2, sent2, pl2, M2, T2, rfl, cx2, eT2, tT2, hM2, hpl2, -, hs2, hlong2, h92, B2, τ2, K2, kept2, D2, bx2, f2⟩
  rw [htd] at hs2 hlong2 B2 D2
  obtain ⟨E3, tz2⟩ := f2.old (n := H0.next) (by omega) tz1
  have e3n := E3.next
  have f2n := f2.1
  obtain ⟨cx1, bx1⟩ := f2.cel (m := H3.next) cx1 bx1 (Nat.le_refl _) f2n
  simp only [sA, Int.reduceNegSucc, reduceCtorEq, Nat.reduceEqDiff, ↓reduceIte, Nat.reduceAdd, Int.reduceEq, Int.reduceLT, Int.reduceLE, Nat.reduceLT, ext_0, ext_1]
  refine (dend_spec D2 (by omega) hs2 hlong2 h92 hM2).mono ?_
  rintro _ H4 ⟨x3, rfl, cx3, τ3, bx3, f3⟩
  obtain ⟨E4, tz3⟩ := f3.old (n := H0.next) (by omega) tz2
  have e4n := E4.next
  have f3n := f3.1
  obtain ⟨cx1, bx1⟩ := f3.cel (m := H4.next) cx1 bx1 (Nat.le_refl _) f3n
  obtain ⟨cx2, bx2⟩ := f3.cel (m := H4.next) cx2 bx2 (Nat.le_refl _) f3n
  rw [u8s_byts fun x hx => pack_lt hx] at cx1 cx2 cx3
  obtain ⟨G, q, hT⟩ := told_of (b := b) (by omega) hs2 B1 B2 eT1 eT2 tT1 tT2
  have hbl := blkB_len 1 M2.length (b := b) (sent := sent2) (to := b.length) hs2 (Nat.le_refl _)
  have hel : (M2 ++ endX M2.length b sent2).length ≤ 40000 := by
    have hf : fillN (M2.length + (blkB 1 M2.length b sent2 b.length).length) ≤ 7 := by unfold fillN; omega
    unfold endX
    simp only [List.length_append, List.length_replicate]; omega
  have q1 := congrArg List.length eT1
  have q2 := congrArg List.length eT2
  simp only [List.length_append] at q1 q2
  have hd1 : ((pack T1).map UInt8.ofNat).length ≤ 30000 := by rw [List.length_map, pack_len]; omega
  have hd2 : ((pack T2).map UInt8.ofNat).length ≤ 30000 := by rw [List.length_map, pack_len]; omega
  have hd3 : ((pack (M2 ++ endX M2.length b sent2)).map UInt8.ofNat).length ≤ 30000 := by rw [List.length_map, pack_len]; omega
  generalize (pack T1).map UInt8.ofNat = d1 at *
  generalize (pack T2).map UInt8.ofNat = d2 at *
  generalize (pack (M2 ++ endX M2.length b sent2)).map UInt8.ofNat = d3 at *
  simp only [sA, Int.reduceNegSucc, reduceCtorEq, Nat.reduceEqDiff, ↓reduceIte, Nat.reduceAdd, Int.reduceEq, Int.reduceLT, Int.reduceLE, Nat.reduceLT, ext_0, ext_1]
  refine (copy_spec cx1 (by omega)).mono ?_
  rintro y1 H5 ⟨A1, yb1, E5⟩
  have e5n := E5.next
  obtain ⟨y2, H6, m6, A2, n6, b6, o6⟩ := app_bytes A1 (src_cel (cx2.ext E5)) (by omega)
  have yb2 : Blk y2 (H4.next ≤ ·) := (b6 _ yb1).mono fun c hc => by omega
  have E6 : Ext H4.next H4 H6 := ⟨by omega, fun c hc => by rw [o6 c (by omega) (yb1.mono fun d hd => by omega)]; exact E5.old c hc⟩
  obtain ⟨y3, H7, m7, A3, n7, b7, o7⟩ := app_bytes A2 (src_cel (cx3.ext E6)) (by rw [List.length_append]; omega)
  have yb3 : Blk y3 (H4.next ≤ ·) := (b7 _ yb2).mono fun c hc => by omega
  have E7 : Ext H4.next H4 H7 := ⟨by omega, fun c hc => by rw [o7 c (by omega) (yb2.mono fun d hd => by omega)]; exact E6.old c hc⟩
  have dlen : (d1 ++ d2 ++ d3).length ≤ 90000 := by simp only [List.length_append]; omega
  generalize d1 ++ d2 ++ d3 = d at *
  have E07 : Ext H0.next H0 H7 := (((E1.trans E2).trans E3).trans E4).trans (E7.less (by omega))
  have e07 := E07.next
  have C7 : Cel H7.next H7 y3 (byts d) := A3.cel1 A3.blk'
  simp only [sA, Int.reduceNegSucc, reduceCtorEq, Nat.reduceEqDiff, ↓reduceIte, Nat.reduceAdd, Int.reduceEq, Int.reduceLT, Int.reduceLE, Nat.reduceLT, m6, m7]
  refine (copy_spec C7 (by omega)).mono ?_
  rintro y4 H8 ⟨A4, yb4, E8⟩
  have e8n := E8.next
  obtain ⟨y5, H9, m9, A5, n9, b9, o9⟩ := app_bytes A4 (src_cel ((hw.ext (E07.trans (E8.less (by omega)))).cel)) (by omega)
  have E9 : Ext H7.next H7 H9 := ⟨by omega, fun c hc => by rw [o9 c (by omega) (yb4.mono fun d hd => by omega)]; exact E8.old c hc⟩
  have S1 : At (bitsB (d ++ bh)) 0 (bitsB d) := by rw [bitsB_append]; exact at_self _ _
  have S2 : At (bitsB d) 0 (bitsB d) := by simpa using at_self (bitsB d) []
  have M1' := hT.most (by omega) S1
  simp only [sA, Int.reduceNegSucc, reduceCtorEq, Nat.reduceEqDiff, ↓reduceIte, Nat.reduceAdd, Int.reduceEq, Int.reduceLT, Int.reduceLE, Nat.reduceLT, m9, lv]
  refine (inflate_spec (most := b.length) (F := 20001) (G := G) (A5.cel1 A5.blk') (by rw [List.length_append]; omega) (by omega) (by rw [M1']; exact fun h => by cases h)).mono ?_
  rintro _ Ha ⟨Ea, ⟨out, o, q', hB, rfl, cO⟩ | ⟨e, hB, rfl⟩⟩
  case inr => rw [M1'] at hB; cases hB
  rw [M1'] at hB
  injection hB with hB1 hB2
  subst hB1 hB2
  have ean := Ea.next
  have hq1 := hT.q1
  have hq2 := hT.q2
  have hqd : (((q + 7) / 8 : Nat) : Int) = (d.length : Int) := by omega
  have ly3 := C7.len
  rw [byts_len] at ly3
  have Ea7 : Ext H7.next H7 Ha := E9.trans (Ea.less (by omega))
  have E0a : Ext H0.next H0 Ha := E07.trans (Ea7.less (by omega))
  have cv := (hv.ext E0a).cel
  have hdp := hT.pos
  simp only [sA, Int.reduceNegSucc, reduceCtorEq, Nat.reduceEqDiff, ↓reduceIte, Nat.reduceAdd, Int.reduceEq, Int.reduceLT, Int.reduceLE, Nat.reduceLT, ext_0, ext_1, ext_2, ly3, hqd]
  refine (same_spec cO cv).mono ?_
  rintro _ _ ⟨rfl, rfl⟩
  have wd : IntKind.i64.wrap ((d.length : Int) - 1) = ((d.length - 1 : Nat) : Int) := by rw [IntKind.wrap_i64]; omega
  have M3 := hT.short (by omega)
  have last : ∀ (Hx : AHeap) (T : Env), Ext H7.next H7 Hx → T 0 = v → T 14 = y3 → wp (ACalls Try.prog natI) (hold (restP [1, 1, 1, 1, 1, 1, 1, 1, 1, 1, 1, 1] c3.body)) (fin c3.res fun x _ => x = .bool true) T Hx := by
    intro Hx T Ex g0 g14
    have exn := Ex.next
    have Ax := A3.same (H' := Hx) exn (A3.blk'.mono fun c hc => Ex.old c hc)
    obtain ⟨y6, m10, C10, -⟩ := Ax.slice (lo := 0) (hi := d.length - 1) (Nat.zero_le _) (by omega)
    rw [← sl_none, List.drop_zero, Nat.sub_zero, byts_take] at *
    simp only [c3, restP, hold_eq, sA, Int.reduceNegSucc, reduceCtorEq, Nat.reduceEqDiff, ↓reduceIte, Nat.reduceAdd, Int.reduceEq, Int.reduceLT, Int.reduceLE, Nat.reduceLT, g0, g14, ly3, wd, m10, lv]
    refine (inflate_spec (most := b.length) (F := 20001) (G := G) C10 (by rw [List.length_take]; omega) (by omega) (by rw [M3]; exact fun h => by cases h)).mono ?_
    rintro _ Hb ⟨Eb, ⟨out, o, q', hB, rfl, cO⟩ | ⟨e, hB, rfl⟩⟩
    · rw [M3] at hB; cases hB
    rw [M3] at hB
    injection hB with hB
    subst hB
    simp only [sA, Int.reduceNegSucc, reduceCtorEq, Nat.reduceEqDiff, ↓reduceIte, Nat.reduceAdd, Int.reduceEq, Int.reduceLT, Int.reduceLE, Nat.reduceLT, ext_0, ext_1, ext_2]
    refine natI_call fun _ => ?_
    simp only [sA, Int.reduceNegSucc, reduceCtorEq, Nat.reduceEqDiff, ↓reduceIte, Nat.reduceAdd, Int.reduceEq, Int.reduceLT, Int.reduceLE, Nat.reduceLT, fin, wRes, OptP_some]
    try trivial
  simp only [c3, restP] at last
  by_cases hz : 0 < b.length
  · have hz' : (0 : Int) < (b.length : Int) := by omega
    have wb : IntKind.i64.wrap ((b.length : Int) - 1) = ((b.length - 1 : Nat) : Int) := by rw [IntKind.wrap_i64]; omega
    have M2' := hT.long hz S2
    simp only [sA, Int.reduceNegSucc, reduceCtorEq, Nat.reduceEqDiff, ↓reduceIte, Nat.reduceAdd, Int.reduceEq, Int.reduceLT, Int.reduceLE, Nat.reduceLT, lv, hz', wb]
    refine (inflate_spec (most := b.length - 1) (F := 20001) (G := G) (C7.ext Ea7) (by omega) (by omega) (by rw [M2']; exact fun h => by cases h)).mono ?_
    rintro _ Hb ⟨Eb, ⟨out2, o2, q2, hB, rfl, -⟩ | ⟨e, hB, rfl⟩⟩
    · rw [M2'] at hB; cases hB
    rw [M2'] at hB
    injection hB with hB
    subst hB
    simp only [sA, Int.reduceNegSucc, reduceCtorEq, Nat.reduceEqDiff, ↓reduceIte, Nat.reduceAdd, Int.reduceEq, Int.reduceLT, Int.reduceLE, Nat.reduceLT, ext_0, ext_1, ext_2]
    refine last _ _ (Ea7.trans (Eb.less (by omega))) ?_ ?_
    · exact (by first | with_reducible rfl | trivial | rfl | assumption)
    · exact (by first | with_reducible rfl | trivial | rfl | assumption)
  · have hz' : ¬ (0 : Int) < (b.length : Int) := by omega
    simp only [sA, Int.reduceNegSucc, reduceCtorEq, Nat.reduceEqDiff, ↓reduceIte, Nat.reduceAdd, Int.reduceEq, Int.reduceLT, Int.reduceLE, Nat.reduceLT, lv, hz']
    refine last _ _ Ea7 ?_ ?_
    · exact (by first | with_reducible rfl | trivial | rfl | assumption)
    · exact (by first | with_reducible rfl | trivial | rfl | assumption)
end Go.Proofs.Zi
namespace Go.Abs
open Go.ChangeShapes Go.WideShapes Go.ChangeAt Go.RowKit
section
variable {H : Type} {enc : TypeId × Value → H} {P : Program}
theorem trodAll_below {W W' : World} {base : Nat} {sp : Nat → Bool} {held : Bool} (hb : Below W.heap.size W W') : ∀ {ts : List TypeId} {vs : List Value} {ds : List (DataW H)} {ps : List MemPlace},
    DataW.TrodAll enc P W base sp held ts vs ds ps → DataW.TrodAll enc P W' base sp held ts vs ds ps
  | [], [], [], _, h => h
  | _ :: _, _ :: _, _ :: _, _, ⟨p, q, ⟨n, h1⟩, h2, e⟩ => by
    refine ⟨p, q, ⟨n, DataW.trod_carry n _ _ _ h1 fun x hx => hb.same (DataW.trod_lt n _ _ _ h1 x hx)⟩, trodAll_below hb h2, e⟩
theorem trodVars_below {W W' : World} {sp : Nat → Bool} {gs : List (DataW H)} {q : List MemPlace} (h : DataW.TrodVars enc P W sp [] gs q) : DataW.TrodVars enc P W' sp [] gs q := by
  obtain ⟨rfl, rfl⟩ := trodVars_none h
  exact h
theorem law_post {f : Func} {s : ChangeSpec} {apart : Bool} {W W' : World} {args : Array Value} {ds gs : List (DataW H)} {before : List MemPlace} {tb : TypeId}
    (hl : laidOutB P = true) (hm : mapsRowed P = true)
    (hz : ((List.range P.types.size).all fun t => match P.underlying t with | some (.slice e) => decide (0 < P.cellsOf e) | _ => true) = true)
    (hts : (f.params.toList.all fun t => decide (t < P.types.size)) = true) (hv : s.vars = [])
    (hW : DataW.Whole enc P f.params.toList s.vars apart W args.toList ds gs before)
    (hfn : s.fn H (ds ++ gs) = { results := [.lit (.bool true)], args := ds }) (hr : f.resultTypes = #[tb]) (ht : P.underlying tb = some .bool) (hb : Below W.heap.size W W') :
    s.post enc P f apart true false false W args (.bool true) W' := by
  have hlt : ∀ p ∈ before, p.block < W.heap.size := fun p hp => hW.lt p hp
  have hW0 := hW
  obtain ⟨p, q, hA, hV, rfl, hfz, hnd⟩ := hW
  rw [hv] at hV
  obtain ⟨rfl, rfl⟩ := trodVars_none hV
  have hT : ∀ t ∈ f.params.toList, t < P.types.size := fun t ht => by simpa using List.all_eq_true.1 hts t ht
  refine ⟨ds, [], p ++ [], [], p, [], hW0, ?_, ?_, ?_, World.keptBut_mono (fun x hx => ⟨hx, by simpa using hx⟩) (hb.frame (· ∈ p ++ [])), fun h => by simp at h⟩
  · rw [hfn, hr]
    exact trodAll_cons_mk (shut_bool ht _) trodAll_mk0
  · rw [hfn]
    refine trodAll_below hb (DataW.TrodAll.respare (kids_rows hl hm) (slices_full_of P hz) hT hA fun x hx => ?_)
    simpa using hlt x (by simpa using hx)
  · rw [hfn, hv]
    exact trodVars_below (W := W) hV
end
end Go.Abs
