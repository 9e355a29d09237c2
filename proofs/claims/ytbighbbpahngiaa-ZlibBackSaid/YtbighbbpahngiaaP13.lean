/- Part of a proof (I53 I54 I56 IZ I57 I58 I55 I59); no condition. -/
import Derived.Test.YtbighbbpahngiaaProg
import Derived.KernelRfl
import Derived.Test.YtbighbbpahngiaaP7
import Derived.Test.YtbighbbpahngiaaP12
set_option linter.unusedSimpArgs false
set_option linter.unusedVariables false
set_option linter.unnecessarySimpa false
namespace Go.Proofs.Zi
open Go.Abs Go.Abs.S
set_option linter.unusedSimpArgs false
def At (S : List Bool) (p : Nat) (X : List Bool) : Prop := p ≤ S.length ∧ X <+: S.drop p
theorem At.app {S : List Bool} {p : Nat} {X Y : List Bool} (h : At S p (X ++ Y)) : At S p X ∧ At S (p + X.length) Y := by
  obtain ⟨h1, t, h2⟩ := h
  have hl : (X ++ Y ++ t).length = S.length - p := by rw [h2, List.length_drop]
  simp only [List.length_append] at hl
  refine ⟨⟨h1, Y ++ t, by rw [← h2, List.append_assoc]⟩, by omega, t, ?_⟩
  rw [← List.drop_drop, ← h2, List.append_assoc, List.drop_left]
theorem At.len {S : List Bool} {p : Nat} {X : List Bool} (h : At S p X) : p + X.length ≤ S.length := by
  obtain ⟨h1, t, h2⟩ := h
  have hl : (X ++ t).length = S.length - p := by rw [h2, List.length_drop]
  simp only [List.length_append] at hl
  omega
theorem At.take {S : List Bool} {p : Nat} {X : List Bool} (h : At S p X) : (S.drop p).take X.length = X := by
  obtain ⟨h1, t, h2⟩ := h
  rw [← h2, List.take_left]
theorem At.get {S : List Bool} {p j : Nat} {X : List Bool} (h : At S p X) {c : Bool} (hj : X[j]? = some c) : S[p + j]? = some c := by
  obtain ⟨h1, t, h2⟩ := h
  rw [← List.getElem?_drop, ← h2, List.getElem?_append_left (List.getElem?_eq_some_iff.1 hj).1, hj]
theorem getM_at {S : List Bool} {p v k : Nat} (h : At S p (bitsN v k)) (hv : v < 2 ^ k) : getM k S p = .ok v (p + k) := by
  have h1 := h.len
  have h2 := h.take
  rw [bitsN_len] at h1 h2
  unfold getM
  rw [if_pos h1, h2, natOf_bits hv]
theorem symM_at {cnt syms : List Nat} {S X : List Bool} {p : Nat} (h : At S p X) : ∀ (f long code first at_ j t e : Nat), symM cnt syms X f long code first at_ j = .ok t e → symM cnt syms S f long code first at_ (p + j) = .ok t (p + e)
  | 0, _, _, _, _, _, _, _, hx => by cases hx
  | f + 1, long, code, first, at_, j, t, e, hx => by
    unfold symM at hx ⊢
    cases hc : X[j]? with
    | none => rw [hc] at hx; cases hx
    | some c =>
      rw [hc] at hx
      rw [h.get hc]
      simp only at hx ⊢
      obtain ⟨cc, hcc⟩ : ∃ x, x = 2 * code + (if c then 1 else 0) := ⟨_, rfl⟩
      rw [← hcc] at hx ⊢
      by_cases c1 : cc < 2 * first
      · rw [if_pos c1] at hx; cases hx
      rw [if_neg c1] at hx ⊢
      by_cases c2 : cc - 2 * first < cnt.getD long 0
      · rw [if_pos c2] at hx ⊢
        cases hs : syms[at_ + (cc - 2 * first)]? with
        | none => rw [hs] at hx; cases hx
        | some sy =>
          rw [hs] at hx
          injection hx with h1 h2
          subst h1 h2
          rfl
      · rw [if_neg c2] at hx ⊢
        exact symM_at h f _ _ _ _ _ _ _ hx
theorem nearM_at {S : List Bool} {p s : Nat} (hs : s < 286) (h : At S p (fixB s)) : nearM S p = .ok s (p + (fixB s).length) := by
  have hn := all_range near_sym hs
  cases e : symM (cntT nearL) (symT nearL) (fixB s) 15 1 0 0 0 0 with
  | ok t q =>
    rw [e] at hn
    simp only [Bool.and_eq_true, Nat.beq_eq] at hn
    have := symM_at h _ _ _ _ _ _ _ _ e
    rw [hn.1, hn.2] at this
    exact this
  | bad _ => rw [e] at hn; cases hn
  | unk => rw [e] at hn; cases hn
theorem farM_at {S : List Bool} {p s : Nat} (hs : s < 30) (h : At S p (bitsN s 5).reverse) : farM S p = .ok s (p + 5) := by
  have hn := all_range far_sym hs
  cases e : symM (cntT farL) (symT farL) (bitsN s 5).reverse 15 1 0 0 0 0 with
  | ok t q =>
    rw [e] at hn
    simp only [Bool.and_eq_true, Nat.beq_eq] at hn
    have := symM_at h _ _ _ _ _ _ _ _ e
    rw [hn.1, hn.2] at this
    exact this
  | bad _ => rw [e] at hn; cases hn
  | unk => rw [e] at hn; cases hn
theorem len_tab : (List.range 259).all (fun n => Nat.blt n 3 || (if n = 258 then Nat.beq (find lenL n) 28 && Nat.beq (lenE.getD (find lenL n) 0) 0 else Nat.blt (find lenL n) 28 && (if find lenL n < 4 then Nat.beq n (3 + find lenL n) && Nat.beq (lenE.getD (find lenL n) 0) 0 else Nat.beq (lenE.getD (find lenL n) 0) (find lenL n / 4 - 1) && (Nat.beq n (3 + ((4 + find lenL n % 4) * 2 ^ (find lenL n / 4 - 1) + (n - lenL.getD (find lenL n) 0))) && Nat.blt (n - lenL.getD (find lenL n) 0) (2 ^ lenE.getD (find lenL n) 0))))) = true := by decide +kernel
theorem span_at {S : List Bool} {p sp gr v : Nat} (hg : ¬ sp < gr) (h : At S p (bitsN v (sp / gr - 1))) (hv : v < 2 ^ (sp / gr - 1)) : spanM sp gr S p = .ok ((gr + sp % gr) * 2 ^ (sp / gr - 1) + v) (p + (sp / gr - 1)) := by
  have h1 := h.len
  have h2 := h.take
  rw [bitsN_len] at h1 h2
  unfold spanM
  rw [if_neg hg, if_pos h1, h2, natOf_bits hv]
theorem len_at {S : List Bool} {p n : Nat} (h1 : 3 ≤ n) (h2 : n ≤ 258) (h : At S p (bitsN (n - lenL.getD (find lenL n) 0) (lenE.getD (find lenL n) 0))) : find lenL n ≤ 28 ∧ lenM (find lenL n) S p = .ok n (p + lenE.getD (find lenL n) 0) := by
  have hn := all_range len_tab (i := n) (by omega)
  have hn3 : Nat.blt n 3 = false := Bool.eq_false_iff.2 (by rw [ne_eq, Nat.blt_eq]; omega)
  rw [hn3, Bool.false_or] at hn
  generalize find lenL n = sp at *
  by_cases he : n = 258
  · rw [if_pos he] at hn
    simp only [Bool.and_eq_true, Nat.beq_eq] at hn
    obtain ⟨rfl, h0⟩ := hn
    refine ⟨Nat.le_refl _, ?_⟩
    rw [h0, he]; rfl
  · rw [if_neg he] at hn
    simp only [Bool.and_eq_true, Nat.blt_eq] at hn
    obtain ⟨hs, hn⟩ := hn
    refine ⟨by omega, ?_⟩
    unfold lenM
    rw [if_pos hs]
    by_cases h4 : sp < 4
    · rw [if_pos h4] at hn
      simp only [Bool.and_eq_true, Nat.beq_eq] at hn
      obtain ⟨e, h0⟩ := hn
      have : spanM sp 4 S p = .ok sp p := by unfold spanM; rw [if_pos h4]
      rw [this, h0]
      simp only [SR.bind]
      rw [← e]; rfl
    · rw [if_neg h4] at hn
      simp only [Bool.and_eq_true, Nat.beq_eq, Nat.blt_eq] at hn
      obtain ⟨e1, e2, e3⟩ := hn
      rw [e1] at h e3 ⊢
      rw [span_at h4 h e3]
      simp only [SR.bind]
      rw [← e2]
theorem dis_tab2 : (List.range 30).all (fun sp => if sp < 2 then Nat.beq (disL.getD sp 0) (1 + sp) && Nat.beq (disE.getD sp 0) 0 else Nat.beq (disE.getD sp 0) (sp / 2 - 1) && Nat.beq (disL.getD sp 0) (1 + (2 + sp % 2) * 2 ^ (sp / 2 - 1))) = true := by decide +kernel
theorem findF_le (l : List Nat) (n : Nat) : ∀ (f k : Nat), l.getD k 0 ≤ n → l.getD (findF l n f k) 0 ≤ n
  | 0, k, h => h
  | f + 1, k, h => by
    unfold findF
    split
    · rename_i hk; exact findF_le l n f (k + 1) hk.2
    · exact h
theorem dis_at {S : List Bool} {p n : Nat} (h1 : 1 ≤ n) (h2 : n ≤ 32768) (h : At S p (bitsN (n - disL.getD (find disL n) 0) (disE.getD (find disL n) 0))) : find disL n < 30 ∧ spanM (find disL n) 2 S p = .ok (n - 1) (p + disE.getD (find disL n) 0) := by
  have hle : disL.getD (find disL n) 0 ≤ n := findF_le disL n _ 0 h1
  obtain ⟨_, q2, q3, q4⟩ := dis_ok h1 h2
  simp only [disR] at q2 q3 q4
  rw [q2] at q4
  have q5 : n - disL.getD (find disL n) 0 < 2 ^ disE.getD (find disL n) 0 := by
    simp only [fldOk, Bool.and_eq_true, Nat.blt_eq] at q4; exact q4.1
  have ht := all_range dis_tab2 (i := find disL n) (by omega)
  generalize find disL n = sp at *
  refine ⟨by omega, ?_⟩
  by_cases hs : sp < 2
  · rw [if_pos hs] at ht
    simp only [Bool.and_eq_true, Nat.beq_eq] at ht
    rw [ht.2] at q5 ⊢
    rw [ht.1] at hle q5
    unfold spanM
    rw [if_pos hs]
    congr 1
    omega
  · rw [if_neg hs] at ht
    simp only [Bool.and_eq_true, Nat.beq_eq] at ht
    rw [ht.1] at h q5 ⊢
    rw [span_at hs h q5]
    congr 1
    have := ht.2
    omega
theorem copyB_at {b : Bs} {back : Nat} : ∀ (m i pos : Nat), i - pos = back → pos < i → i + m ≤ b.length → (∀ j, j < m → b[pos + j]? = b[i + j]?) → copyB back m (b.take i) = b.take (i + m)
  | 0, _, _, _, _, _, _ => rfl
  | m + 1, i, pos, hb, hp, hl, he => by
    have hx : (b.take i).getD ((b.take i).length - back) 0 = b.getD i 0 := by
      have h0 := he 0 (by omega)
      rw [Nat.add_zero, Nat.add_zero] at h0
      rw [List.length_take, List.getD_eq_getElem?_getD, List.getD_eq_getElem?_getD, show min i b.length - back = pos by omega, List.getElem?_take_of_lt hp, h0]
    have e : b.take i ++ [b.getD i 0] = b.take (i + 1) := by
      rw [List.take_add_one, List.getD_eq_getElem?_getD, List.getElem?_eq_getElem (by omega : i < b.length)]; rfl
    unfold copyB
    rw [hx, e, copyB_at m (i + 1) (pos + 1) (by omega) (by omega) (by omega) fun j hj => by
      have := he (j + 1) (by omega)
      rw [show pos + 1 + j = pos + (j + 1) by omega, show i + 1 + j = i + (j + 1) by omega]; exact this]
    congr 1; omega
theorem toks_at {S : List Bool} {b : Bs} {to most : Nat} (hto : to ≤ b.length) (hm : to ≤ most) (h2 : to ≤ 20000) : ∀ (f i p F : Nat), to - i ≤ f → i ≤ to → At S p ((toksF b to f i).flatMap tokB ++ fixB 256) → (toksF b to f i).length < F → symsM S most F (b.take i) p = .ok (b.take to) (p + ((toksF b to f i).flatMap tokB ++ fixB 256).length)
  | f, i, p, 0, _, _, _, hF => by omega
  | 0, i, p, F + 1, h1, hi, h, _ => by
    obtain rfl : i = to := by omega
    simp only [toksF, List.flatMap_nil, List.nil_append] at h ⊢
    unfold symsM
    rw [nearM_at (by omega) h]
    rfl
  | f + 1, i, p, F + 1, h1, hi, h, hF => by
    unfold toksF at h hF ⊢
    by_cases hlt : i < to
    · rw [if_pos hlt] at h hF ⊢
      by_cases h3 : 3 ≤ (matchF b i to).1
      · rw [if_pos h3] at h hF ⊢
        have hb := best_spec b i (mlen i to) i (0, 0) (Nat.le_refl _) (.inl rfl)
        have hmf : best b i (mlen i to) i (0, 0) = matchF b i to := rfl
        rw [hmf] at hb
        obtain ⟨n, hn⟩ : ∃ n, n = (matchF b i to).1 := ⟨_, rfl⟩
        obtain ⟨pos, hpos⟩ : ∃ n, n = (matchF b i to).2 := ⟨_, rfl⟩
        rw [← hn, ← hpos] at hb
        rw [← hn] at h3
        rw [← hn, ← hpos] at h hF ⊢
        have hb' : pos < i ∧ n = run b pos i (mlen i to) := by
          rcases hb with hb | hb
          · omega
          · exact hb
        have hrl := run_le b pos i (mlen i to)
        have hml : mlen i to ≤ 258 ∧ mlen i to ≤ to - i := by unfold mlen; omega
        rw [List.flatMap_cons, List.append_assoc] at h ⊢
        have htb : tokB ⟨n, i - pos, 0⟩ = lenB n ++ disB (i - pos) := by unfold tokB; rw [if_neg (by simp only; omega)]
        rw [htb] at h ⊢
        obtain ⟨ha, hrest⟩ := h.app
        obtain ⟨hl, hd⟩ := ha.app
        unfold lenB at hl
        obtain ⟨hl1, hl2⟩ := hl.app
        unfold disB at hd
        obtain ⟨hd1, hd2⟩ := hd.app
        obtain ⟨k1, k2⟩ := len_at h3 (by omega) hl2
        have hls : (lenB n).length = (fixB (257 + find lenL n)).length + lenE.getD (find lenL n) 0 := by unfold lenB; rw [List.length_append, bitsN_len]
        have h5 : (bitsN (find disL (i - pos)) 5).reverse.length = 5 := by rw [List.length_reverse, bitsN_len]
        rw [h5] at hd2
        obtain ⟨k3, k4⟩ := dis_at (n := i - pos) (by omega) (by omega) hd2
        have hds : (disB (i - pos)).length = 5 + disE.getD (find disL (i - pos)) 0 := by unfold disB; rw [List.length_append, bitsN_len, h5]
        have hq : p + (fixB (257 + find lenL n)).length + lenE.getD (find lenL n) 0 = p + (lenB n).length := by rw [hls]; omega
        have hMR : matchR S most n (b.take i) (p + (lenB n).length) = .ok (b.take (i + n)) (p + (lenB n).length + (disB (i - pos)).length) := by
          unfold matchR
          rw [farM_at k3 hd1]
          simp only [SR.bind]
          rw [if_neg (by omega), k4]
          simp only
          rw [if_neg (by rw [List.length_take]; omega), if_neg (by rw [List.length_take]; omega), show 1 + (i - pos - 1) = i - pos by omega, copyB_at n i pos rfl hb'.1 (by omega) fun j hj => run_at b (mlen i to) pos i j (by omega), hds]
          congr 1; omega
        have hMM : matchM S most (257 + find lenL n - 257) (b.take i) (p + (fixB (257 + find lenL n)).length) = .ok (b.take (i + n)) (p + (lenB n).length + (disB (i - pos)).length) := by
          unfold matchM
          rw [show 257 + find lenL n - 257 = find lenL n by omega, k2]
          simp only [SR.bind]
          rw [hq, hMR]
        unfold symsM
        rw [nearM_at (by omega) hl1]
        simp only [SR.bind]
        rw [if_neg (by omega), if_neg (by omega), if_pos (by omega), hMM]
        simp only
        have hp : p + (lenB n ++ disB (i - pos)).length = p + (lenB n).length + (disB (i - pos)).length := by rw [List.length_append]; omega
        rw [hp] at hrest
        rw [toks_at hto hm h2 f (i + n) _ F (by omega) (by omega) hrest (by simp only [List.length_cons] at hF; omega)]
        have hz : ∀ (a c x : Nat), a = c → (SR.ok (b.take to) a : SR Bs) = SR.ok (b.take to) c := fun a c _ e => by rw [e]
        exact hz _ _ 0 (by simp only [List.length_append]; omega)
      · rw [if_neg h3] at h hF ⊢
        rw [List.flatMap_cons, List.append_assoc] at h ⊢
        have hbl := (b.getD i 0).toNat_lt
        have htb : tokB ⟨0, 0, b.getD i 0⟩ = fixB (b.getD i 0).toNat := by unfold tokB; rw [if_pos rfl]
        rw [htb] at h ⊢
        obtain ⟨ha, hrest⟩ := h.app
        have e : b.take i ++ [b.getD i 0] = b.take (i + 1) := by
          rw [List.take_add_one, List.getD_eq_getElem?_getD, List.getElem?_eq_getElem (by omega : i < b.length)]; rfl
        unfold symsM
        rw [nearM_at (by omega) ha]
        simp only [SR.bind]
        have hu : UInt8.ofNat (b.getD i 0).toNat = b.getD i 0 := by simp
        rw [if_pos (by omega), if_neg (by rw [List.length_take]; omega), hu, e, toks_at hto hm h2 f (i + 1) _ F (by omega) (by omega) hrest (by simp only [List.length_cons] at hF; omega)]
        have hz : ∀ (a c x : Nat), a = c → (SR.ok (b.take to) a : SR Bs) = SR.ok (b.take to) c := fun a c _ e => by rw [e]
        exact hz _ _ 0 (by simp only [List.length_append]; omega)
    · rw [if_neg hlt] at h hF ⊢
      obtain rfl : i = to := by omega
      simp only [List.flatMap_nil, List.nil_append] at h ⊢
      unfold symsM
      rw [nearM_at (by omega) h]
      rfl
theorem toksF_len (b : Bs) (to : Nat) : ∀ (f i : Nat), (toksF b to f i).length ≤ f
  | 0, _ => Nat.le_refl _
  | f + 1, i => by
    unfold toksF
    split
    · split
      · have := toksF_len b to f (i + (matchF b i to).1); simp only [List.length_cons]; omega
      · have := toksF_len b to f (i + 1); simp only [List.length_cons]; omega
    · simp
theorem bytesM_at {S : List Bool} : ∀ (l o : Bs) (q : Nat), At S q (l.flatMap fun x => bitsN x.toNat 8) → bytesM S l.length o q = .ok (o ++ l) (q + 8 * l.length)
  | [], o, q, _ => by simp [bytesM]
  | x :: l, o, q, h => by
    rw [List.flatMap_cons] at h
    obtain ⟨h1, h2⟩ := h.app
    rw [bitsN_len] at h2
    have := x.toNat_lt
    show bytesM S (l.length + 1) o q = _
    unfold bytesM
    rw [getM_at h1 (by omega)]
    simp only [SR.bind]
    have hu : UInt8.ofNat x.toNat = x := by simp
    rw [hu, bytesM_at l _ _ h2, List.append_assoc]
    simp only [List.length_cons, List.cons_append, List.nil_append]
    congr 1; omega
theorem block_at {S : List Bool} {b : Bs} {ln m sent to p most F : Nat} (hln : ln ≤ 1) (hst : sent ≤ to) (hto : to ≤ b.length) (hb : b.length ≤ 20000) (hm : to ≤ most) (hF : 20000 < F) (hp : p % 8 = m % 8) (h : At S p (blkB ln m b sent to)) : blockM S most F (b.take sent) p = .ok (b.take to, ln == 0) (p + (blkB ln m b sent to).length) := by
  have hfill : fillN (m + 3) = fillN (p + 3) := by unfold fillN; omega
  have hsl := segB_len hst hto
  unfold blkB at h ⊢
  split at h
  · rename_i hc
    rw [if_pos hc] at ⊢
    have e : stoH ln m (to - sent) ++ fldBits (byFl (segB b sent to)) = bitsN ln 1 ++ (bitsN 0 2 ++ (List.replicate (fillN (p + 3)) false ++ (bitsN (to - sent) 16 ++ (bitsN (65535 - (to - sent)) 16 ++ (segB b sent to).flatMap fun x => bitsN x.toNat 8)))) := by
      rw [byFl_bits]; simp only [stoH, List.append_assoc, hfill]
    rw [e] at h ⊢
    obtain ⟨h1, h⟩ := h.app
    obtain ⟨h2, h⟩ := h.app
    obtain ⟨h3, h⟩ := h.app
    obtain ⟨h4, h⟩ := h.app
    obtain ⟨h5, h6⟩ := h.app
    simp only [bitsN_len, List.length_replicate] at h2 h4 h5 h6
    have hS : storedM S most (b.take sent) (p + 1 + 2) = .ok (b.take to) (p + 1 + 2 + fillN (p + 3) + 16 + 16 + 8 * (to - sent)) := by
      unfold storedM
      rw [show p + 1 + 2 + fillN (p + 1 + 2) = p + 1 + 2 + fillN (p + 3) from rfl, getM_at h4 (by omega)]
      simp only [SR.bind]
      rw [getM_at h5 (by omega)]
      simp only
      rw [if_neg (by omega), if_neg (by rw [List.length_take]; omega)]
      have := bytesM_at (segB b sent to) (b.take sent) _ h6
      rw [hsl] at this
      rw [this]
      congr 1
      unfold segB
      rw [← List.take_add, show sent + (to - sent) = to by omega]
    unfold blockM
    rw [getM_at h1 (by omega)]
    simp only [SR.bind]
    rw [getM_at h2 (by omega)]
    simp only
    rw [if_pos trivial, hS]
    simp only
    congr 1
    have hbl : ((segB b sent to).flatMap fun x => bitsN x.toNat 8).length = 8 * (to - sent) := by
      rw [← hsl]; exact bitsB_len _
    simp only [List.length_append, bitsN_len, List.length_replicate, hbl]; omega
  · rename_i hc
    rw [if_neg hc] at ⊢
    obtain ⟨e, _⟩ := blockFl_ok hln (toks_ok b to (by omega) (to - sent) sent)
    have e' : fldBits (blockFl ln (toks b sent to)) = bitsN ln 1 ++ (bitsN 1 2 ++ ((toks b sent to).flatMap tokB ++ fixB 256)) := by
      unfold toks
      rw [e]; simp only [fixedB, List.append_assoc]
    rw [e'] at h ⊢
    obtain ⟨h1, h⟩ := h.app
    obtain ⟨h2, h⟩ := h.app
    simp only [bitsN_len] at h2 h
    have hl := toksF_len b to (to - sent) sent
    have hS := toks_at (S := S) (b := b) (to := to) (most := most) hto hm (by omega) (to - sent) sent (p + 1 + 2) F (Nat.le_refl _) hst h (by omega)
    unfold blockM
    rw [getM_at h1 (by omega)]
    simp only [SR.bind]
    rw [getM_at h2 (by omega)]
    simp only
    rw [if_neg (by omega), if_pos trivial, hS]
    simp only
    congr 1
    simp only [List.length_append, bitsN_len, toks]; omega
theorem blks_all {most F t p : Nat} {c c' : Bs} {X : List Bool} (h : Blks t c X c') (hm : 20000 ≤ most) (hF : 20000 < F) (hp : p % 8 = t % 8) : ∃ k, ∀ f S, At S p X → blocksM S most F (f + k) c p = blocksM S most F f c' (p + X.length) := by
  induction h with
  | nil => exact ⟨0, fun f S _ => rfl⟩
  | more h e h1 h2 h3 ih =>
    obtain ⟨k, hk⟩ := ih
    refine ⟨k + 1, fun f S ha => ?_⟩
    obtain ⟨a1, a2⟩ := ha.app
    rw [show f + (k + 1) = (f + 1) + k by omega, hk (f + 1) S a1, e, blocksM, block_at (by omega) h1 h2 h3 (by omega) hF (by omega) a2]
    simp only [SR.bind]
    rw [if_pos (show ((0 : Nat) == 0) = true from rfl), List.length_append]
    congr 1; omega
theorem bits_pack {T : List Bool} (h : T.length % 8 = 0) : bitsB ((pack T).map UInt8.ofNat) = T := by
  apply List.ext_getElem?
  intro i
  have hl : (bitsB ((pack T).map UInt8.ofNat)).length = T.length := by rw [bitsB_len, List.length_map, pack_len]; omega
  by_cases hi : i < T.length
  · have hb := bitsB_drop ((pack T).map UInt8.ofNat) (i / 8)
    have hj : i / 8 < (pack T).length := by rw [pack_len]; omega
    have e1 : (bitsB ((pack T).map UInt8.ofNat))[i]? = (bitsB (((pack T).map UInt8.ofNat).drop (i / 8)))[i % 8]? := by
      rw [← hb, List.getElem?_drop, show 8 * (i / 8) + i % 8 = i by omega]
    have hg := pack_get (l := T) (j := i / 8) (by omega)
    have e2 : ((pack T).map UInt8.ofNat).drop (i / 8) = UInt8.ofNat (byteAt T (i / 8)) :: ((pack T).map UInt8.ofNat).drop (i / 8 + 1) := by
      rw [List.drop_eq_getElem_cons (by rw [List.length_map]; exact hj)]
      congr 1
      rw [List.getElem_map]
      congr 1
      have := List.getElem?_eq_getElem hj
      rw [hg] at this
      exact (Option.some.inj this).symm
    have hlt := byteAt_lt T (i / 8)
    have hu : (UInt8.ofNat (byteAt T (i / 8))).toNat = byteAt T (i / 8) := by simp; omega
    rw [e1, e2]
    simp only [bitsB, List.flatMap_cons]
    rw [List.getElem?_append_left (by rw [bitsN_len]; omega), hu]
    unfold byteAt
    have h8 : ((T.drop (8 * (i / 8))).take 8).length = 8 := by rw [List.length_take, List.length_drop]; omega
    have := bits_natOf ((T.drop (8 * (i / 8))).take 8)
    rw [h8] at this
    rw [this, List.getElem?_take_of_lt (by omega), List.getElem?_drop, show 8 * (i / 8) + i % 8 = i by omega]
  · rw [List.getElem?_eq_none (by omega), List.getElem?_eq_none (by omega)]
end Go.Proofs.Zi
namespace Go.Proofs.Zi
open Go.Abs Go.Abs.S
set_option linter.unusedSimpArgs false
theorem bitsB_append (a b : Bs) : bitsB (a ++ b) = bitsB a ++ bitsB b := by simp [bitsB]
structure Told (b d : Bs) (G q : Nat) : Prop where
  q1 : 8 * d.length < q + 8
  q2 : q ≤ 8 * d.length
  ok : ∀ S, At S 0 (bitsB d) → blocksM S 20000 20001 G [] 0 = .ok b q
theorem told_of {b c1 : Bs} {T1 T2 M1 M2 X1 X2 : List Bool} {sent : Nat} (hb : b.length ≤ 20000) (hs : sent ≤ b.length) (b1 : Blks 0 [] X1 c1) (b2 : Blks M1.length c1 X2 (b.take sent)) (e1 : T1 ++ M1 = X1) (e2 : T2 ++ M2 = M1 ++ X2) (t1 : T1.length % 8 = 0) (t2 : T2.length % 8 = 0) :
    ∃ G q, Told b ((pack T1).map UInt8.ofNat ++ (pack T2).map UInt8.ofNat ++ (pack (M2 ++ endX M2.length b sent)).map UInt8.ofNat) G q := by
  have l1 : X1.length = T1.length + M1.length := by rw [← e1, List.length_append]
  have l2 : T2.length + M2.length = M1.length + X2.length := by rw [← List.length_append, e2, List.length_append]
  obtain ⟨eb, heb⟩ : ∃ e, e = blkB 1 M2.length b sent b.length := ⟨_, rfl⟩
  obtain ⟨fl, hfl⟩ : ∃ f, f = fillN (M2.length + eb.length) := ⟨_, rfl⟩
  have hend : endX M2.length b sent = eb ++ List.replicate fl false := by unfold endX; rw [heb, hfl, heb]
  have t3 : (M2 ++ endX M2.length b sent).length % 8 = 0 := by
    rw [hend]; simp only [List.length_append, List.length_replicate]
    have := fill_ok (M2.length + eb.length)
    rw [← hfl] at this; omega
  have hbits : bitsB ((pack T1).map UInt8.ofNat ++ (pack T2).map UInt8.ofNat ++ (pack (M2 ++ endX M2.length b sent)).map UInt8.ofNat) = X1 ++ (X2 ++ (eb ++ List.replicate fl false)) := by
    rw [bitsB_append, bitsB_append, bits_pack t1, bits_pack t2, bits_pack t3, hend, ← e1]
    have : T2 ++ (M2 ++ (eb ++ List.replicate fl false)) = M1 ++ (X2 ++ (eb ++ List.replicate fl false)) := by rw [← List.append_assoc, e2, List.append_assoc]
    simp only [List.append_assoc] at this ⊢
    rw [this]
  generalize (pack T1).map UInt8.ofNat ++ (pack T2).map UInt8.ofNat ++ (pack (M2 ++ endX M2.length b sent)).map UInt8.ofNat = d at hbits ⊢
  have hlen := congrArg List.length hbits
  rw [bitsB_len] at hlen
  simp only [List.length_append, List.length_replicate] at hlen
  have hf7 : fl < 8 := by rw [hfl]; unfold fillN; omega
  obtain ⟨k1, h1⟩ : ∃ k, ∀ f S, At S 0 X1 → blocksM S 20000 20001 (f + k) [] 0 = blocksM S 20000 20001 f c1 (0 + X1.length) := blks_all b1 (by omega) (by omega) (by omega)
  obtain ⟨k2, h2⟩ : ∃ k, ∀ f S, At S X1.length X2 → blocksM S 20000 20001 (f + k) c1 X1.length = blocksM S 20000 20001 f (b.take sent) (X1.length + X2.length) := blks_all b2 (by omega) (by omega) (by omega)
  refine ⟨1 + k2 + k1, X1.length + X2.length + eb.length, by omega, by omega, fun S hS => ?_⟩
  rw [hbits] at hS
  obtain ⟨a1, hS⟩ := hS.app
  rw [Nat.zero_add] at hS
  obtain ⟨a2, hS⟩ := hS.app
  obtain ⟨a3, _⟩ := hS.app
  rw [h1 _ S a1, Nat.zero_add, h2 _ S a2]
  unfold blocksM
  rw [heb] at a3 ⊢
  rw [block_at (by omega) hs (Nat.le_refl _) hb (by omega) (by omega) (by omega) a3, List.take_length]
  rfl
theorem Told.most {b d : Bs} {G q : Nat} (h : Told b d G q) (hb : b.length ≤ 20000) {S : List Bool} (hS : At S 0 (bitsB d)) : blocksM S b.length 20001 G [] 0 = .ok b q := by
  have := (blocksM_less (m := b.length) G [] 0 (Nat.zero_le _)).1 b q (h.ok S hS)
  rw [if_pos (Nat.le_refl _)] at this
  exact this
theorem at_self (X Y : List Bool) : At (X ++ Y) 0 X := ⟨Nat.zero_le _, Y, rfl⟩
end Go.Proofs.Zi
namespace Go.Proofs.Zi
open Go.Abs Go.Abs.S
set_option linter.unusedSimpArgs false
theorem lit_cel (H : AHeap) (d : Bs) {m : Nat} (hm : d.length = m) : Cel (H.next + 1) (H.push (.cells (byts d) 0 false)) (slR H.next m (.known m)) (byts d) :=
  (row_push H (byts d)).cel (by rw [byts_len]; exact hm) (Nat.lt_succ_self _)
end Go.Proofs.Zi
namespace Go.Proofs.Zi
open Go.Abs Go.Abs.S
noncomputable section
def c7 : AFn := ⟨140, (.seq (.reg [⟨(some 8), .mv (.c (.bool false)), none⟩]) (.seq (.seq (.reg [⟨(some 25), .mv (.t 0), none⟩, ⟨(some 26), .len false (.t 25), none⟩, ⟨(some 27), .bin .gtr (.t 26) (.c (.int .i64 (.ofNat 10000))), none⟩]) (.cond (.t 27) (.seq (.reg [⟨(some 28), .call 21 [], none⟩, ⟨(some 8), .mv (.t 28), none⟩]) .ret) .skip)) (.seq (.reg [⟨(some 29), .call 16 [], none⟩, ⟨(some 9), .mv (.t 29), none⟩]) (.seq (.reg [⟨(some 30), .mv (.t 1), none⟩, ⟨(some 31), .mv (.t 0), none⟩, ⟨(some 32), .len false (.t 31), none⟩, ⟨(some 33), .bin .add (.t 32) (.c (.int .i64 (.ofNat 1))), none⟩, ⟨(some 34), .call 10 [(.t 30), (.t 33)], none⟩, ⟨(some 1), .mv (.t 34), none⟩]) (.seq (.reg [⟨(some 36), .mv (.t 9), none⟩, ⟨(some 37), .mv (.t 0), none⟩, ⟨(some 38), .mv (.t 1), none⟩, ⟨(some 39), .sl 1 (.t 37) none (some (.t 38)) none, none⟩, ⟨(some 40), .call 17 [(.t 36), (.t 39)], none⟩, ⟨(some 35), .mv (.t 40), none⟩, ⟨(some 41), .extract 0 (.t 35), none⟩, ⟨(some 42), .extract 1 (.t 35), none⟩, ⟨(some 10), .mv (.t 41), none⟩, ⟨(some 11), .mv (.t 42), none⟩]) (.seq (.reg [⟨(some 44), .mv (.t 9), none⟩, ⟨(some 45), .mv (.t 0), none⟩, ⟨(some 46), .mv (.t 1), none⟩, ⟨(some 47), .sl 1 (.t 45) (some (.t 46)) none none, none⟩, ⟨(some 48), .call 17 [(.t 44), (.t 47)], none⟩, ⟨(some 43), .mv (.t 48), none⟩, ⟨(some 49), .extract 0 (.t 43), none⟩, ⟨(some 50), .extract 1 (.t 43), none⟩, ⟨(some 12), .mv (.t 49), none⟩, ⟨(some 13), .mv (.t 50), none⟩]) (.seq (.reg [⟨(some 52), .mv (.t 9), none⟩, ⟨(some 53), .call 18 [(.t 52)], none⟩, ⟨(some 51), .mv (.t 53), none⟩, ⟨(some 54), .extract 0 (.t 51), none⟩, ⟨(some 55), .extract 1 (.t 51), none⟩, ⟨(some 14), .mv (.t 54), none⟩, ⟨(some 15), .mv (.t 55), none⟩]) (.seq (.reg [⟨(some 56), .mv (.t 10), none⟩, ⟨(some 57), .call 13 [(.t 56)], none⟩, ⟨(some 58), .mv (.t 12), none⟩, ⟨(some 59), .append 1 1 (.t 57) (.t 58), none⟩, ⟨(some 60), .mv (.t 14), none⟩, ⟨(some 61), .append 1 1 (.t 59) (.t 60), none⟩, ⟨(some 16), .mv (.t 61), none⟩]) (.seq (.reg [⟨(some 63), .mv (.t 16), none⟩, ⟨(some 64), .mv (.t 0), none⟩, ⟨(some 65), .len false (.t 64), none⟩, ⟨(some 66), .call 24 [(.t 63), (.t 65)], none⟩, ⟨(some 62), .mv (.t 66), none⟩, ⟨(some 67), .extract 0 (.t 62), none⟩, ⟨(some 68), .extract 1 (.t 62), none⟩, ⟨(some 17), .mv (.t 67), none⟩, ⟨(some 18), .mv (.t 68), none⟩]) (.seq (.seq (.reg [⟨(some 69), .mv (.t 11), none⟩, ⟨(some 70), .mv (.t 13), none⟩, ⟨(some 71), .bin .add (.t 69) (.t 70), none⟩, ⟨(some 72), .mv (.t 15), none⟩, ⟨(some 73), .bin .add (.t 71) (.t 72), none⟩, ⟨(some 74), .mv (.t 18), none⟩, ⟨(some 75), .bin .add (.t 73) (.t 74), none⟩, ⟨(some 76), .bin .neq (.t 75) (.c (.int .i64 (.ofNat 0))), none⟩, ⟨(some 77), .mv (.t 76), none⟩, ⟨(some 78), .mv (.t 17), (some (77, false))⟩, ⟨(some 79), .mv (.t 0), (some (77, false))⟩, ⟨(some 80), .call 15 [(.t 78), (.t 79)], (some (77, false))⟩, ⟨(some 81), .un .not (.t 80), (some (77, false))⟩, ⟨(some 82), .pick (.t 77) (.c (.bool true)) (.t 81), none⟩, ⟨(some 83), .mv (.t 82), none⟩, ⟨(some 84), .mv (.t 16), (some (83, false))⟩, ⟨(some 85), .len false (.t 84), (some (83, false))⟩, ⟨(some 86), .bin .lss (.t 85) (.c (.int .i64 (.ofNat 8))), (some (83, false))⟩, ⟨(some 87), .pick (.t 83) (.c (.bool true)) (.t 86), none⟩]) (.cond (.t 87) (.seq (.reg [⟨(some 8), .mv (.c (.bool false)), none⟩]) .ret) .skip)) (.seq (.reg [⟨(some 89), .mv (.t 16), none⟩, ⟨(some 90), .mv (.t 16), none⟩, ⟨(some 91), .len false (.t 90), none⟩, ⟨(some 92), .bin .sub (.t 91) (.c (.int .i64 (.ofNat 1))), none⟩, ⟨(some 93), .sl 1 (.t 89) none (some (.t 92)) none, none⟩, ⟨(some 94), .mv (.t 0), none⟩, ⟨(some 95), .len false (.t 94), none⟩, ⟨(some 96), .call 24 [(.t 93), (.t 95)], none⟩, ⟨(some 88), .mv (.t 96), none⟩, ⟨(some 97), .extract 0 (.t 88), none⟩, ⟨(some 98), .extract 1 (.t 88), none⟩, ⟨(some 19), .mv (.t 97), none⟩, ⟨(some 20), .mv (.t 98), none⟩]) (.seq (.reg [⟨(some 100), .mv (.t 16), none⟩, ⟨(some 101), .call 13 [(.t 100)], none⟩, ⟨(some 102), .mv (.t 3), none⟩, ⟨(some 103), .buildSl 1 [(.int .u8 (.ofNat 0))] [(0, 1, (.t 102))], none⟩, ⟨(some 104), .append 1 1 (.t 101) (.t 103), none⟩, ⟨(some 105), .mv (.t 0), none⟩, ⟨(some 106), .len false (.t 105), none⟩, ⟨(some 107), .call 24 [(.t 104), (.t 106)], none⟩, ⟨(some 99), .mv (.t 107), none⟩, ⟨(some 108), .extract 0 (.t 99), none⟩, ⟨(some 109), .extract 1 (.t 99), none⟩, ⟨(some 21), .mv (.t 108), none⟩, ⟨(some 22), .mv (.t 109), none⟩]) (.seq (.seq (.reg [⟨(some 110), .mv (.t 20), none⟩, ⟨(some 111), .bin .neq (.t 110) (.c (.int .i64 (.ofNat 12))), none⟩, ⟨(some 112), .mv (.t 111), none⟩, ⟨(some 113), .mv (.t 22), (some (112, false))⟩, ⟨(some 114), .bin .neq (.t 113) (.c (.int .i64 (.ofNat 10))), (some (112, false))⟩, ⟨(some 115), .pick (.t 112) (.c (.bool true)) (.t 114), none⟩]) (.cond (.t 115) (.seq (.reg [⟨(some 8), .mv (.c (.bool false)), none⟩]) .ret) .skip)) (.seq (.seq (.reg [⟨(some 116), .mv (.t 3), none⟩, ⟨(some 117), .bin .neq (.t 116) (.c (.int .u8 (.ofNat 0))), none⟩]) (.cond (.t 117) (.seq (.reg [⟨(some 118), .mv (.t 16), none⟩, ⟨(some 119), .mv (.t 16), none⟩, ⟨(some 120), .len false (.t 119), none⟩, ⟨(some 121), .bin .sub (.t 120) (.c (.int .i64 (.ofNat 1))), none⟩, ⟨(some 122), .mv (.t 2), none⟩, ⟨(some 123), .call 10 [(.t 122), (.c (.int .i64 (.ofNat 4)))], none⟩, ⟨(some 124), .bin .sub (.t 121) (.t 123), none⟩, ⟨(some 125), .idxA 1 (.t 118) (.t 124), none⟩, ⟨(some 126), .load false 1 (.t 125), none⟩, ⟨(some 127), .mv (.t 3), none⟩, ⟨(some 128), .bin .xor (.t 126) (.t 127), none⟩, ⟨(some 129), .idxA 1 (.t 118) (.t 124), none⟩, ⟨none, .store 1 (.t 129) (.t 128), none⟩]) (.seq (.reg [⟨(some 131), .mv (.t 16), none⟩, ⟨(some 132), .mv (.t 0), none⟩, ⟨(some 133), .len false (.t 132), none⟩, ⟨(some 134), .call 24 [(.t 131), (.t 133)], none⟩, ⟨(some 130), .mv (.t 134), none⟩, ⟨(some 135), .extract 0 (.t 130), none⟩, ⟨(some 136), .extract 1 (.t 130), none⟩, ⟨(some 23), .mv (.t 135), none⟩, ⟨(some 24), .mv (.t 136), none⟩]) (.seq (.reg [⟨(some 137), .mv (.t 24), none⟩, ⟨(some 138), .bin .neq (.t 137) (.c (.int .i64 (.ofNat 11))), none⟩]) (.cond (.t 138) (.seq (.reg [⟨(some 8), .mv (.c (.bool false)), none⟩]) .ret) .skip)))) .skip)) (.seq (.reg [⟨(some 139), .call 21 [], none⟩, ⟨(some 8), .mv (.t 139), none⟩]) .ret))))))))))))))), [.t 8]⟩
theorem za7 : cN Try.prog 7 = some c7 := by kernel_rfl
def c21 : AFn := ⟨36, (.seq (.reg [⟨(some 0), .mv (.c (.bool false)), none⟩]) (.seq (.reg [⟨(some 4), .call 16 [], none⟩, ⟨(some 5), .call 18 [(.t 4)], none⟩, ⟨(some 3), .mv (.t 5), none⟩, ⟨(some 6), .extract 0 (.t 3), none⟩, ⟨(some 7), .extract 1 (.t 3), none⟩, ⟨(some 1), .mv (.t 6), none⟩, ⟨(some 2), .mv (.t 7), none⟩]) (.seq (.reg [⟨(some 8), .mv (.t 2), none⟩, ⟨(some 9), .bin .eql (.t 8) (.c (.int .i64 (.ofNat 0))), none⟩, ⟨(some 10), .mv (.t 9), none⟩, ⟨(some 11), .mv (.t 1), (some (10, true))⟩, ⟨(some 12), .buildSl 8 [(.int .u8 (.ofNat 0))] [(0, 1, (.c (.int .u8 (.ofNat 120)))), (1, 1, (.c (.int .u8 (.ofNat 1)))), (2, 1, (.c (.int .u8 (.ofNat 3)))), (3, 1, (.c (.int .u8 (.ofNat 0)))), (4, 1, (.c (.int .u8 (.ofNat 0)))), (5, 1, (.c (.int .u8 (.ofNat 0)))), (6, 1, (.c (.int .u8 (.ofNat 0)))), (7, 1, (.c (.int .u8 (.ofNat 1))))], (some (10, true))⟩, ⟨(some 13), .call 15 [(.t 11), (.t 12)], (some (10, true))⟩, ⟨(some 14), .pick (.t 10) (.t 13) (.c (.bool false)), none⟩, ⟨(some 15), .mv (.t 14), none⟩, ⟨(some 16), .call 20 [(.c (.str [97]))], (some (15, true))⟩, ⟨(some 17), .buildSl 9 [(.int .u8 (.ofNat 0))] [(0, 1, (.c (.int .u8 (.ofNat 120)))), (1, 1, (.c (.int .u8 (.ofNat 1)))), (2, 1, (.c (.int .u8 (.ofNat 75)))), (3, 1, (.c (.int .u8 (.ofNat 4)))), (4, 1, (.c (.int .u8 (.ofNat 0)))), (5, 1, (.c (.int .u8 (.ofNat 0)))), (6, 1, (.c (.int .u8 (.ofNat 98)))), (7, 1, (.c (.int .u8 (.ofNat 0)))), (8, 1, (.c (.int .u8 (.ofNat 98))))], (some (15, true))⟩, ⟨(some 18), .call 15 [(.t 16), (.t 17)], (some (15, true))⟩, ⟨(some 19), .pick (.t 15) (.t 18) (.c (.bool false)), none⟩, ⟨(some 20), .mv (.t 19), none⟩, ⟨(some 21), .call 20 [(.c (.str [97]))], (some (20, true))⟩, ⟨(some 22), .call 19 [(.c (.int .i64 (.ofNat 0))), (.t 21)], (some (20, true))⟩, ⟨(some 23), .pick (.t 20) (.t 22) (.c (.bool false)), none⟩, ⟨(some 24), .mv (.t 23), none⟩, ⟨(some 25), .buildSl 8 [(.int .u8 (.ofNat 0))] [(0, 1, (.c (.int .u8 (.ofNat 120)))), (1, 1, (.c (.int .u8 (.ofNat 1)))), (2, 1, (.c (.int .u8 (.ofNat 3)))), (3, 1, (.c (.int .u8 (.ofNat 0)))), (4, 1, (.c (.int .u8 (.ofNat 0)))), (5, 1, (.c (.int .u8 (.ofNat 0)))), (6, 1, (.c (.int .u8 (.ofNat 0)))), (7, 1, (.c (.int .u8 (.ofNat 2))))], (some (24, true))⟩, ⟨(some 26), .call 19 [(.c (.int .i64 (.ofNat 11))), (.t 25)], (some (24, true))⟩, ⟨(some 27), .pick (.t 24) (.t 26) (.c (.bool false)), none⟩, ⟨(some 28), .mv (.t 27), none⟩, ⟨(some 29), .buildSl 1 [(.int .u8 (.ofNat 0))] [(0, 1, (.c (.int .u8 (.ofNat 120))))], (some (28, true))⟩, ⟨(some 30), .call 19 [(.c (.int .i64 (.ofNat 12))), (.t 29)], (some (28, true))⟩, ⟨(some 31), .pick (.t 28) (.t 30) (.c (.bool false)), none⟩, ⟨(some 32), .mv (.t 31), none⟩, ⟨(some 33), .buildSl 8 [(.int .u8 (.ofNat 0))] [(0, 1, (.c (.int .u8 (.ofNat 121)))), (1, 1, (.c (.int .u8 (.ofNat 1)))), (2, 1, (.c (.int .u8 (.ofNat 3)))), (3, 1, (.c (.int .u8 (.ofNat 0)))), (4, 1, (.c (.int .u8 (.ofNat 0)))), (5, 1, (.c (.int .u8 (.ofNat 0)))), (6, 1, (.c (.int .u8 (.ofNat 0)))), (7, 1, (.c (.int .u8 (.ofNat 1))))], (some (32, true))⟩, ⟨(some 34), .call 19 [(.c (.int .i64 (.ofNat 10))), (.t 33)], (some (32, true))⟩, ⟨(some 35), .pick (.t 32) (.t 34) (.c (.bool false)), none⟩, ⟨(some 0), .mv (.t 35), none⟩]) .ret))), [.t 0]⟩
theorem za21 : cN Try.prog 21 = some c21 := by kernel_rfl
def c16 : AFn := ⟨4, (.seq (.reg [⟨(some 0), .mv (.c (.ptr none)), none⟩]) (.seq (.reg [⟨(some 1), .call 9 [], none⟩, ⟨(some 2), .build [(.bool false), (.bool false), (.bool false), (.ptr none), (.int .u32 (.ofNat 0))] [(0, 1, (.c (.bool true))), (3, 1, (.t 1)), (4, 1, (.c (.int .u32 (.ofNat 1))))], none⟩, ⟨(some 3), .box (.t 2), none⟩, ⟨(some 0), .mv (.t 3), none⟩]) .ret)), [.t 0]⟩
theorem za16 : cN Try.prog 16 = some c16 := by kernel_rfl
def c18 : AFn := ⟨50, (.seq (.reg [⟨(some 2), .mv (.c (.slice none 0 (.known 0))), none⟩, ⟨(some 3), .mv (.c (.int .i64 (.ofNat 0))), none⟩]) (.seq (.seq (.reg [⟨(some 6), .mv (.t 0), none⟩, ⟨(some 7), .call 34 [(.t 6)], none⟩, ⟨(some 4), .mv (.t 7), none⟩]) (.seq (.reg [⟨(some 8), .mv (.t 4), none⟩, ⟨(some 9), .bin .neq (.t 8) (.c (.int .i64 (.ofNat 0))), none⟩]) (.cond (.t 9) (.seq (.reg [⟨(some 10), .mv (.t 4), none⟩, ⟨(some 2), .mv (.c (.slice none 0 (.known 0))), none⟩, ⟨(some 3), .mv (.t 10), none⟩]) .ret) .skip))) (.seq (.reg [⟨(some 11), .mv (.t 0), none⟩, ⟨(some 12), .mv (.t 0), none⟩, ⟨(some 13), .nilChk (.t 12), none⟩, ⟨(some 14), .fieldA 3 (.t 13), none⟩, ⟨(some 15), .load false 1 (.t 14), none⟩, ⟨(some 16), .mkFunc (.func 12) [(.t 15)] [], none⟩, ⟨(some 17), .call 36 [(.t 11), (.t 16)], none⟩, ⟨(some 5), .mv (.t 17), none⟩]) (.seq (.reg [⟨(some 18), .mv (.t 0), none⟩, ⟨(some 19), .nilChk (.t 18), none⟩, ⟨(some 20), .fieldA 2 (.t 19), none⟩, ⟨none, .store 1 (.t 20) (.c (.bool true)), none⟩]) (.seq (.reg [⟨(some 21), .mv (.t 0), none⟩, ⟨(some 22), .nilChk (.t 21), none⟩, ⟨(some 23), .fieldA 3 (.t 22), none⟩, ⟨none, .store 1 (.t 23) (.c (.ptr none)), none⟩]) (.seq (.reg [⟨(some 24), .mv (.t 5), none⟩, ⟨(some 25), .mv (.t 0), none⟩, ⟨(some 26), .nilChk (.t 25), none⟩, ⟨(some 27), .fieldA 4 (.t 26), none⟩, ⟨(some 28), .load false 1 (.t 27), none⟩, ⟨(some 29), .bin .shr (.t 28) (.c (.int .u64 (.ofNat 24))), none⟩, ⟨(some 30), .conv .u8 (.t 29), none⟩, ⟨(some 31), .mv (.t 0), none⟩, ⟨(some 32), .nilChk (.t 31), none⟩, ⟨(some 33), .fieldA 4 (.t 32), none⟩, ⟨(some 34), .load false 1 (.t 33), none⟩, ⟨(some 35), .bin .shr (.t 34) (.c (.int .u64 (.ofNat 16))), none⟩, ⟨(some 36), .conv .u8 (.t 35), none⟩, ⟨(some 37), .mv (.t 0), none⟩, ⟨(some 38), .nilChk (.t 37), none⟩, ⟨(some 39), .fieldA 4 (.t 38), none⟩, ⟨(some 40), .load false 1 (.t 39), none⟩, ⟨(some 41), .bin .shr (.t 40) (.c (.int .u64 (.ofNat 8))), none⟩, ⟨(some 42), .conv .u8 (.t 41), none⟩, ⟨(some 43), .mv (.t 0), none⟩, ⟨(some 44), .nilChk (.t 43), none⟩, ⟨(some 45), .fieldA 4 (.t 44), none⟩, ⟨(some 46), .load false 1 (.t 45), none⟩, ⟨(some 47), .conv .u8 (.t 46), none⟩, ⟨(some 48), .buildSl 4 [(.int .u8 (.ofNat 0))] [(0, 1, (.t 30)), (1, 1, (.t 36)), (2, 1, (.t 42)), (3, 1, (.t 47))], none⟩, ⟨(some 49), .append 1 1 (.t 24) (.t 48), none⟩, ⟨(some 2), .mv (.t 49), none⟩, ⟨(some 3), .mv (.c (.int .i64 (.ofNat 0))), none⟩]) .ret)))))), [.t 2, .t 3]⟩
theorem za18 : cN Try.prog 18 = some c18 := by kernel_rfl
def c34 : AFn := ⟨18, (.seq (.reg [⟨(some 2), .mv (.c (.int .i64 (.ofNat 0))), none⟩]) (.seq (.block 0 (.seq (.reg [⟨(some 4), .mv (.t 0), none⟩, ⟨(some 5), .pf (.eqv false .ptr) [(.t 4), (.c (.ptr none))], none⟩, ⟨(some 6), .mv (.t 5), none⟩, ⟨(some 7), .mv (.t 0), (some (6, false))⟩, ⟨(some 8), .nilChk (.t 7), (some (6, false))⟩, ⟨(some 9), .fieldA 0 (.t 8), (some (6, false))⟩, ⟨(some 10), .load false 1 (.t 9), (some (6, false))⟩, ⟨(some 11), .un .not (.t 10), (some (6, false))⟩, ⟨(some 12), .pick (.t 6) (.c (.bool true)) (.t 11), none⟩, ⟨(some 3), .mv (.t 12), none⟩]) (.cond (.t 3) (.seq (.reg [⟨(some 2), .mv (.c (.int .i64 (.ofNat 1))), none⟩]) .ret) (.seq (.reg [⟨(some 14), .mv (.t 0), none⟩, ⟨(some 15), .nilChk (.t 14), none⟩, ⟨(some 16), .fieldA 2 (.t 15), none⟩, ⟨(some 17), .load false 1 (.t 16), none⟩, ⟨(some 13), .mv (.t 17), none⟩]) (.cond (.t 13) (.seq (.reg [⟨(some 2), .mv (.c (.int .i64 (.ofNat 23))), none⟩]) .ret) .skip))))) (.seq (.reg [⟨(some 2), .mv (.c (.int .i64 (.ofNat 0))), none⟩]) .ret))), [.t 2]⟩
theorem za34 : cN Try.prog 34 = some c34 := by kernel_rfl
def c36 : AFn := ⟨27, (.seq (.reg [⟨(some 4), .mv (.c (.slice none 0 (.known 0))), none⟩]) (.seq (.reg [⟨(some 5), .mv (.c (.slice none 0 (.known 0))), none⟩]) (.seq (.seq (.reg [⟨(some 8), .mv (.t 0), none⟩, ⟨(some 9), .nilChk (.t 8), none⟩, ⟨(some 10), .fieldA 1 (.t 9), none⟩, ⟨(some 11), .load false 1 (.t 10), none⟩, ⟨(some 12), .un .not (.t 11), none⟩]) (.cond (.t 12) (.seq (.reg [⟨(some 13), .mv (.t 5), none⟩, ⟨(some 14), .buildSl 2 [(.int .u8 (.ofNat 0))] [(0, 1, (.c (.int .u8 (.ofNat 120)))), (1, 1, (.c (.int .u8 (.ofNat 1))))], none⟩, ⟨(some 15), .append 1 1 (.t 13) (.t 14), none⟩, ⟨(some 5), .mv (.t 15), none⟩]) (.reg [⟨(some 16), .mv (.t 0), none⟩, ⟨(some 17), .nilChk (.t 16), none⟩, ⟨(some 18), .fieldA 1 (.t 17), none⟩, ⟨none, .store 1 (.t 18) (.c (.bool true)), none⟩])) .skip)) (.seq (.reg [⟨(some 20), .mv (.t 1), none⟩, ⟨(some 21), .callv (.t 20) [], none⟩, ⟨(some 19), .mv (.t 21), none⟩, ⟨(some 22), .extract 0 (.t 19), none⟩, ⟨(some 23), .extract 1 (.t 19), none⟩, ⟨(some 6), .mv (.t 22), none⟩, ⟨(some 7), .mv (.t 23), none⟩]) (.seq (.reg [⟨(some 24), .mv (.t 5), none⟩, ⟨(some 25), .mv (.t 6), none⟩, ⟨(some 26), .append 1 1 (.t 24) (.t 25), none⟩, ⟨(some 4), .mv (.t 26), none⟩]) .ret))))), [.t 4]⟩
theorem za36 : cN Try.prog 36 = some c36 := by kernel_rfl
def c20 : AFn := ⟨24, (.seq (.reg [⟨(some 2), .mv (.c (.slice none 0 (.known 0))), none⟩]) (.seq (.reg [⟨(some 8), .call 16 [], none⟩, ⟨(some 3), .mv (.t 8), none⟩]) (.seq (.reg [⟨(some 10), .mv (.t 3), none⟩, ⟨(some 11), .mv (.t 0), none⟩, ⟨(some 12), .convSB (.t 11), none⟩, ⟨(some 13), .call 17 [(.t 10), (.t 12)], none⟩, ⟨(some 9), .mv (.t 13), none⟩, ⟨(some 14), .extract 0 (.t 9), none⟩, ⟨(some 15), .extract 1 (.t 9), none⟩, ⟨(some 4), .mv (.t 14), none⟩, ⟨(some 5), .mv (.t 15), none⟩]) (.seq (.reg [⟨(some 17), .mv (.t 3), none⟩, ⟨(some 18), .call 18 [(.t 17)], none⟩, ⟨(some 16), .mv (.t 18), none⟩, ⟨(some 19), .extract 0 (.t 16), none⟩, ⟨(some 20), .extract 1 (.t 16), none⟩, ⟨(some 6), .mv (.t 19), none⟩, ⟨(some 7), .mv (.t 20), none⟩]) (.seq (.reg [⟨(some 21), .mv (.t 4), none⟩, ⟨(some 22), .mv (.t 6), none⟩, ⟨(some 23), .append 1 1 (.t 21) (.t 22), none⟩, ⟨(some 2), .mv (.t 23), none⟩]) .ret))))), [.t 2]⟩
theorem za20 : cN Try.prog 20 = some c20 := by kernel_rfl
def c17 : AFn := ⟨30, (.seq (.reg [⟨(some 3), .box (.t 1), none⟩, ⟨(some 4), .mv (.c (.slice none 0 (.known 0))), none⟩, ⟨(some 5), .mv (.c (.int .i64 (.ofNat 0))), none⟩]) (.seq (.seq (.reg [⟨(some 8), .mv (.t 0), none⟩, ⟨(some 9), .call 34 [(.t 8)], none⟩, ⟨(some 6), .mv (.t 9), none⟩]) (.seq (.reg [⟨(some 10), .mv (.t 6), none⟩, ⟨(some 11), .bin .neq (.t 10) (.c (.int .i64 (.ofNat 0))), none⟩]) (.cond (.t 11) (.seq (.reg [⟨(some 12), .mv (.t 6), none⟩, ⟨(some 4), .mv (.c (.slice none 0 (.known 0))), none⟩, ⟨(some 5), .mv (.t 12), none⟩]) .ret) .skip))) (.seq (.reg [⟨(some 13), .mv (.t 0), none⟩, ⟨(some 14), .mv (.t 0), none⟩, ⟨(some 15), .nilChk (.t 14), none⟩, ⟨(some 16), .fieldA 4 (.t 15), none⟩, ⟨(some 17), .load false 1 (.t 16), none⟩, ⟨(some 18), .load false 1 (.t 3), none⟩, ⟨(some 19), .call 35 [(.t 17), (.t 18)], none⟩, ⟨(some 20), .nilChk (.t 13), none⟩, ⟨(some 21), .fieldA 4 (.t 20), none⟩, ⟨none, .store 1 (.t 21) (.t 19), none⟩]) (.seq (.reg [⟨(some 22), .mv (.t 0), none⟩, ⟨(some 23), .nilChk (.t 22), none⟩, ⟨(some 24), .fieldA 3 (.t 23), none⟩, ⟨(some 25), .load false 1 (.t 24), none⟩, ⟨(some 26), .mkFunc (.func 11) [(.t 25)] [], none⟩, ⟨(some 7), .new [.nilFunc], none⟩, ⟨none, .store 1 (.t 7) (.t 26), none⟩]) (.seq (.reg [⟨(some 27), .mv (.t 0), none⟩, ⟨(some 28), .mkFunc (.func 37) [] [(.t 7), (.t 3)], none⟩, ⟨(some 29), .call 36 [(.t 27), (.t 28)], none⟩, ⟨(some 4), .mv (.t 29), none⟩, ⟨(some 5), .mv (.c (.int .i64 (.ofNat 0))), none⟩]) .ret))))), [.t 4, .t 5]⟩
theorem za17 : cN Try.prog 17 = some c17 := by kernel_rfl
def c35 : AFn := ⟨35, (.seq (.reg [⟨(some 4), .mv (.c (.int .u32 (.ofNat 0))), none⟩]) (.seq (.reg [⟨(some 9), .mv (.t 0), none⟩, ⟨(some 10), .bin .and (.t 9) (.c (.int .u32 (.ofNat 65535))), none⟩, ⟨(some 11), .bin .rem (.t 10) (.c (.int .u32 (.ofNat 65521))), none⟩, ⟨(some 12), .mv (.t 0), none⟩, ⟨(some 13), .bin .shr (.t 12) (.c (.int .u64 (.ofNat 16))), none⟩, ⟨(some 14), .bin .rem (.t 13) (.c (.int .u32 (.ofNat 65521))), none⟩, ⟨(some 5), .mv (.t 11), none⟩, ⟨(some 6), .mv (.t 14), none⟩]) (.seq (.seq (.reg [⟨(some 15), .mv (.t 1), none⟩, ⟨(some 16), .len false (.t 15), none⟩, ⟨(some 17), .mv (.c (.int .i64 (.ofNat 0))), none⟩]) (.block 0 (.loop (.seq (.reg [⟨(some 18), .bin .lss (.t 17) (.t 16), none⟩]) (.seq (.cond (.t 18) .skip (.exit 0)) (.seq (.block 1 (.seq (.reg [⟨(some 19), .idxA 1 (.t 15) (.t 17), none⟩, ⟨(some 20), .load false 1 (.t 19), none⟩, ⟨(some 8), .mv (.t 20), none⟩]) (.seq (.reg [⟨(some 21), .mv (.t 5), none⟩, ⟨(some 22), .mv (.t 8), none⟩, ⟨(some 23), .conv .u32 (.t 22), none⟩, ⟨(some 24), .bin .add (.t 21) (.t 23), none⟩, ⟨(some 25), .bin .rem (.t 24) (.c (.int .u32 (.ofNat 65521))), none⟩, ⟨(some 5), .mv (.t 25), none⟩]) (.reg [⟨(some 26), .mv (.t 6), none⟩, ⟨(some 27), .mv (.t 5), none⟩, ⟨(some 28), .bin .add (.t 26) (.t 27), none⟩, ⟨(some 29), .bin .rem (.t 28) (.c (.int .u32 (.ofNat 65521))), none⟩, ⟨(some 6), .mv (.t 29), none⟩])))) (.reg [⟨(some 30), .bin .add (.t 17) (.c (.int .i64 (.ofNat 1))), none⟩, ⟨(some 17), .mv (.t 30), none⟩]))))))) (.seq (.reg [⟨(some 31), .mv (.t 6), none⟩, ⟨(some 32), .bin .shl (.t 31) (.c (.int .u64 (.ofNat 16))), none⟩, ⟨(some 33), .mv (.t 5), none⟩, ⟨(some 34), .bin .or (.t 32) (.t 33), none⟩, ⟨(some 4), .mv (.t 34), none⟩]) .ret)))), [.t 4]⟩
theorem za35 : cN Try.prog 35 = some c35 := by kernel_rfl
def c37 : AFn := ⟨9, (.seq (.reg [⟨(some 2), .mv (.c (.slice none 0 (.known 0))), none⟩, ⟨(some 3), .mv (.c (.int .i64 (.ofNat 0))), none⟩]) (.seq (.reg [⟨(some 4), .load false 1 (.t 0), none⟩, ⟨(some 5), .load false 1 (.t 1), none⟩, ⟨(some 6), .callv (.t 4) [(.t 5)], none⟩, ⟨(some 7), .extract 0 (.t 6), none⟩, ⟨(some 8), .extract 1 (.t 6), none⟩, ⟨(some 2), .mv (.t 7), none⟩, ⟨(some 3), .mv (.t 8), none⟩]) .ret)), [.t 2, .t 3]⟩
theorem za37 : cN Try.prog 37 = some c37 := by kernel_rfl
def c19 : AFn := ⟨24, (.seq (.reg [⟨(some 4), .mv (.c (.bool false)), none⟩]) (.seq (.reg [⟨(some 8), .mv (.t 1), none⟩, ⟨(some 9), .call 24 [(.t 8), (.c (.int .i64 (.ofNat 9)))], none⟩, ⟨(some 7), .mv (.t 9), none⟩, ⟨(some 10), .extract 0 (.t 7), none⟩, ⟨(some 11), .extract 1 (.t 7), none⟩, ⟨(some 5), .mv (.t 10), none⟩, ⟨(some 6), .mv (.t 11), none⟩]) (.seq (.reg [⟨(some 12), .mv (.t 6), none⟩, ⟨(some 13), .mv (.t 0), none⟩, ⟨(some 14), .bin .eql (.t 12) (.t 13), none⟩, ⟨(some 15), .mv (.t 14), none⟩, ⟨(some 16), .mv (.t 0), (some (15, true))⟩, ⟨(some 17), .bin .eql (.t 16) (.c (.int .i64 (.ofNat 0))), (some (15, true))⟩, ⟨(some 18), .mv (.t 17), (some (15, true))⟩, ⟨(some 19), .mv (.t 5), (some (18, false))⟩, ⟨(some 20), .len false (.t 19), (some (18, false))⟩, ⟨(some 21), .bin .eql (.t 20) (.c (.int .i64 (.ofNat 0))), (some (18, false))⟩, ⟨(some 22), .pick (.t 18) (.c (.bool true)) (.t 21), (some (15, true))⟩, ⟨(some 23), .pick (.t 15) (.t 22) (.c (.bool false)), none⟩, ⟨(some 4), .mv (.t 23), none⟩]) .ret))), [.t 4]⟩
theorem za19 : cN Try.prog 19 = some c19 := by kernel_rfl
def c24 : AFn := ⟨70, (.seq (.reg [⟨(some 4), .mv (.c (.slice none 0 (.known 0))), none⟩, ⟨(some 5), .mv (.c (.int .i64 (.ofNat 0))), none⟩]) (.seq (.seq (.reg [⟨(some 11), .mv (.t 0), none⟩, ⟨(some 12), .len false (.t 11), none⟩, ⟨(some 13), .bin .lss (.t 12) (.c (.int .i64 (.ofNat 2))), none⟩]) (.cond (.t 13) (.seq (.reg [⟨(some 4), .mv (.c (.slice none 0 (.known 0))), none⟩, ⟨(some 5), .mv (.c (.int .i64 (.ofNat 12))), none⟩]) .ret) .skip)) (.seq (.seq (.reg [⟨(some 14), .mv (.t 0), none⟩, ⟨(some 15), .idxA 1 (.t 14) (.c (.int .i64 (.ofNat 0))), none⟩, ⟨(some 16), .load false 1 (.t 15), none⟩, ⟨(some 17), .mv (.t 0), none⟩, ⟨(some 18), .idxA 1 (.t 17) (.c (.int .i64 (.ofNat 1))), none⟩, ⟨(some 19), .load false 1 (.t 18), none⟩, ⟨(some 20), .call 43 [(.t 16), (.t 19)], none⟩, ⟨(some 21), .un .not (.t 20), none⟩]) (.cond (.t 21) (.seq (.reg [⟨(some 4), .mv (.c (.slice none 0 (.known 0))), none⟩, ⟨(some 5), .mv (.c (.int .i64 (.ofNat 10))), none⟩]) .ret) .skip)) (.seq (.reg [⟨(some 23), .mv (.t 0), none⟩, ⟨(some 24), .sl 1 (.t 23) (some (.c (.int .i64 (.ofNat 2)))) none none, none⟩, ⟨(some 25), .mv (.t 1), none⟩, ⟨(some 26), .call 14 [(.t 24), (.t 25)], none⟩, ⟨(some 22), .mv (.t 26), none⟩, ⟨(some 27), .extract 0 (.t 22), none⟩, ⟨(some 28), .extract 1 (.t 22), none⟩, ⟨(some 29), .extract 2 (.t 22), none⟩, ⟨(some 6), .mv (.t 27), none⟩, ⟨(some 7), .mv (.t 28), none⟩, ⟨(some 8), .mv (.t 29), none⟩]) (.seq (.seq (.reg [⟨(some 30), .mv (.t 8), none⟩, ⟨(some 31), .bin .neq (.t 30) (.c (.int .i64 (.ofNat 0))), none⟩]) (.cond (.t 31) (.seq (.reg [⟨(some 32), .mv (.t 8), none⟩, ⟨(some 4), .mv (.c (.slice none 0 (.known 0))), none⟩, ⟨(some 5), .mv (.t 32), none⟩]) .ret) .skip)) (.seq (.reg [⟨(some 33), .mv (.t 0), none⟩, ⟨(some 34), .mv (.t 7), none⟩, ⟨(some 35), .bin .add (.c (.int .i64 (.ofNat 2))) (.t 34), none⟩, ⟨(some 36), .sl 1 (.t 33) (some (.t 35)) none none, none⟩, ⟨(some 9), .mv (.t 36), none⟩]) (.seq (.seq (.reg [⟨(some 37), .mv (.t 9), none⟩, ⟨(some 38), .len false (.t 37), none⟩, ⟨(some 39), .bin .lss (.t 38) (.c (.int .i64 (.ofNat 4))), none⟩]) (.cond (.t 39) (.seq (.reg [⟨(some 4), .mv (.c (.slice none 0 (.known 0))), none⟩, ⟨(some 5), .mv (.c (.int .i64 (.ofNat 12))), none⟩]) .ret) .skip)) (.seq (.reg [⟨(some 40), .mv (.t 9), none⟩, ⟨(some 41), .idxA 1 (.t 40) (.c (.int .i64 (.ofNat 0))), none⟩, ⟨(some 42), .load false 1 (.t 41), none⟩, ⟨(some 43), .conv .u32 (.t 42), none⟩, ⟨(some 44), .bin .shl (.t 43) (.c (.int .u64 (.ofNat 24))), none⟩, ⟨(some 45), .mv (.t 9), none⟩, ⟨(some 46), .idxA 1 (.t 45) (.c (.int .i64 (.ofNat 1))), none⟩, ⟨(some 47), .load false 1 (.t 46), none⟩, ⟨(some 48), .conv .u32 (.t 47), none⟩, ⟨(some 49), .bin .shl (.t 48) (.c (.int .u64 (.ofNat 16))), none⟩, ⟨(some 50), .bin .or (.t 44) (.t 49), none⟩, ⟨(some 51), .mv (.t 9), none⟩, ⟨(some 52), .idxA 1 (.t 51) (.c (.int .i64 (.ofNat 2))), none⟩, ⟨(some 53), .load false 1 (.t 52), none⟩, ⟨(some 54), .conv .u32 (.t 53), none⟩, ⟨(some 55), .bin .shl (.t 54) (.c (.int .u64 (.ofNat 8))), none⟩, ⟨(some 56), .bin .or (.t 50) (.t 55), none⟩, ⟨(some 57), .mv (.t 9), none⟩, ⟨(some 58), .idxA 1 (.t 57) (.c (.int .i64 (.ofNat 3))), none⟩, ⟨(some 59), .load false 1 (.t 58), none⟩, ⟨(some 60), .conv .u32 (.t 59), none⟩, ⟨(some 61), .bin .or (.t 56) (.t 60), none⟩, ⟨(some 10), .mv (.t 61), none⟩]) (.seq (.seq (.reg [⟨(some 62), .mv (.t 10), none⟩, ⟨(some 63), .mv (.t 6), none⟩, ⟨(some 64), .call 35 [(.c (.int .u32 (.ofNat 1))), (.t 63)], none⟩, ⟨(some 65), .bin .neq (.t 62) (.t 64), none⟩]) (.cond (.t 65) (.seq (.reg [⟨(some 4), .mv (.c (.slice none 0 (.known 0))), none⟩, ⟨(some 5), .mv (.c (.int .i64 (.ofNat 11))), none⟩]) .ret) .skip)) (.seq (.seq (.reg [⟨(some 66), .mv (.t 9), none⟩, ⟨(some 67), .len false (.t 66), none⟩, ⟨(some 68), .bin .gtr (.t 67) (.c (.int .i64 (.ofNat 4))), none⟩]) (.cond (.t 68) (.seq (.reg [⟨(some 4), .mv (.c (.slice none 0 (.known 0))), none⟩, ⟨(some 5), .mv (.c (.int .i64 (.ofNat 10))), none⟩]) .ret) .skip)) (.seq (.reg [⟨(some 69), .mv (.t 6), none⟩, ⟨(some 4), .mv (.t 69), none⟩, ⟨(some 5), .mv (.c (.int .i64 (.ofNat 0))), none⟩]) .ret))))))))))), [.t 4, .t 5]⟩
theorem za24 : cN Try.prog 24 = some c24 := by kernel_rfl
def c43 : AFn := ⟨28, (.seq (.reg [⟨(some 4), .mv (.c (.bool false)), none⟩]) (.seq (.reg [⟨(some 5), .mv (.t 0), none⟩, ⟨(some 6), .bin .rem (.t 5) (.c (.int .u8 (.ofNat 16))), none⟩, ⟨(some 7), .bin .eql (.t 6) (.c (.int .u8 (.ofNat 8))), none⟩, ⟨(some 8), .mv (.t 7), none⟩, ⟨(some 9), .mv (.t 0), (some (8, true))⟩, ⟨(some 10), .bin .quo (.t 9) (.c (.int .u8 (.ofNat 16))), (some (8, true))⟩, ⟨(some 11), .bin .leq (.t 10) (.c (.int .u8 (.ofNat 7))), (some (8, true))⟩, ⟨(some 12), .pick (.t 8) (.t 11) (.c (.bool false)), none⟩, ⟨(some 13), .mv (.t 12), none⟩, ⟨(some 14), .mv (.t 0), (some (13, true))⟩, ⟨(some 15), .conv .i64 (.t 14), (some (13, true))⟩, ⟨(some 16), .bin .mul (.c (.int .i64 (.ofNat 256))) (.t 15), (some (13, true))⟩, ⟨(some 17), .mv (.t 1), (some (13, true))⟩, ⟨(some 18), .conv .i64 (.t 17), (some (13, true))⟩, ⟨(some 19), .bin .add (.t 16) (.t 18), (some (13, true))⟩, ⟨(some 20), .bin .rem (.t 19) (.c (.int .i64 (.ofNat 31))), (some (13, true))⟩, ⟨(some 21), .bin .eql (.t 20) (.c (.int .i64 (.ofNat 0))), (some (13, true))⟩, ⟨(some 22), .pick (.t 13) (.t 21) (.c (.bool false)), none⟩, ⟨(some 23), .mv (.t 22), none⟩, ⟨(some 24), .mv (.t 1), (some (23, true))⟩, ⟨(some 25), .bin .and (.t 24) (.c (.int .u8 (.ofNat 32))), (some (23, true))⟩, ⟨(some 26), .bin .eql (.t 25) (.c (.int .u8 (.ofNat 0))), (some (23, true))⟩, ⟨(some 27), .pick (.t 23) (.t 26) (.c (.bool false)), none⟩, ⟨(some 4), .mv (.t 27), none⟩]) .ret)), [.t 4]⟩
theorem za43 : cN Try.prog 43 = some c43 := by kernel_rfl
end
end Go.Proofs.Zi
namespace Go.Proofs.Zi
open Go.Abs Go.Abs.S
set_option linter.unusedSimpArgs false
theorem adler_spec {n : Nat} {H : AHeap} {v : AVal} {s : Bs} (h : Cel n H v (byts s)) (sum : Nat) (hs : sum < 2 ^ 32) (hl : s.length ≤ 1000000000) :
    ACalls Try.prog natI 35 [.int .u32 (sum : Int), v] H fun w H' => w = .int .u32 ((adler sum s : Nat) : Int) ∧ H = H' := by
  refine acalls_ofN rfl za35 rfl ?_
  have ha : aBin .and (.int .u32 (sum : Int)) (.int .u32 65535) = some (.int .u32 ((sum % 65536 : Nat) : Int)) := by
    have := bin_andU .u32 (.inr (.inr (.inl rfl))) (a := sum) (b := 65535) hs (by simp [IntKind.bits])
    rw [Nat.and_two_pow_sub_one_eq_mod sum 16] at this
    exact this
  have hr : aBin .rem (.int .u32 ((sum % 65536 : Nat) : Int)) (.int .u32 65521) = some (.int .u32 ((sum % 65536 % 65521 : Nat) : Int)) := remU32 65521 (by omega)
  have hsh : aBin .shr (.int .u32 (sum : Int)) (.int .u64 16) = some (.int .u32 ((sum / 65536 : Nat) : Int)) := shrN .u32 .u64 sum (b := 16) (by simp [IntKind.bits])
  have hr2 : aBin .rem (.int .u32 ((sum / 65536 : Nat) : Int)) (.int .u32 65521) = some (.int .u32 ((sum / 65536 % 65521 : Nat) : Int)) := remU32 65521 (by omega)
  have hlen : aLenK false v = some (.int .i64 (s.length : Int)) := by have := h.len; rwa [byts_len] at this
  simp only [c35, sA, Int.reduceNegSucc, reduceCtorEq, Nat.reduceEqDiff, ↓reduceIte, Nat.reduceAdd, Int.reduceEq, Int.reduceLT, Int.reduceLE, Nat.reduceLT, ha, hr, hsh, hr2, hlen]
  refine aw_loop (fun q (T : Env) H' => ∃ j : Nat, j ≤ s.length ∧ q = s.length - j ∧ T 5 = .int .u32 (((adlerF (adlerS sum) (s.take j)).1 : Nat) : Int) ∧ T 6 = .int .u32 (((adlerF (adlerS sum) (s.take j)).2 : Nat) : Int) ∧ T 15 = v ∧ T 16 = .int .i64 (s.length : Int) ∧ T 17 = .int .i64 (j : Int) ∧ H = H') s.length
    ⟨0, Nat.zero_le _, rfl, by simp only [sA, Int.reduceNegSucc, reduceCtorEq, Nat.reduceEqDiff, ↓reduceIte, Nat.reduceAdd, Int.reduceEq, Int.reduceLT, Int.reduceLE, Nat.reduceLT]; rfl, by simp only [sA, Int.reduceNegSucc, reduceCtorEq, Nat.reduceEqDiff, ↓reduceIte, Nat.reduceAdd, Int.reduceEq, Int.reduceLT, Int.reduceLE, Nat.reduceLT]; rfl, by simp only [sA, Int.reduceNegSucc, reduceCtorEq, Nat.reduceEqDiff, ↓reduceIte, Nat.reduceAdd, Int.reduceEq, Int.reduceLT, Int.reduceLE, Nat.reduceLT]; try rfl, by simp only [sA, Int.reduceNegSucc, reduceCtorEq, Nat.reduceEqDiff, ↓reduceIte, Nat.reduceAdd, Int.reduceEq, Int.reduceLT, Int.reduceLE, Nat.reduceLT]; try rfl, by simp only [sA, Int.reduceNegSucc, reduceCtorEq, Nat.reduceEqDiff, ↓reduceIte, Nat.reduceAdd, Int.reduceEq, Int.reduceLT, Int.reduceLE, Nat.reduceLT]; try rfl, rfl⟩ ?_
  rintro q T _ ⟨j, hj, rfl, g5, g6, g15, g16, g17, rfl⟩
  have hx := adlerS_lt sum (s.take j)
  by_cases hlt : j < s.length
  · have hlt' : (j : Int) < (s.length : Int) := by omega
    obtain ⟨b, hb⟩ : ∃ b, s[j]? = some b := ⟨_, List.getElem?_eq_getElem hlt⟩
    have hidx := h.idx .i64 (i := j) (by rw [byts_len]; exact hlt)
    have hld := h.load (byts_get hb)
    have hbl := b.toNat_lt
    have hsn := adlerF_snoc (adlerS sum) (s.take j) b
    rw [← take_snoc hb] at hsn
    generalize (adlerF (adlerS sum) (s.take j)).1 = x at *
    generalize (adlerF (adlerS sum) (s.take j)).2 = y at *
    have w1 : IntKind.u32.wrap ((x : Int) + (b.toNat : Int)) = ((x + b.toNat : Nat) : Int) := by rw [wrapU32 (by omega) (by omega)]; omega
    have q1 : aBin .rem (.int .u32 ((x + b.toNat : Nat) : Int)) (.int .u32 65521) = some (.int .u32 (((x + b.toNat) % 65521 : Nat) : Int)) := remU32 65521 (by omega)
    have hm : (x + b.toNat) % 65521 < 65521 := Nat.mod_lt _ (by omega)
    have w2 : IntKind.u32.wrap ((y : Int) + (((x + b.toNat) % 65521 : Nat) : Int)) = ((y + (x + b.toNat) % 65521 : Nat) : Int) := by rw [wrapU32 (by omega) (by omega)]; omega
    have q2 : aBin .rem (.int .u32 ((y + (x + b.toNat) % 65521 : Nat) : Int)) (.int .u32 65521) = some (.int .u32 (((y + (x + b.toNat) % 65521) % 65521 : Nat) : Int)) := remU32 65521 (by omega)
    simp only [sA, Int.reduceNegSucc, reduceCtorEq, Nat.reduceEqDiff, ↓reduceIte, Nat.reduceAdd, Int.reduceEq, Int.reduceLT, Int.reduceLE, Nat.reduceLT, g5, g6, g15, g16, g17, hlt', hidx, hld, b_u32, w1, q1, w2, q2, wrap1 j (by omega)]
    exact ⟨_, by omega, j + 1, by omega, rfl, by rw [hsn], by rw [hsn], (by first | with_reducible rfl | trivial | rfl | assumption), (by first | with_reducible rfl | trivial | rfl | assumption), (by first | with_reducible rfl | trivial | rfl | assumption), (by first | with_reducible rfl | trivial | rfl | assumption)⟩
  · have hlt' : ¬ (j : Int) < (s.length : Int) := by omega
    obtain rfl : j = s.length := by omega
    rw [List.take_length] at g5 g6 hx
    have hae := adler_eq sum s
    generalize (adlerF (adlerS sum) s).1 = x at *
    generalize (adlerF (adlerS sum) s).2 = y at *
    have s1 : aBin .shl (.int .u32 (y : Int)) (.int .u64 16) = some (.int .u32 ((y * 65536 : Nat) : Int)) := by
      have := bin_shlU .u32 .u64 (.inr (.inr (.inl rfl))) y (b := 16) (by simp [IntKind.bits])
      rw [show y * 2 ^ 16 % 2 ^ IntKind.u32.bits = y * 65536 by simp only [IntKind.bits]; omega] at this
      exact this
    have s2 : aBin .or (.int .u32 ((y * 65536 : Nat) : Int)) (.int .u32 (x : Int)) = some (.int .u32 ((y * 65536 + x : Nat) : Int)) := by
      have := bin_orU .u32 (.inr (.inr (.inl rfl))) (a := y * 65536) (b := x) (by simp only [IntKind.bits]; omega) (by simp only [IntKind.bits]; omega)
      rw [show y * 65536 ||| x = y * 65536 + x from or_low 16 y (by omega)] at this
      exact this
    simp only [sA, Int.reduceNegSucc, reduceCtorEq, Nat.reduceEqDiff, ↓reduceIte, Nat.reduceAdd, Int.reduceEq, Int.reduceLT, Int.reduceLE, Nat.reduceLT, g5, g6, g15, g16, g17, hlt', s1, s2, ← hae]
    exact ⟨(by first | with_reducible rfl | trivial | rfl | assumption), (by first | with_reducible rfl | trivial | rfl | assumption)⟩
theorem zstate_spec {H : AHeap} {z : Nat} {bg : Bool} {dw : AVal} {sum : Nat} (h : Row H z (zC bg dw sum)) : ACalls Try.prog natI 34 [cellR z 5 0] H fun w H' => w = .int .i64 0 ∧ H = H' := by
  refine acalls_ofN rfl za34 rfl ?_
  have l0 : oLoad false 1 H (cellR z 5 0) = some (.bool true) := row_load h rfl rfl
  have l2 : oLoad false 1 H (cellR z 5 2) = some (.bool false) := row_load h rfl rfl
  simp only [c34, sA, Int.reduceNegSucc, reduceCtorEq, Nat.reduceEqDiff, ↓reduceIte, Nat.reduceAdd, Int.reduceEq, Int.reduceLT, Int.reduceLE, Nat.reduceLT, eq_ptr_nil, nil_cell, fldA, fld0, l0, l2]
  exact ⟨(by first | with_reducible rfl | trivial | rfl | assumption), (by first | with_reducible rfl | trivial | rfl | assumption)⟩
theorem told_spec {H : AHeap} {z g : Nat} {bg : Bool} {dw : AVal} {sum : Nat} {rs cs : List AVal} {Q : AVal → AHeap → Prop} (Z : Row H z (zC bg dw sum)) (hz : z < H.next) (hg : g < 1024)
    (hcall : ∀ H1 s0, AppN 1 0 H1 s0 (u8s (hd bg)) (hd bg).length → Blk s0 (H.next ≤ ·) → Row H1 z (zC true dw sum) → H.next ≤ H1.next → (∀ c, c < H.next → c ≠ z → H1.get c = H.get c) → ACalls Try.prog natI g (rs ++ cs) H1 fun w H2 => ∃ s e, w = .tuple [s, e] ∧ ∃ s' H3, aAppend 1 1 H2 s0 s = some (s', H3) ∧ Q s' H3) :
    ACalls Try.prog natI 36 [cellR z 5 0, .func (.func g) rs cs] H Q := by
  refine acalls_ofN rfl za36 rfl ?_
  have l1 : oLoad false 1 H (cellR z 5 1) = some (.bool bg) := row_load Z rfl rfl
  cases bg with
  | true =>
    simp only [c36, sA, Int.reduceNegSucc, reduceCtorEq, Nat.reduceEqDiff, ↓reduceIte, Nat.reduceAdd, Int.reduceEq, Int.reduceLT, Int.reduceLE, Nat.reduceLT, nil_cell, fldA, fld0, l1, hg]
    refine (hcall H nilS (AppN.nil _ _ _) (blk_nil _) Z (Nat.le_refl _) fun _ _ _ => rfl).mono ?_
    rintro _ H2 ⟨s, e, rfl, s', H3, m, q⟩
    have m' : aAppend 1 1 H2 (.slice none 0 (.known 0)) s = some (s', H3) := m
    simp only [sA, Int.reduceNegSucc, reduceCtorEq, Nat.reduceEqDiff, ↓reduceIte, Nat.reduceAdd, Int.reduceEq, Int.reduceLT, Int.reduceLE, Nat.reduceLT, ext_0, ext_1, m']
    exact q
  | false =>
    have c2 : Cel (H.next + 1) (H.push (.cells (u8s [120, 1]) 0 false)) (slR H.next 2 (.known 2)) (u8s [120, 1]) := (row_push H (u8s [120, 1])).cel rfl (Nat.lt_succ_self _)
    obtain ⟨s3, H3, m3, A3, n3, b3, o3⟩ := app_u8 (a := []) (AppN.nil 1 0 (H.push (.cells (u8s [120, 1]) 0 false))) c2 (by simp)
    rw [push_next] at n3 b3 o3
    have m3' : aAppend 1 1 (H.push (.cells (u8s [120, 1]) 0 false)) (.slice none 0 (.known 0)) (slR H.next 2 (.known 2)) = some (s3, H3) := m3
    have g3 : ∀ c, c < H.next → H3.get c = H.get c := fun c hc => (o3 c (by omega) (blk_nil _)).trans (get_push_lt hc)
    have B3 : Blk s3 (H.next ≤ ·) := (b3 (fun _ => False) (blk_nil _)).mono fun b hb => hb.elim (fun q => q.elim) fun q => by omega
    obtain ⟨H4, m4, r4, k4, q4⟩ := row_st (Z.same (g3 z hz)) (n := 5) rfl (i := 1) (by omega) (x := .bool true) rfl (l' := zC true dw sum) rfl
    simp only [c36, sA, Int.reduceNegSucc, reduceCtorEq, Nat.reduceEqDiff, ↓reduceIte, Nat.reduceAdd, Int.reduceEq, Int.reduceLT, Int.reduceLE, Nat.reduceLT, nil_cell, fldA, fld0, l1, build21, m3', m4, hg]
    refine (hcall H4 s3 (A3.same (by omega) (B3.mono fun b hb => q4 b (by omega))) B3 r4 (by omega) fun c hc hne => by rw [q4 c hne]; exact g3 c hc).mono ?_
    rintro _ H5 ⟨s, e, rfl, s', H6, m, q⟩
    simp only [sA, Int.reduceNegSucc, reduceCtorEq, Nat.reduceEqDiff, ↓reduceIte, Nat.reduceAdd, Int.reduceEq, Int.reduceLT, Int.reduceLE, Nat.reduceLT, ext_0, ext_1, m]
    exact q
theorem znew_spec (H : AHeap) : ACalls Try.prog natI 16 [] H fun w H' => w = cellR (H.next + 3) 5 0 ∧ Row H' (H.next + 3) (zC false (cellR (H.next + 2) 9 0) 1) ∧ Row H' (H.next + 2) (dC 0 (cellR H.next 3 0) nilS 0 (.map (some (H.next + 1)))) ∧ Row H' H.next [.bool true, nilS, .int .i64 0] ∧ H'.get (H.next + 1) = some (.map [] 0) ∧ H'.next = H.next + 4 ∧ Ext H.next H H' := by
  refine acalls_ofN rfl za16 rfl ?_
  simp only [c16, sA, Int.reduceNegSucc, reduceCtorEq, Nat.reduceEqDiff, ↓reduceIte, Nat.reduceAdd, Int.reduceEq, Int.reduceLT, Int.reduceLE, Nat.reduceLT]
  refine (dnew_spec H).mono ?_
  rintro _ H1 ⟨rfl, r1, r2, g1, k1, E1⟩
  obtain ⟨H3, m3, r3, k3, o3⟩ := row_newL H1 (zC false (cellR (H.next + 2) 9 0) 1) (n := 5) rfl
  have bd : aBuild [.bool false, .bool false, .bool false, .ptr none, .int .u32 0] [(0, 1, .bool true), (3, 1, cellR (H.next + 2) 9 0), (4, 1, .int .u32 1)] = some (.agg (zC false (cellR (H.next + 2) 9 0) 1)) := rfl
  simp only [sA, Int.reduceNegSucc, reduceCtorEq, Nat.reduceEqDiff, ↓reduceIte, Nat.reduceAdd, Int.reduceEq, Int.reduceLT, Int.reduceLE, Nat.reduceLT, bd, cells_agg, m3]
  rw [k1] at r3 k3 o3 ⊢
  exact ⟨(by first | with_reducible rfl | trivial | rfl | assumption), r3, r1.same (o3 _ (by omega)), r2.same (o3 _ (by omega)), by rw [o3 _ (by omega)]; exact g1, by omega, ⟨by omega, fun c hc => by rw [o3 c (by omega)]; exact E1.old c hc⟩⟩
theorem DB.fr0 {n0 : Nat} {τ : Nat → Nat} {H H' : AHeap} {ow o mb : Nat} {kept : AVal} {b : Bs} {sent K : Nat} {M : List Bool} {pl : Nat} (D : DB n0 τ H ow o mb kept b sent K M pl) (hn : H.next ≤ H'.next) (e : ∀ c, c < H.next → τ c ≠ 0 → H'.get c = H.get c) : DB n0 τ H' ow o mb kept b sent K M pl := by
  have P := D.pw
  have o1 := P.own
  have o2 := P.mbn
  have o3 := P.n0n
  have t1 := D.t1
  have t3 := D.t3
  have f : FrS (· = 0) τ H τ H' := ⟨hn, fun c hc => ⟨rfl, fun h => e c hc h⟩⟩
  have kb : Blk kept fun c => (c < H.next ∧ (τ c < 100 ∧ τ c ≠ 6) ∧ c ≠ mb ∧ c ≠ ow) ∧ τ c = 5 := P.kb.and D.k5
  refine ⟨⟨P.row.same (e ow (by omega) (by omega)), P.kp.same hn (kb.mono fun c hc => e c hc.1.1 (by omega)), kb.mono fun c hc => ⟨by omega, hc.1.2⟩, ?_, o1, o2, P.ne, P.tow, by omega, fun c hc => P.tz c (by omega)⟩, D.w.frS f (by omega) (by omega) fun c hc => P.tz c (by omega), D.k5, t1, t3, D.h6, D.Ks⟩
  obtain ⟨es, h1, h2⟩ := MR.iff.1 P.map
  exact MR.iff.2 ⟨es, (e mb (by omega) (by omega)).trans h1, h2.same hn fun c hc ht => ⟨e c hc (by omega), rfl⟩⟩
def ZW (n0 : Nat) (τ : Nat → Nat) (H : AHeap) (z : Nat) (bg : Bool) (b : Bs) (sent K : Nat) (M : List Bool) (pl : Nat) : Prop :=
  ∃ ow o mb kept, DB n0 τ H ow o mb kept b sent K M pl ∧ Row H z (zC bg (cellR ow 9 0) (adler 1 b)) ∧ z < H.next ∧ τ z = 0
def FZ (z : Nat) (τ : Nat → Nat) (H : AHeap) (τ' : Nat → Nat) (H' : AHeap) : Prop := H.next ≤ H'.next ∧ ∀ c, c < H.next → τ c = 0 → τ' c = 0 ∧ (c ≠ z → H'.get c = H.get c)
theorem zwrite_spec {n n0 : Nat} {τ : Nat → Nat} {H : AHeap} {z : Nat} {bg : Bool} {bv : AVal} {b p : Bs} {sent K : Nat} {M : List Bool} {pl : Nat} (h : ZW n0 τ H z bg b sent K M pl) (hp : Cel n H bv (byts p)) (hn : n ≤ H.next) (hbz : Blk bv (· ≠ z)) (hl : b.length + p.length ≤ 20000) (hs : sent ≤ b.length) (hpl : pl ≤ 9 * sent) (hM : M.length ≤ pl) :
    ACalls Try.prog natI 17 [cellR z 5 0, bv] H fun w H' => ∃ s X sent' pl' M' T, w = .tuple [s, .int .i64 0] ∧ AppN 1 0 H' s (u8s (hd bg ++ pack T)) (hd bg ++ pack T).length ∧ T ++ M' = M ++ X ∧ T.length % 8 = 0 ∧ M'.length < 8 ∧ pl' = pl + X.length ∧ sent' ≤ (b ++ p).length ∧ (b ++ p).length - sent' ≤ 4096 ∧ pl' ≤ 9 * sent' ∧ Blks M.length (b.take sent) X ((b ++ p).take sent') ∧ (∃ τ' K', ZW n0 τ' H' z true (b ++ p) sent' K' M' pl' ∧ Blk s (fun c => τ' c = 0 ∧ H.next ≤ c) ∧ FZ z τ H τ' H') ∧ ((b ++ p).length - sent ≤ 4096 → sent' = sent ∧ X = []) := by
  obtain ⟨ow, o, mb, kept, D, R, hz, tz⟩ := h
  refine acalls_ofN rfl za17 rfl ?_
  have b1 : bv.one = true := cel_one hp
  obtain ⟨H1, m1, r1, k1, q1⟩ := row_newL H [bv] (n := 1) rfl
  have E1 : Ext H.next H H1 := ⟨by omega, fun c hc => q1 c (by omega)⟩
  have R1 := R.same (E1.old z hz)
  have l4 : oLoad false 1 H1 (cellR z 5 4) = some (.int .u32 ((adler 1 b : Nat) : Int)) := row_load R1 rfl rfl
  have lb : oLoad false 1 H1 (cellR H.next 1 0) = some bv := row_load r1 rfl rfl
  have hp1 := hp.ext (E1.less hn)
  simp only [c17, sA, Int.reduceNegSucc, reduceCtorEq, Nat.reduceEqDiff, ↓reduceIte, Nat.reduceAdd, Int.reduceEq, Int.reduceLT, Int.reduceLE, Nat.reduceLT, cells_one b1, m1]
  refine (zstate_spec R1).mono ?_
  rintro _ _ ⟨rfl, rfl⟩
  simp only [sA, Int.reduceNegSucc, reduceCtorEq, Nat.reduceEqDiff, ↓reduceIte, Nat.reduceAdd, Int.reduceEq, Int.reduceLT, Int.reduceLE, Nat.reduceLT, nil_cell, fldA, fld0, l4, lb]
  refine (adler_spec hp1 (adler 1 b) (adler_lt 1 b) (by omega)).mono ?_
  rintro _ _ ⟨rfl, rfl⟩
  rw [adler_append]
  obtain ⟨H2, m2, r2, k2', q2⟩ := row_st R1 (n := 5) rfl (i := 4) (by omega) (x := .int .u32 ((adler 1 (b ++ p) : Nat) : Int)) rfl (l' := zC bg (cellR ow 9 0) (adler 1 (b ++ p))) rfl
  have l3 : oLoad false 1 H2 (cellR z 5 3) = some (cellR ow 9 0) := row_load r2 rfl rfl
  obtain ⟨H3, m3, r3, k3, q3⟩ := row_newL H2 [.nilFunc] (n := 1) rfl
  obtain ⟨H4, m4, r4, k4, q4⟩ := row_st r3 (n := 1) rfl (i := 0) (by omega) (x := .func (.func 11) [cellR ow 9 0] []) rfl (l' := [.func (.func 11) [cellR ow 9 0] []]) rfl
  have g4 : ∀ c, c < H2.next → H4.get c = H2.get c := fun c hc => by rw [q4 c (by omega), q3 c (by omega)]
  have R4 := r2.same (g4 z (by omega))
  simp only [sA, Int.reduceNegSucc, reduceCtorEq, Nat.reduceEqDiff, ↓reduceIte, Nat.reduceAdd, Int.reduceEq, Int.reduceLT, Int.reduceLE, Nat.reduceLT, nil_cell, fldA, fld0, m2, l3, m3, m4]
  refine told_spec R4 (by omega) (by omega) fun H5 s0 A0 B0 R5 n5 e5 => ?_
  have e05 : ∀ c, c < H.next → c ≠ z → H5.get c = H.get c := fun c hc hne => by rw [e5 c (by omega) hne, g4 c (by omega), q2 c hne, q1 c (by omega)]
  have D5 := D.fr0 (H' := H5) (by omega) fun c hc h0 => e05 c hc (by rintro rfl; exact h0 tz)
  have hp5 : Cel H5.next H5 bv (byts p) := cel_same hp (by omega) (((cel_blk hp).and hbz).mono fun c hc => e05 c (by omega) hc.2)
  have r5 : Row H5 H2.next [.func (.func 11) [cellR ow 9 0] []] := r4.same (e5 _ (by omega) (by omega))
  have rb5 : Row H5 H.next [bv] := r1.same (by rw [e5 _ (by omega) (by omega), g4 _ (by omega), q2 _ (by omega)])
  have lf : oLoad false 1 H5 (cellR H2.next 1 0) = some (.func (.func 11) [cellR ow 9 0] []) := row_load r5 rfl rfl
  have lb5 : oLoad false 1 H5 (cellR H.next 1 0) = some bv := row_load rb5 rfl rfl
  have tz0 := D.pw.tz
  simp only [List.nil_append]
  refine acalls_ofN rfl za37 rfl ?_
  simp only [c37, sA, Int.reduceNegSucc, reduceCtorEq, Nat.reduceEqDiff, ↓reduceIte, Nat.reduceAdd, Int.reduceEq, Int.reduceLT, Int.reduceLE, Nat.reduceLT, lf, lb5]
  refine (dwrite_spec D5 hp5 hl hs hpl hM).mono ?_
  rintro _ H6 ⟨s, X, sent', pl', M', T, rfl, cs, eT, tT, hM', hpl', -, hs', hlong, h9, hB, τ6, K6, kept6, D6, bs, f6, sm⟩
  have f6n := f6.1
  have b0 : Blk s0 fun c => H.next ≤ c ∧ c < H5.next := ((B0.mono fun c hc => by omega).and A0.blk')
  have A6 : AppN 1 0 H6 s0 (u8s (hd bg)) (hd bg).length := A0.same f6n (b0.mono fun c hc => (f6.2 c hc.2 (.inl (tz0 c hc.1))).2)
  have hz5 : z < H5.next := by omega
  have R6 := R5.same (f6.2 z hz5 (.inl tz)).2
  have hdl : (hd bg).length ≤ 2 := by cases bg <;> simp [hd]
  have eTl := congrArg List.length eT
  rw [List.length_append, List.length_append] at eTl
  have hbp : (b ++ p).length = b.length + p.length := List.length_append
  have hpk : (pack T).length ≤ 50000 := by rw [pack_len]; omega
  obtain ⟨s7, H7, m7, A7, n7, b7, o7⟩ := app_u8 A6 cs (by omega)
  have s7b : Blk s7 fun c => (H.next ≤ c ∧ c < H5.next) ∨ H6.next ≤ c := b7 _ b0
  have tz6 := D6.pw.tz
  have kp7 : ∀ c, c < H6.next → (c < H.next ∨ H5.next ≤ c ∨ τ6 c ≠ 0) → H7.get c = H6.get c := fun c hc hx => o7 c hc (b0.mono fun d hd => by
    rintro rfl
    have := (f6.2 c hd.2 (.inl (tz0 c hd.1))).1
    have := tz0 c hd.1
    omega)
  have D7 := D6.fr0 (H' := H7) n7 fun c hc h0 => kp7 c hc (.inr (.inr h0))
  have R7 := R6.same (kp7 z (by omega) (.inl hz))
  simp only [sA, Int.reduceNegSucc, reduceCtorEq, Nat.reduceEqDiff, ↓reduceIte, Nat.reduceAdd, Int.reduceEq, Int.reduceLT, Int.reduceLE, Nat.reduceLT, ext_0, ext_1]
  refine ⟨s, .int .i64 0, (by first | with_reducible rfl | trivial | rfl | assumption), s7, H7, m7, ?_⟩
  refine ⟨s7, X, sent', pl', M', T, (by first | with_reducible rfl | trivial | rfl | assumption), A7, eT, tT, hM', hpl', hs', hlong, h9, hB, ⟨τ6, K6, ⟨ow, o, mb, kept6, D7, R7, by omega, (f6.2 z hz5 (.inl tz)).1.trans tz⟩, s7b.mono fun c hc => ?_, by omega, fun c hc h0 => ?_⟩, sm⟩
  · rcases hc with hc | hc
    · exact ⟨(f6.2 c hc.2 (.inl (tz0 c hc.1))).1.trans (tz0 c hc.1), hc.1⟩
    · exact ⟨tz6 c hc, by omega⟩
  · obtain ⟨e1, e2⟩ := f6.2 c (by omega) (.inl h0)
    exact ⟨e1.trans h0, fun hne => by rw [kp7 c (by omega) (.inl hc), e2, e05 c hc hne]⟩
theorem zend_spec {n0 : Nat} {τ : Nat → Nat} {H : AHeap} {z : Nat} {bg : Bool} {b : Bs} {sent K : Nat} {M : List Bool} {pl : Nat} (h : ZW n0 τ H z bg b sent K M pl) (hl : b.length ≤ 20000) (hs : sent ≤ b.length) (hlong : b.length - sent ≤ 4096) (hpl : pl ≤ 9 * sent) (hM : M.length < 8) :
    ACalls Try.prog natI 18 [cellR z 5 0] H fun w H' => ∃ s, w = .tuple [s, .int .i64 0] ∧ Cel H'.next H' s (u8s (hd bg ++ pack (M ++ endX M.length b sent) ++ fourL (adler 1 b))) ∧ H.next ≤ H'.next ∧ ∀ c, c < H.next → τ c = 0 → c ≠ z → H'.get c = H.get c := by
  obtain ⟨ow, o, mb, kept, D, R, hz, tz⟩ := h
  refine acalls_ofN rfl za18 rfl ?_
  have l3 : oLoad false 1 H (cellR z 5 3) = some (cellR ow 9 0) := row_load R rfl rfl
  have tz0 := D.pw.tz
  simp only [c18, sA, Int.reduceNegSucc, reduceCtorEq, Nat.reduceEqDiff, ↓reduceIte, Nat.reduceAdd, Int.reduceEq, Int.reduceLT, Int.reduceLE, Nat.reduceLT]
  refine (zstate_spec R).mono ?_
  rintro _ _ ⟨rfl, rfl⟩
  simp only [sA, Int.reduceNegSucc, reduceCtorEq, Nat.reduceEqDiff, ↓reduceIte, Nat.reduceAdd, Int.reduceEq, Int.reduceLT, Int.reduceLE, Nat.reduceLT, nil_cell, fldA, fld0, l3]
  refine told_spec R hz (by omega) fun H1 s0 A0 B0 R1 n1 e1 => ?_
  have D1 := D.fr0 (H' := H1) n1 fun c hc h0 => e1 c hc (by rintro rfl; exact h0 tz)
  refine (dend_spec D1 hl hs hlong hpl hM).mono ?_
  rintro _ H2 ⟨s, rfl, C2, τ2, bs2, f2⟩
  have b0 : Blk s0 fun c => H.next ≤ c ∧ c < H1.next := B0.and A0.blk'
  have n2 := f2.1
  have A2 : AppN 1 0 H2 s0 (u8s (hd bg)) (hd bg).length := A0.same n2 (b0.mono fun c hc => (f2.2 c hc.2 (.inl (tz0 c hc.1))).2)
  have hbl := blkB_len 1 M.length (b := b) (sent := sent) (to := b.length) hs (Nat.le_refl _)
  have el : (M ++ endX M.length b sent).length ≤ 40000 := by
    have hf : fillN (M.length + (blkB 1 M.length b sent b.length).length) ≤ 7 := by unfold fillN; omega
    unfold endX
    simp only [List.length_append, List.length_replicate]; omega
  have pl' : (pack (M ++ endX M.length b sent)).length ≤ 10000 := by rw [pack_len]; omega
  generalize pack (M ++ endX M.length b sent) = pk at *
  have hdl : (hd bg).length ≤ 2 := by cases bg <;> simp [hd]
  obtain ⟨s3, H3, m3, A3, n3, b3, o3⟩ := app_u8 A2 C2 (by omega)
  refine ⟨s, .int .i64 0, rfl, s3, H3, m3, ?_⟩
  have hz1 : z < H1.next := by omega
  have g3 : ∀ c, c < H.next → H3.get c = H2.get c := fun c hc => o3 c (by omega) (b0.mono fun d hd => by omega)
  have R3 : Row H3 z (zC true (cellR ow 9 0) (adler 1 b)) := R1.same (by rw [g3 z hz, (f2.2 z hz1 (.inl tz)).2])
  have B3 : Blk s3 (H.next ≤ ·) := (b3 _ B0).mono fun c hc => by omega
  obtain ⟨H4, m4, r4, k4, q4⟩ := row_st R3 (n := 5) rfl (i := 2) (by omega) (x := .bool true) rfl rfl
  obtain ⟨H5, m5, r5, k5, q5⟩ := row_st r4 (n := 5) rfl (i := 3) (by decide) (x := .ptr none) rfl rfl
  have A5 : AppN 1 0 H5 s3 (u8s (hd bg ++ pk)) (hd bg ++ pk).length := A3.same (by omega) (B3.mono fun c hc => by rw [q5 c (by omega), q4 c (by omega)])
  have l4 : oLoad false 1 H5 (cellR z 5 4) = some (.int .u32 ((adler 1 b : Nat) : Int)) := row_load r5 rfl rfl
  have ha := adler_lt 1 b
  have hsr : ∀ k : Nat, k ≤ 32 → aBin .shr (.int .u32 ((adler 1 b : Nat) : Int)) (.int .u64 (k : Int)) = some (.int .u32 ((adler 1 b / 2 ^ k : Nat) : Int)) := fun k hk => shrN .u32 .u64 (adler 1 b) hk
  have h24 : aBin .shr (.int .u32 ((adler 1 b : Nat) : Int)) (.int .u64 24) = some (.int .u32 ((adler 1 b / 16777216 : Nat) : Int)) := hsr 24 (by omega)
  have h16 : aBin .shr (.int .u32 ((adler 1 b : Nat) : Int)) (.int .u64 16) = some (.int .u32 ((adler 1 b / 65536 : Nat) : Int)) := hsr 16 (by omega)
  have h08 : aBin .shr (.int .u32 ((adler 1 b : Nat) : Int)) (.int .u64 8) = some (.int .u32 ((adler 1 b / 256 : Nat) : Int)) := hsr 8 (by omega)
  have wu : ∀ a : Nat, IntKind.u8.wrap (a : Int) = ((a % 256 : Nat) : Int) := fun a => wrap_um .u8 (.inl rfl) a
  have A6 := A5.same (H' := H5.push (.cells (u8s (fourL (adler 1 b))) 0 false)) (by rw [push_next]; omega) (A5.blk'.mono fun c hc => get_push_lt hc)
  have C6 : Cel (H5.next + 1) (H5.push (.cells (u8s (fourL (adler 1 b))) 0 false)) (slR H5.next 4 (.known 4)) (u8s (fourL (adler 1 b))) := (row_push H5 (u8s (fourL (adler 1 b)))).cel rfl (Nat.lt_succ_self _)
  obtain ⟨s7, H7, m7, A7, n7, b7, o7⟩ := app_u8 A6 C6 (by simp only [List.length_append, fourL, List.length_cons, List.length_nil]; omega)
  rw [push_next] at n7 o7
  have bs : aBuildSl 4 [.int .u8 0] H5 [(0, 1, .int .u8 ((adler 1 b / 16777216 % 256 : Nat) : Int)), (1, 1, .int .u8 ((adler 1 b / 65536 % 256 : Nat) : Int)), (2, 1, .int .u8 ((adler 1 b / 256 % 256 : Nat) : Int)), (3, 1, .int .u8 ((adler 1 b % 256 : Nat) : Int))] = some (slR H5.next 4 (.known 4), H5.push (.cells (u8s (fourL (adler 1 b))) 0 false)) := build4 _ _ _ _ _
  simp only [sA, Int.reduceNegSucc, reduceCtorEq, Nat.reduceEqDiff, ↓reduceIte, Nat.reduceAdd, Int.reduceEq, Int.reduceLT, Int.reduceLE, Nat.reduceLT, nil_cell, fldA, fld0, m4, m5, l4, h24, h16, h08, conv_in, wu, bs, m7]
  refine ⟨s7, (by first | with_reducible rfl | trivial | rfl | assumption), A7.cel1 A7.blk', by omega, fun c hc h0 hne => ?_⟩
  rw [o7 c (by omega) (B3.mono fun d hd => by omega), get_push_lt (by omega), q5 c hne, q4 c hne, g3 c hc, (f2.2 c (by omega) (.inl h0)).2]
  exact e1 c hc hne
end Go.Proofs.Zi
namespace Go.Proofs.Zi
open Go.Abs Go.Abs.S
set_option linter.unusedSimpArgs false
def sum4 (l : Bs) : Nat := (l.getD 0 0).toNat * 16777216 + (l.getD 1 0).toNat * 65536 + (l.getD 2 0).toNat * 256 + (l.getD 3 0).toNat
def openE (o tl : Bs) : Nat := if tl.length < 4 then 12 else if sum4 tl ≠ adler 1 o then 11 else if 4 < tl.length then 10 else 0
theorem head_ok {H : AHeap} : ACalls Try.prog natI 43 [.int .u8 120, .int .u8 1] H fun w H' => w = .bool true ∧ H = H' := by
  refine acalls_ofN rfl za43 rfl ?_
  have r1 : aBin .rem (.int .u8 120) (.int .u8 16) = some (.int .u8 8) := rfl
  have r2 : aBin .quo (.int .u8 120) (.int .u8 16) = some (.int .u8 7) := rfl
  have r3 : IntKind.i64.wrap 120 = 120 := rfl
  have r4 : IntKind.i64.wrap 1 = 1 := rfl
  have r5 : IntKind.i64.wrap (256 * 120) = 30720 := rfl
  have r6 : IntKind.i64.wrap (30720 + 1) = 30721 := rfl
  have r7 : aBin .rem (.int .i64 30721) (.int .i64 31) = some (.int .i64 0) := rfl
  have r8 : aBin .and (.int .u8 1) (.int .u8 32) = some (.int .u8 0) := rfl
  simp only [c43, sA, Int.reduceNegSucc, reduceCtorEq, Nat.reduceEqDiff, ↓reduceIte, Nat.reduceAdd, Int.reduceEq, Int.reduceLT, Int.reduceLE, Nat.reduceLT, r1, r2, conv_in, r3, r4, r5, r6, r7, r8]
  exact ⟨(by first | with_reducible rfl | trivial | rfl | assumption), (by first | with_reducible rfl | trivial | rfl | assumption)⟩
theorem head_no {H : AHeap} : ACalls Try.prog natI 43 [.int .u8 121, .int .u8 1] H fun w H' => w = .bool false ∧ H = H' := by
  refine acalls_ofN rfl za43 rfl ?_
  have r1 : aBin .rem (.int .u8 121) (.int .u8 16) = some (.int .u8 9) := rfl
  simp only [c43, sA, Int.reduceNegSucc, reduceCtorEq, Nat.reduceEqDiff, ↓reduceIte, Nat.reduceAdd, Int.reduceEq, Int.reduceLT, Int.reduceLE, Nat.reduceLT, r1]
  exact ⟨(by first | with_reducible rfl | trivial | rfl | assumption), (by first | with_reducible rfl | trivial | rfl | assumption)⟩
theorem open_short {n : Nat} {H : AHeap} {v : AVal} {bb : Bs} {most : Nat} (hv : Cel n H v (byts bb)) (hl : bb.length < 2) :
    ACalls Try.prog natI 24 [v, .int .i64 (most : Int)] H fun w H' => w = .tuple [nilS, .int .i64 12] ∧ Ext H.next H H' := by
  refine acalls_ofN rfl za24 rfl ?_
  have lv := hv.len
  rw [byts_len] at lv
  have hl' : (bb.length : Int) < 2 := by omega
  simp only [c24, sA, Int.reduceNegSucc, reduceCtorEq, Nat.reduceEqDiff, ↓reduceIte, Nat.reduceAdd, Int.reduceEq, Int.reduceLT, Int.reduceLE, Nat.reduceLT, lv, hl']
  exact ⟨(by first | with_reducible rfl | trivial | rfl | assumption), Ext.refl _ _⟩
theorem open_head {n : Nat} {H : AHeap} {v : AVal} {rest : Bs} {most : Nat} (hv : Cel n H v (byts (121 :: 1 :: rest))) :
    ACalls Try.prog natI 24 [v, .int .i64 (most : Int)] H fun w H' => w = .tuple [nilS, .int .i64 10] ∧ Ext H.next H H' := by
  refine acalls_ofN rfl za24 rfl ?_
  have lv := hv.len
  rw [byts_len] at lv
  have hl' : ¬ (((121 :: 1 :: rest : Bs).length : Nat) : Int) < 2 := by simp only [List.length_cons]; omega
  have i0 := hv.idx .i64 (i := 0) (by simp [byts])
  have i1 := hv.idx .i64 (i := 1) (by simp [byts])
  have x0 : oLoad false 1 H (cellP v 0) = some (.int .u8 121) := hv.load (i := 0) rfl
  have x1 : oLoad false 1 H (cellP v 1) = some (.int .u8 1) := hv.load (i := 1) rfl
  simp only [Int.natCast_zero, Int.natCast_one] at i0 i1
  simp only [c24, sA, Int.reduceNegSucc, reduceCtorEq, Nat.reduceEqDiff, ↓reduceIte, Nat.reduceAdd, Int.reduceEq, Int.reduceLT, Int.reduceLE, Nat.reduceLT, lv, hl', i0, i1, x0, x1]
  refine head_no.mono ?_
  rintro _ _ ⟨rfl, rfl⟩
  simp only [sA, Int.reduceNegSucc, reduceCtorEq, Nat.reduceEqDiff, ↓reduceIte, Nat.reduceAdd, Int.reduceEq, Int.reduceLT, Int.reduceLE, Nat.reduceLT]
  exact ⟨(by first | with_reducible rfl | trivial | rfl | assumption), Ext.refl _ _⟩
theorem open_ok {n : Nat} {H : AHeap} {v : AVal} {rest o : Bs} {q most F G : Nat} (hv : Cel n H v (byts (120 :: 1 :: rest))) (hs : ∀ lo, lo ≤ rest.length + 2 → ∃ s', aSl 1 v (some (.int .i64 (lo : Int))) none none = some s' ∧ Cel n H s' (byts ((120 :: 1 :: rest : Bs).drop lo))) (hn : n ≤ H.next)
    (hd : rest.length ≤ 500000) (hm : most ≤ 100000) (hM : blocksM (bitsB rest) most F G [] 0 = .ok o q) (hq : (q + 7) / 8 ≤ rest.length) (ho : o.length ≤ 1000000) {tl : Bs} (ht : rest.drop ((q + 7) / 8) = tl) :
    ACalls Try.prog natI 24 [v, .int .i64 (most : Int)] H fun w H' => Ext H.next H H' ∧ ((openE o tl = 0 ∧ ∃ out, w = .tuple [out, .int .i64 0] ∧ Cel H'.next H' out (byts o)) ∨ (openE o tl ≠ 0 ∧ w = .tuple [nilS, .int .i64 (openE o tl : Int)])) := by
  refine acalls_ofN rfl za24 rfl ?_
  have lv := hv.len
  rw [byts_len] at lv
  have hl' : ¬ (((120 :: 1 :: rest : Bs).length : Nat) : Int) < 2 := by simp only [List.length_cons]; omega
  have i0 := hv.idx .i64 (i := 0) (by simp [byts])
  have i1 := hv.idx .i64 (i := 1) (by simp [byts])
  have x0 : oLoad false 1 H (cellP v 0) = some (.int .u8 120) := hv.load (i := 0) rfl
  have x1 : oLoad false 1 H (cellP v 1) = some (.int .u8 1) := hv.load (i := 1) rfl
  simp only [Int.natCast_zero, Int.natCast_one] at i0 i1
  obtain ⟨s2, m2, C2⟩ := hs 2 (by omega)
  obtain ⟨s3, m3, C3⟩ := hs (2 + (q + 7) / 8) (by omega)
  have e2 : (120 :: 1 :: rest : Bs).drop 2 = rest := rfl
  have e3 : (120 :: 1 :: rest : Bs).drop (2 + (q + 7) / 8) = tl := by rw [← List.drop_drop, e2, ht]
  rw [e2] at C2
  rw [e3] at C3
  have m2' : aSl 1 v (some (.int .i64 2)) none none = some s2 := m2
  simp only [c24, sA, Int.reduceNegSucc, reduceCtorEq, Nat.reduceEqDiff, ↓reduceIte, Nat.reduceAdd, Int.reduceEq, Int.reduceLT, Int.reduceLE, Nat.reduceLT, lv, hl', i0, i1, x0, x1]
  refine head_ok.mono ?_
  rintro _ _ ⟨rfl, rfl⟩
  simp only [sA, Int.reduceNegSucc, reduceCtorEq, Nat.reduceEqDiff, ↓reduceIte, Nat.reduceAdd, Int.reduceEq, Int.reduceLT, Int.reduceLE, Nat.reduceLT, m2']
  refine (inflate_spec C2 (by omega) hm (by rw [hM]; exact fun h => by cases h)).mono ?_
  rintro _ H1 ⟨E1, ⟨out, o', q', hB, rfl, cO⟩ | ⟨e, hB, rfl⟩⟩
  case inr => rw [hM] at hB; cases hB
  rw [hM] at hB
  injection hB with hB1 hB2
  subst hB1 hB2
  have w2 : IntKind.i64.wrap (2 + (((q + 7) / 8 : Nat) : Int)) = ((2 + (q + 7) / 8 : Nat) : Int) := by rw [IntKind.wrap_i64]; omega
  have C3' := C3.ext (E1.less hn)
  have l3 := C3'.len
  rw [byts_len] at l3
  by_cases h4 : tl.length < 4
  · have h4' : (tl.length : Int) < 4 := by omega
    have hE : openE o tl = 12 := by unfold openE; rw [if_pos h4]
    simp only [sA, Int.reduceNegSucc, reduceCtorEq, Nat.reduceEqDiff, ↓reduceIte, Nat.reduceAdd, Int.reduceEq, Int.reduceLT, Int.reduceLE, Nat.reduceLT, ext_0, ext_1, ext_2, w2, m3, l3, h4']
    exact ⟨E1, .inr ⟨by rw [hE]; omega, by rw [hE]; rfl⟩⟩
  have h4' : ¬ (tl.length : Int) < 4 := by omega
  have gd : ∀ i, i < 4 → tl[i]? = some (tl.getD i 0) := fun i hi => by rw [List.getD_eq_getElem?_getD, List.getElem?_eq_getElem (by omega)]; rfl
  have j0 := C3'.idx .i64 (i := 0) (by rw [byts_len]; omega)
  have j1 := C3'.idx .i64 (i := 1) (by rw [byts_len]; omega)
  have j2 := C3'.idx .i64 (i := 2) (by rw [byts_len]; omega)
  have j3 := C3'.idx .i64 (i := 3) (by rw [byts_len]; omega)
  have y0 := C3'.load (byts_get (gd 0 (by omega)))
  have y1 := C3'.load (byts_get (gd 1 (by omega)))
  have y2 := C3'.load (byts_get (gd 2 (by omega)))
  have y3 := C3'.load (byts_get (gd 3 (by omega)))
  simp only [Int.natCast_zero, Int.natCast_one] at j0 j1
  have j2' : aIdxA 1 s3 (.int .i64 2) = some (cellP s3 2) := j2
  have j3' : aIdxA 1 s3 (.int .i64 3) = some (cellP s3 3) := j3
  have b0 := (tl.getD 0 0).toNat_lt
  have b1 := (tl.getD 1 0).toNat_lt
  have b2 := (tl.getD 2 0).toNat_lt
  have b3 := (tl.getD 3 0).toNat_lt
  have u0 := b_u32 (tl.getD 0 0)
  have u1 := b_u32 (tl.getD 1 0)
  have u2 := b_u32 (tl.getD 2 0)
  have u3 := b_u32 (tl.getD 3 0)
  have hs4 : sum4 tl = (tl.getD 0 0).toNat * 16777216 + (tl.getD 1 0).toNat * 65536 + (tl.getD 2 0).toNat * 256 + (tl.getD 3 0).toNat := rfl
  generalize (tl.getD 0 0).toNat = a at *
  generalize (tl.getD 1 0).toNat = b at *
  generalize (tl.getD 2 0).toNat = c at *
  generalize (tl.getD 3 0).toNat = d at *
  have sh : ∀ (x k : Nat), k ≤ 32 → x * 2 ^ k < 2 ^ 32 → aBin .shl (.int .u32 (x : Int)) (.int .u64 (k : Int)) = some (.int .u32 ((x * 2 ^ k : Nat) : Int)) := fun x k hk hx => by
    have := bin_shlU .u32 .u64 (by simp) x (b := k) (by simp only [IntKind.bits]; omega)
    rw [Nat.mod_eq_of_lt (by simp only [IntKind.bits]; omega)] at this
    exact this
  have s24 : aBin .shl (.int .u32 (a : Int)) (.int .u64 24) = some (.int .u32 ((a * 2 ^ 24 : Nat) : Int)) := sh a 24 (by omega) (by omega)
  have s16 : aBin .shl (.int .u32 (b : Int)) (.int .u64 16) = some (.int .u32 ((b * 2 ^ 16 : Nat) : Int)) := sh b 16 (by omega) (by omega)
  have s08 : aBin .shl (.int .u32 (c : Int)) (.int .u64 8) = some (.int .u32 ((c * 2 ^ 8 : Nat) : Int)) := sh c 8 (by omega) (by omega)
  have o1 := bin_orU .u32 (by simp) (a := a * 2 ^ 24) (b := b * 2 ^ 16) (by simp only [IntKind.bits]; omega) (by simp only [IntKind.bits]; omega)
  rw [or_low 24 a (by omega)] at o1
  have o2 := bin_orU .u32 (by simp) (a := a * 2 ^ 24 + b * 2 ^ 16) (b := c * 2 ^ 8) (by simp only [IntKind.bits]; omega) (by simp only [IntKind.bits]; omega)
  rw [show a * 2 ^ 24 + b * 2 ^ 16 = (a * 256 + b) * 2 ^ 16 by omega, or_low 16 (a * 256 + b) (by omega), ← show a * 2 ^ 24 + b * 2 ^ 16 = (a * 256 + b) * 2 ^ 16 by omega] at o2
  have o3 := bin_orU .u32 (by simp) (a := a * 2 ^ 24 + b * 2 ^ 16 + c * 2 ^ 8) (b := d) (by simp only [IntKind.bits]; omega) (by simp only [IntKind.bits]; omega)
  rw [show a * 2 ^ 24 + b * 2 ^ 16 + c * 2 ^ 8 = (a * 65536 + b * 256 + c) * 2 ^ 8 by omega, or_low 8 (a * 65536 + b * 256 + c) (by omega), show (a * 65536 + b * 256 + c) * 2 ^ 8 + d = sum4 tl by omega, ← show a * 2 ^ 24 + b * 2 ^ 16 + c * 2 ^ 8 = (a * 65536 + b * 256 + c) * 2 ^ 8 by omega] at o3
  simp only [sA, Int.reduceNegSucc, reduceCtorEq, Nat.reduceEqDiff, ↓reduceIte, Nat.reduceAdd, Int.reduceEq, Int.reduceLT, Int.reduceLE, Nat.reduceLT, ext_0, ext_1, ext_2, w2, m3, l3, h4', j0, j1, j2', j3', y0, y1, y2, y3, conv_in, u0, u1, u2, u3, s24, s16, s08, o1, o2, o3]
  have aspec := adler_spec cO 1 (by omega) (by omega)
  simp only [Int.natCast_one] at aspec
  refine aspec.mono ?_
  rintro _ _ ⟨rfl, rfl⟩
  by_cases hsum : sum4 tl = adler 1 o
  · have hsum' : ((sum4 tl : Nat) : Int) = ((adler 1 o : Nat) : Int) := by rw [hsum]
    by_cases h5 : 4 < tl.length
    · have h5' : (4 : Int) < (tl.length : Int) := by omega
      have hE : openE o tl = 10 := by unfold openE; rw [if_neg h4, if_neg (by simpa using hsum), if_pos h5]
      simp only [sA, Int.reduceNegSucc, reduceCtorEq, Nat.reduceEqDiff, ↓reduceIte, Nat.reduceAdd, Int.reduceEq, Int.reduceLT, Int.reduceLE, Nat.reduceLT, hsum', l3, h5']
      exact ⟨E1, .inr ⟨by rw [hE]; omega, by rw [hE]; rfl⟩⟩
    · have h5' : ¬ (4 : Int) < (tl.length : Int) := by omega
      have hE : openE o tl = 0 := by unfold openE; rw [if_neg h4, if_neg (by simpa using hsum), if_neg h5]
      simp only [sA, Int.reduceNegSucc, reduceCtorEq, Nat.reduceEqDiff, ↓reduceIte, Nat.reduceAdd, Int.reduceEq, Int.reduceLT, Int.reduceLE, Nat.reduceLT, hsum', l3, h5']
      exact ⟨E1, .inl ⟨hE, out, (by first | with_reducible rfl | trivial | rfl | assumption), cO⟩⟩
  · have hsum' : ¬ ((sum4 tl : Nat) : Int) = ((adler 1 o : Nat) : Int) := by omega
    have hE : openE o tl = 11 := by unfold openE; rw [if_neg h4, if_pos hsum]
    simp only [sA, Int.reduceNegSucc, reduceCtorEq, Nat.reduceEqDiff, ↓reduceIte, Nat.reduceAdd, Int.reduceEq, Int.reduceLT, Int.reduceLE, Nat.reduceLT, hsum']
    exact ⟨E1, .inr ⟨by rw [hE]; omega, by rw [hE]; rfl⟩⟩
end Go.Proofs.Zi
namespace Go.Proofs.Zi
open Go.Abs Go.Abs.S
set_option linter.unusedSimpArgs false
theorem arg_from {n : Nat} {H : AHeap} {s : AVal} {l : List AVal} (h : ArgS n H s l) {a : Nat} (ha : a ≤ l.length) :
    ∃ s', aSl 1 s (some (.int .i64 (a : Int))) none none = some s' ∧ Cel n H s' (l.drop a) := by
  have hbd : ∀ c, l.length ≤ c → aBnd l.length c (some (.int .i64 (a : Int))) none none = some (a, l.length, none) := by
    intro c hc
    have h2 : bdO (some (.int .i64 (a : Int))) l.length 0 = some a := bd_nat ha
    have h1 : bdO none c l.length = some l.length := rfl
    simp only [aBnd, h1, h2]
  rcases h with ⟨rfl, rfl⟩ | ⟨ad, c, rfl, h2, h3, h4⟩
  · have ha0 : a = 0 := by simpa using ha
    subst ha0
    have := hbd 0 (Nat.le_refl _)
    simp only [List.length_nil] at this
    refine ⟨nilS, ?_, .inl ⟨rfl, by simp⟩⟩
    simp only [aSl, nilS, this]
  · have hlen : (l.drop a).length = l.length - a := by simp
    obtain ⟨L, low, ro, q1, q2, q3, q4, q5⟩ := rd_spec h4
    simp only [aSl, hbd c h2, Option.getD_none]
    cases hq : Nat.beq c a with
    | true =>
      have hca : c = a := Nat.eq_of_beq_eq_true hq
      have e0 : l.length - a = 0 := by omega
      refine ⟨_, rfl, .inr ⟨ad, .known (c - a), by rw [hlen], h3, ?_⟩⟩
      rw [hlen, e0]
      have := rd_pre h4 (Nat.zero_le _)
      have e1 : l.drop a = [] := List.drop_of_length_le (by omega)
      rw [e1]
      simpa using this
    | false =>
      refine ⟨_, rfl, .inr ⟨⟨ad.b, ad.lim, ad.o + a * 1⟩, .known (c - a), by rw [hlen], h3, ?_⟩⟩
      rw [hlen]
      unfold rdCells
      simp only [q1, Nat.mul_one, Nat.ble_eq_true_of_le q2, Nat.ble_eq_true_of_le q3, Nat.ble_eq_true_of_le (show ad.o + a + (l.length - a) ≤ ad.lim by omega), Bool.and_self, cond_true]
      congr 1
      conv => rhs; rw [q5]
      rw [List.drop_take, List.drop_drop]
theorem sl_none {s : AVal} {hi : Option AVal} : aSl 1 s none hi none = aSl 1 s (some (.int .i64 ((0 : Nat) : Int))) hi none := by
  have hb : ∀ len c, aBnd len c none hi none = aBnd len c (some (.int .i64 ((0 : Nat) : Int))) hi none := by
    intro len c
    unfold aBnd
    have : ∀ h, bdO none h 0 = bdO (some (.int .i64 ((0 : Nat) : Int))) h 0 := fun h => (bd_nat (Nat.zero_le h)).symm
    simp only [this]
  unfold aSl
  simp only [hb]
theorem pick_spec (x : Int) (m : Nat) (h0 : 0 < m) (hm : m ≤ 1000000) {H : AHeap} : ACalls Try.prog natI 10 [.int .i64 x, .int .i64 (m : Int)] H fun v H' => (∃ r : Nat, r < m ∧ v = .int .i64 (r : Int)) ∧ H = H' := by
  refine acalls_ofN rfl za10 rfl ?_
  have h0' : ¬ (m : Int) ≤ 0 := by omega
  have hlt := Int.tmod_lt_of_pos x (show (0 : Int) < (m : Int) by omega)
  have hgt := Int.lt_tmod_of_pos x (show (0 : Int) < (m : Int) by omega)
  have hr := bin_rem .i64 x (m : Int) (by omega)
  by_cases hn : x.tmod (m : Int) < 0
  · have w : IntKind.i64.wrap (x.tmod (m : Int) + (m : Int)) = x.tmod (m : Int) + (m : Int) := wrap64 (by omega) (by omega)
    simp only [c10, sA, Int.reduceNegSucc, reduceCtorEq, Nat.reduceEqDiff, ↓reduceIte, Nat.reduceAdd, Int.reduceEq, Int.reduceLT, Int.reduceLE, Nat.reduceLT, h0', hr, hn, w]
    exact ⟨⟨(x.tmod (m : Int) + (m : Int)).toNat, by omega, by congr 1; omega⟩, (by first | with_reducible rfl | trivial | rfl | assumption)⟩
  · simp only [c10, sA, Int.reduceNegSucc, reduceCtorEq, Nat.reduceEqDiff, ↓reduceIte, Nat.reduceAdd, Int.reduceEq, Int.reduceLT, Int.reduceLE, Nat.reduceLT, h0', hr, hn]
    exact ⟨⟨(x.tmod (m : Int)).toNat, by omega, by congr 1; omega⟩, (by first | with_reducible rfl | trivial | rfl | assumption)⟩
theorem copy_spec {n : Nat} {H : AHeap} {v : AVal} {l : Bs} (hv : Cel n H v (byts l)) (hl : l.length ≤ 900000) : ACalls Try.prog natI 13 [v] H fun w H' => AppN 1 0 H' w (byts l) l.length ∧ Blk w (H.next ≤ ·) ∧ Ext H.next H H' := by
  refine acalls_ofN rfl za13 rfl ?_
  obtain ⟨s, H1, m1, A1, n1, b1, o1⟩ := app_bytes (app_nil H) (src_cel hv) (by simpa using (show l.length ≤ 1000000 by omega))
  have m1' : aAppend 1 1 H (.slice none 0 (.known 0)) v = some (s, H1) := m1
  simp only [c13, sA, Int.reduceNegSucc, reduceCtorEq, Nat.reduceEqDiff, ↓reduceIte, Nat.reduceAdd, Int.reduceEq, Int.reduceLT, Int.reduceLE, Nat.reduceLT, m1']
  exact ⟨by simpa using A1, (b1 (fun _ => False) (blk_nil _)).mono fun b hb => hb.resolve_left id, n1, fun c hc => o1 c hc (blk_nil _)⟩
theorem byts_take (s : Bs) (k : Nat) : (byts s).take k = byts (s.take k) := by simp [byts, List.map_take]
theorem byts_drop (s : Bs) (k : Nat) : (byts s).drop k = byts (s.drop k) := by simp [byts, List.map_drop]
end Go.Proofs.Zi
namespace Go.Proofs.Zi
open Go.Abs Go.Abs.S
set_option linter.unusedSimpArgs false
def newZ (n : Nat) : Nat → Nat := fun c => if c = n then 2 else if c = n + 1 then 3 else if c = n + 2 then 1 else 0
theorem newZ_ZW {H0 H : AHeap} (r0 : Row H (H0.next + 3) (zC false (cellR (H0.next + 2) 9 0) 1)) (r1 : Row H (H0.next + 2) (dC 0 (cellR H0.next 3 0) nilS 0 (.map (some (H0.next + 1))))) (r2 : Row H H0.next [.bool true, nilS, .int .i64 0]) (g : H.get (H0.next + 1) = some (.map [] 0)) (hn : H.next = H0.next + 4) : ZW (H0.next + 3) (newZ H0.next) H (H0.next + 3) false [] 0 0 [] 0 ∧ (∀ c, c < H0.next → newZ H0.next c = 0) := by
  have tz : ∀ c, H0.next + 3 ≤ c → newZ H0.next c = 0 := fun c hc => by unfold newZ; rw [if_neg (by omega), if_neg (by omega), if_neg (by omega)]
  have t1 : newZ H0.next (H0.next + 2) = 1 := by unfold newZ; rw [if_neg (by omega), if_neg (by omega), if_pos rfl]
  have ea : adler 1 [] = 1 := by simp [adler, adlerF]
  refine ⟨⟨H0.next + 2, H0.next, H0.next + 1, nilS, ⟨⟨r1, AppN.nil _ _ _, blk_nil _, ⟨[], g, fun i e h => by simp at h, fun i j e f h => by simp at h, fun k hk => absurd rfl hk⟩, by omega, by omega, by omega, by rw [t1]; omega, by omega, fun c hc => tz c (by omega)⟩, ⟨nilS, r2, by omega, Nat.le_refl _, by simp [newZ], fun c hc => tz c (by omega), AppN.nil _ _ _, blk_nil _, rfl⟩, blk_nil _, t1, by unfold newZ; rw [if_neg (by omega), if_pos rfl], fun c hc => by unfold newZ; split <;> (try split) <;> (try split) <;> omega, Nat.le_refl _, .inl rfl⟩, by rw [ea]; exact r0, by omega, tz _ (by omega)⟩, fun c hc => by unfold newZ; rw [if_neg (by omega), if_neg (by omega), if_neg (by omega)]⟩
theorem is8_spec {H : AHeap} {v : AVal} {e : Nat} (h : ACalls Try.prog natI 24 [v, .int .i64 9] H fun w H' => Ext H.next H H' ∧ ((e = 0 ∧ ∃ out, w = .tuple [out, .int .i64 0]) ∨ (e ≠ 0 ∧ w = .tuple [nilS, .int .i64 (e : Int)]))) : ACalls Try.prog natI 19 [.int .i64 (e : Int), v] H fun w H' => w = .bool true ∧ Ext H.next H H' := by
  refine acalls_ofN rfl za19 rfl ?_
  simp only [c19, sA, Int.reduceNegSucc, reduceCtorEq, Nat.reduceEqDiff, ↓reduceIte, Nat.reduceAdd, Int.reduceEq, Int.reduceLT, Int.reduceLE, Nat.reduceLT]
  refine h.mono ?_
  rintro _ H1 ⟨E1, ⟨rfl, out, rfl⟩ | ⟨he, rfl⟩⟩
  · simp only [sA, Int.reduceNegSucc, reduceCtorEq, Nat.reduceEqDiff, ↓reduceIte, Nat.reduceAdd, Int.reduceEq, Int.reduceLT, Int.reduceLE, Nat.reduceLT, ext_0, ext_1, Int.natCast_zero]
    exact ⟨(by first | with_reducible rfl | trivial | rfl | assumption), E1⟩
  · have he' : ¬ (e : Int) = 0 := by omega
    have ln : aLenK false nilS = some (.int .i64 0) := _root_.id rfl
    simp only [sA, Int.reduceNegSucc, reduceCtorEq, Nat.reduceEqDiff, ↓reduceIte, Nat.reduceAdd, Int.reduceEq, Int.reduceLT, Int.reduceLE, Nat.reduceLT, ext_0, ext_1, he', ln]
    exact ⟨(by first | with_reducible rfl | trivial | rfl | assumption), E1⟩
theorem lit_arg (H : AHeap) (d : Bs) {m : Nat} (hm : d.length = m) : ArgS (H.next + 1) (H.push (.cells (byts d) 0 false)) (slR H.next m (.known m)) (byts d) := by
  have hl : (byts d).length = m := by rw [byts_len, hm]
  refine .inr ⟨⟨H.next, m, 0⟩, m, by rw [hl]; rfl, by omega, Nat.lt_succ_self _, ?_⟩
  have := rd_row (row_push H (byts d)) hl (i := 0) (k := m) (by omega)
  rw [List.drop_zero, List.take_of_length_le (by omega)] at this
  rw [hl]; exact this
theorem arg_hs {n : Nat} {H : AHeap} {v : AVal} {x y : UInt8} {rest : Bs} (h : ArgS n H v (byts (x :: y :: rest))) : ∀ lo, lo ≤ rest.length + 2 → ∃ s', aSl 1 v (some (.int .i64 (lo : Int))) none none = some s' ∧ Cel n H s' (byts ((x :: y :: rest : Bs).drop lo)) := fun lo hlo => by
  obtain ⟨s', m, C⟩ := arg_from h (a := lo) (by rw [byts_len]; simp only [List.length_cons]; omega)
  rw [byts_drop] at C
  exact ⟨s', m, C⟩
theorem app_hs {H : AHeap} {v : AVal} {x y : UInt8} {rest : Bs} {k : Nat} (h : AppN 1 0 H v (byts (x :: y :: rest)) k) (hk : k = rest.length + 2) : ∀ lo, lo ≤ rest.length + 2 → ∃ s', aSl 1 v (some (.int .i64 (lo : Int))) none none = some s' ∧ Cel H.next H s' (byts ((x :: y :: rest : Bs).drop lo)) := fun lo hlo => by
  obtain ⟨s', m, C, -⟩ := h.from_ (lo := lo) (by omega)
  rw [byts_drop] at C
  exact ⟨s', m, C⟩
def wholeB : Bs := [120, 1, 75, 4, 0, 0, 98, 0, 98]
theorem whole_spec {H : AHeap} : ACalls Try.prog natI 20 [.str [97]] H fun w H' => AppN 1 0 H' w (byts wholeB) 9 ∧ Ext H.next H H' := by
  refine acalls_ofN rfl za20 rfl ?_
  simp only [c20, sA, Int.reduceNegSucc, reduceCtorEq, Nat.reduceEqDiff, ↓reduceIte, Nat.reduceAdd, Int.reduceEq, Int.reduceLT, Int.reduceLE, Nat.reduceLT]
  refine (znew_spec H).mono ?_
  rintro _ H1 ⟨rfl, r0, r1, r2, g1, n1, E1⟩
  obtain ⟨Z0, tz0⟩ := newZ_ZW r0 r1 r2 g1 n1
  have sb : ∀ H : AHeap, aSB H (.str [97]) = some (.slice (some ⟨H.next, 1, 0⟩) 1 (.open_ 1), H.push (.cells (byts [97]) 0 false)) := fun _ => rfl
  have cb : Cel (H1.next + 1) (H1.push (.cells (byts [97]) 0 false)) (.slice (some ⟨H1.next, 1, 0⟩) 1 (.open_ 1)) (byts [97]) := (row_push H1 (byts [97])).cel (r := .open_ 1) rfl (Nat.lt_succ_self _)
  have Z1 : ZW (H.next + 3) (newZ H.next) (H1.push (.cells (byts [97]) 0 false)) (H.next + 3) false [] 0 0 [] 0 := by
    obtain ⟨ow, o, mb, kept, D, R, hz, tz⟩ := Z0
    exact ⟨ow, o, mb, kept, D.fr0 (by rw [push_next]; omega) fun c hc _ => get_push_lt hc, R.same (get_push_lt hz), by rw [push_next]; omega, tz⟩
  simp only [sA, Int.reduceNegSucc, reduceCtorEq, Nat.reduceEqDiff, ↓reduceIte, Nat.reduceAdd, Int.reduceEq, Int.reduceLT, Int.reduceLE, Nat.reduceLT, sb]
  refine (zwrite_spec Z1 cb (by rw [push_next]; omega) (blk_some (show H1.next ≠ H.next + 3 by omega)) (by simp) (Nat.le_refl _) (Nat.le_refl _) (Nat.le_refl _)).mono ?_
  rintro _ H2 ⟨s, X, sent', pl', M', T, rfl, A2, eT, tT, hM', hpl', hs', hlong, h9, hB, ⟨τ', K', Z2, bs, f2⟩, sm⟩
  obtain ⟨rfl, rfl⟩ := sm (by simp)
  have eT' : T ++ M' = [] := eT
  obtain ⟨rfl, rfl⟩ := List.append_eq_nil_iff.1 eT'
  obtain rfl : pl' = 0 := by simpa using hpl'
  have f2n := f2.1
  rw [push_next] at f2n
  simp only [sA, Int.reduceNegSucc, reduceCtorEq, Nat.reduceEqDiff, ↓reduceIte, Nat.reduceAdd, Int.reduceEq, Int.reduceLT, Int.reduceLE, Nat.reduceLT, ext_0, ext_1]
  refine (zend_spec Z2 (by simp) (by simp) (by simp) (Nat.le_refl _) (by simp)).mono ?_
  rintro _ H3 ⟨s3, rfl, c3, n3, o3⟩
  have e2 : hd true ++ pack ([] ++ endX ([] : List Bool).length ([] ++ [97]) 0) ++ fourL (adler 1 ([] ++ [97])) = [75, 4, 0, 0, 98, 0, 98] := by decide +kernel
  rw [e2] at c3
  have bk := A2.blk'.and bs
  rw [push_next] at bk
  have A3 := A2.same n3 (bk.mono fun c hc => o3 c hc.1 hc.2.1 (by omega))
  obtain ⟨s7, H7, m7, A7, n7, b7, o7⟩ := app_u8 A3 c3 (by decide)
  simp only [sA, Int.reduceNegSucc, reduceCtorEq, Nat.reduceEqDiff, ↓reduceIte, Nat.reduceAdd, Int.reduceEq, Int.reduceLT, Int.reduceLE, Nat.reduceLT, ext_0, ext_1, m7]
  refine ⟨A7, by omega, fun c hc => ?_⟩
  have z0 := tz0 c hc
  obtain ⟨k1, k2⟩ := f2.2 c (by rw [push_next]; omega) z0
  rw [o7 c (by omega) (bk.mono fun d hd => by omega), o3 c (by omega) k1 (by omega), k2 (by omega), get_push_lt (by omega), E1.old c hc]
theorem is8_ok {n : Nat} {H : AHeap} {v : AVal} {rest o tl : Bs} {q e : Nat} (hv : Cel n H v (byts (120 :: 1 :: rest))) (hs : ∀ lo, lo ≤ rest.length + 2 → ∃ s', aSl 1 v (some (.int .i64 (lo : Int))) none none = some s' ∧ Cel n H s' (byts ((120 :: 1 :: rest : Bs).drop lo))) (hn : n ≤ H.next)
    (hd : rest.length ≤ 100) (hM : blocksM (bitsB rest) 9 50 50 [] 0 = .ok o q) (hq : (q + 7) / 8 ≤ rest.length) (ho : o.length ≤ 1000) (ht : rest.drop ((q + 7) / 8) = tl) (he : openE o tl = e) : ACalls Try.prog natI 19 [.int .i64 (e : Int), v] H fun w H' => w = .bool true ∧ Ext H.next H H' :=
  is8_spec ((open_ok (most := 9) hv hs hn (by omega) (by omega) hM hq (by omega) ht).mono fun w H' h => ⟨h.1, by
    rcases h.2 with ⟨h1, out, h2, _⟩ | ⟨h1, h2⟩
    · exact .inl ⟨by omega, out, h2⟩
    · exact .inr ⟨by omega, by rw [h2, he]⟩⟩)
theorem ex1 : blocksM (bitsB [75, 4, 0, 0, 98, 0, 98]) 9 50 50 [] 0 = .ok [97] 18 := by kernel_rfl
theorem ex2 : blocksM (bitsB [3, 0, 0, 0, 0, 2]) 9 50 50 [] 0 = .ok [] 10 := by kernel_rfl
theorem awake8_spec {H : AHeap} : ACalls Try.prog natI 21 [] H fun w _ => w = .bool true := by
  refine acalls_ofN rfl za21 rfl ?_
  have q1 : ∀ H : AHeap, aBuildSl 8 [.int .u8 0] H [(0, 1, .int .u8 120), (1, 1, .int .u8 1), (2, 1, .int .u8 3), (3, 1, .int .u8 0), (4, 1, .int .u8 0), (5, 1, .int .u8 0), (6, 1, .int .u8 0), (7, 1, .int .u8 1)] = some (slR H.next 8 (.known 8), H.push (.cells (byts [120, 1, 3, 0, 0, 0, 0, 1]) 0 false)) := fun _ => rfl
  have q2 : ∀ H : AHeap, aBuildSl 9 [.int .u8 0] H [(0, 1, .int .u8 120), (1, 1, .int .u8 1), (2, 1, .int .u8 75), (3, 1, .int .u8 4), (4, 1, .int .u8 0), (5, 1, .int .u8 0), (6, 1, .int .u8 98), (7, 1, .int .u8 0), (8, 1, .int .u8 98)] = some (slR H.next 9 (.known 9), H.push (.cells (byts wholeB) 0 false)) := fun _ => rfl
  have q3 : ∀ H : AHeap, aBuildSl 8 [.int .u8 0] H [(0, 1, .int .u8 120), (1, 1, .int .u8 1), (2, 1, .int .u8 3), (3, 1, .int .u8 0), (4, 1, .int .u8 0), (5, 1, .int .u8 0), (6, 1, .int .u8 0), (7, 1, .int .u8 2)] = some (slR H.next 8 (.known 8), H.push (.cells (byts [120, 1, 3, 0, 0, 0, 0, 2]) 0 false)) := fun _ => rfl
  have q4 : ∀ H : AHeap, aBuildSl 1 [.int .u8 0] H [(0, 1, .int .u8 120)] = some (slR H.next 1 (.known 1), H.push (.cells (byts [120]) 0 false)) := fun _ => rfl
  have q5 : ∀ H : AHeap, aBuildSl 8 [.int .u8 0] H [(0, 1, .int .u8 121), (1, 1, .int .u8 1), (2, 1, .int .u8 3), (3, 1, .int .u8 0), (4, 1, .int .u8 0), (5, 1, .int .u8 0), (6, 1, .int .u8 0), (7, 1, .int .u8 1)] = some (slR H.next 8 (.known 8), H.push (.cells (byts [121, 1, 3, 0, 0, 0, 0, 1]) 0 false)) := fun _ => rfl
  simp only [c21, sA, Int.reduceNegSucc, reduceCtorEq, Nat.reduceEqDiff, ↓reduceIte, Nat.reduceAdd, Int.reduceEq, Int.reduceLT, Int.reduceLE, Nat.reduceLT]
  refine (znew_spec H).mono ?_
  rintro _ H1 ⟨rfl, r0, r1, r2, g1, n1, E1⟩
  obtain ⟨Z0, -⟩ := newZ_ZW r0 r1 r2 g1 n1
  simp only [sA, Int.reduceNegSucc, reduceCtorEq, Nat.reduceEqDiff, ↓reduceIte, Nat.reduceAdd, Int.reduceEq, Int.reduceLT, Int.reduceLE, Nat.reduceLT]
  refine (zend_spec Z0 (by simp) (by simp) (by simp) (Nat.le_refl _) (by simp)).mono ?_
  rintro _ H2 ⟨s3, rfl, c3, n3, -⟩
  have e1 : hd false ++ pack ([] ++ endX ([] : List Bool).length [] 0) ++ fourL (adler 1 []) = [120, 1, 3, 0, 0, 0, 0, 1] := by decide +kernel
  rw [e1] at c3
  have c3' : Cel H2.next H2 s3 (byts [120, 1, 3, 0, 0, 0, 0, 1]) := c3
  simp only [sA, Int.reduceNegSucc, reduceCtorEq, Nat.reduceEqDiff, ↓reduceIte, Nat.reduceAdd, Int.reduceEq, Int.reduceLT, Int.reduceLE, Nat.reduceLT, ext_0, ext_1, q1]
  refine (same_spec (c3'.ext ⟨by rw [push_next]; omega, fun c hc => get_push_lt hc⟩) (lit_cel H2 [120, 1, 3, 0, 0, 0, 0, 1] rfl)).mono ?_
  rintro _ _ ⟨rfl, rfl⟩
  simp only [sA, Int.reduceNegSucc, reduceCtorEq, Nat.reduceEqDiff, ↓reduceIte, Nat.reduceAdd, Int.reduceEq, Int.reduceLT, Int.reduceLE, Nat.reduceLT]
  refine whole_spec.mono ?_
  rintro w H3 ⟨A3, E3⟩
  simp only [sA, Int.reduceNegSucc, reduceCtorEq, Nat.reduceEqDiff, ↓reduceIte, Nat.reduceAdd, Int.reduceEq, Int.reduceLT, Int.reduceLE, Nat.reduceLT, q2]
  refine (same_spec ((A3.cel1 A3.blk').ext ⟨by rw [push_next]; omega, fun c hc => get_push_lt hc⟩) (lit_cel H3 wholeB rfl)).mono ?_
  rintro _ _ ⟨rfl, rfl⟩
  simp only [sA, Int.reduceNegSucc, reduceCtorEq, Nat.reduceEqDiff, ↓reduceIte, Nat.reduceAdd, Int.reduceEq, Int.reduceLT, Int.reduceLE, Nat.reduceLT]
  refine whole_spec.mono ?_
  rintro w4 H4 ⟨A4, E4⟩
  simp only [sA, Int.reduceNegSucc, reduceCtorEq, Nat.reduceEqDiff, ↓reduceIte, Nat.reduceAdd, Int.reduceEq, Int.reduceLT, Int.reduceLE, Nat.reduceLT]
  refine (is8_ok (e := 0) (A4.cel1 A4.blk') (app_hs A4 rfl) (Nat.le_refl _) (by decide) ex1 (by decide) (by decide) rfl (by decide +kernel)).mono ?_
  rintro _ H5 ⟨rfl, -⟩
  simp only [sA, Int.reduceNegSucc, reduceCtorEq, Nat.reduceEqDiff, ↓reduceIte, Nat.reduceAdd, Int.reduceEq, Int.reduceLT, Int.reduceLE, Nat.reduceLT, q3]
  refine (is8_ok (e := 11) (lit_cel H5 [120, 1, 3, 0, 0, 0, 0, 2] rfl) (arg_hs (lit_arg H5 [120, 1, 3, 0, 0, 0, 0, 2] rfl)) (by rw [push_next]; omega) (by decide) ex2 (by decide) (by decide) rfl (by decide +kernel)).mono ?_
  rintro _ H6 ⟨rfl, -⟩
  simp only [sA, Int.reduceNegSucc, reduceCtorEq, Nat.reduceEqDiff, ↓reduceIte, Nat.reduceAdd, Int.reduceEq, Int.reduceLT, Int.reduceLE, Nat.reduceLT, q4]
  refine (is8_spec (e := 12) ((open_short (most := 9) (lit_cel H6 [120] rfl) (by decide)).mono fun w H' h => ⟨h.2, .inr ⟨by omega, h.1⟩⟩)).mono ?_
  rintro _ H7 ⟨rfl, -⟩
  simp only [sA, Int.reduceNegSucc, reduceCtorEq, Nat.reduceEqDiff, ↓reduceIte, Nat.reduceAdd, Int.reduceEq, Int.reduceLT, Int.reduceLE, Nat.reduceLT, q5]
  refine (is8_spec (e := 10) ((open_head (most := 9) (lit_cel H7 [121, 1, 3, 0, 0, 0, 0, 1] rfl)).mono fun w H' h => ⟨h.2, .inr ⟨by omega, h.1⟩⟩)).mono ?_
  rintro _ H8 ⟨rfl, -⟩
  simp only [sA, Int.reduceNegSucc, reduceCtorEq, Nat.reduceEqDiff, ↓reduceIte, Nat.reduceAdd, Int.reduceEq, Int.reduceLT, Int.reduceLE, Nat.reduceLT]
end Go.Proofs.Zi
