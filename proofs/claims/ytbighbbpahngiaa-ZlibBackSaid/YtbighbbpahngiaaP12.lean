/- Part of a proof (I45 I46 I47 I48 I49 I50 I51 I52); no condition. -/
import Derived.Test.YtbighbbpahngiaaP11
set_option linter.unusedSimpArgs false
set_option linter.unusedVariables false
set_option linter.unnecessarySimpa false
namespace Go.Proofs.Zi
open Go.Abs Go.Abs.S
set_option linter.unusedSimpArgs false
def rS (k : Nat) : Prop := k = 1 ∨ k = 2 ∨ k = 4
def TBL (κ : Nat → Nat) (H : AHeap) (c c' : Nat) : Prop := ∃ sv sv', CD H c sv (cntT nearL) (symT nearL) 15 ∧ CD H c' sv' (cntT farL) (symT farL) 15 ∧ (κ c = 5 ∧ c < H.next) ∧ (κ c' = 5 ∧ c' < H.next) ∧ Blk sv (fun b => κ b = 5 ∧ b < H.next) ∧ Blk sv' (fun b => κ b = 5 ∧ b < H.next)
theorem TBL.fr {S : Nat → Prop} {κ κ' : Nat → Nat} {H H' : AHeap} {c c' : Nat} (h : TBL κ H c c') (f : FrS S κ H κ' H') (h5 : ¬ S 5) : TBL κ' H' c c' := by
  obtain ⟨sv, sv', h1, h2, ⟨h3, h3'⟩, ⟨h4, h4'⟩, b1, b2⟩ := h
  have fn := f.1
  have g : ∀ x, κ x = 5 ∧ x < H.next → (κ' x = 5 ∧ x < H'.next) ∧ H'.get x = H.get x := fun x hx => by
    obtain ⟨e1, e2⟩ := f.2 x hx.2
    exact ⟨⟨e1.trans hx.1, by omega⟩, e2 (by rw [hx.1]; exact h5)⟩
  exact ⟨sv, sv', h1.same fn (g c ⟨h3, h3'⟩).2 (b1.mono fun x hx => (g x hx).2), h2.same fn (g c' ⟨h4, h4'⟩).2 (b2.mono fun x hx => (g x hx).2), (g c ⟨h3, h3'⟩).1, (g c' ⟨h4, h4'⟩).1, b1.mono fun x hx => (g x hx).1, b2.mono fun x hx => (g x hx).1⟩
structure RO (κ : Nat → Nat) (H : AHeap) (r i : Nat) (bv out : AVal) (d : Bs) (p : Nat) (o : Bs) (most : Nat) (near far : AVal) : Prop where
  row : Row H r (rC i out most near far)
  rd : RD H i bv d p
  ap : AppN 1 0 H out (byts o) o.length
  kr : κ r = 1 ∧ r < H.next
  ki : κ i = 2 ∧ i < H.next
  kb : Blk bv fun b => κ b = 3 ∧ b < H.next
  ko : Blk out fun b => κ b = 4 ∧ b < H.next
  tz : ∀ c, H.next ≤ c → κ c = 0
theorem rS5 : ¬ rS 5 := by unfold rS; omega
theorem rS0 : ¬ rS 0 := by unfold rS; omega
theorem RO.at {κ : Nat → Nat} {H H' : AHeap} {r i : Nat} {bv out : AVal} {d : Bs} {p : Nat} {o : Bs} {most : Nat} {near far : AVal} (R : RO κ H r i bv out d p o most near far) {q : Nat} (h : RD H' i bv d q) (hn : H'.next = H.next) (e : ∀ c, c ≠ i → H'.get c = H.get c) : RO κ H' r i bv out d q o most near far ∧ FrS rS κ H κ H' := by
  have hki := R.ki
  have hkr := R.kr
  have ne : ∀ c, κ c ≠ 2 → c ≠ i := by rintro c hc rfl; exact hc hki.1
  refine ⟨⟨R.row.same (e r (ne r (by omega))), h, R.ap.same (by omega) (R.ko.mono fun b hb => e b (ne b (by omega))), ⟨hkr.1, by omega⟩, ⟨hki.1, by omega⟩, R.kb.mono fun b hb => by omega, R.ko.mono fun b hb => by omega, fun c hc => R.tz c (by omega)⟩, by omega, fun c _ => ⟨rfl, fun hc => e c (by rintro rfl; exact hc (.inr (.inl hki.1)))⟩⟩
theorem RO.len {κ : Nat → Nat} {H : AHeap} {r i : Nat} {bv out : AVal} {d : Bs} {p : Nat} {o : Bs} {most : Nat} {near far : AVal} (R : RO κ H r i bv out d p o most near far) : aLenK false out = some (.int .i64 (o.length : Int)) := R.ap.len
theorem app_aeq {m n k : Nat} {H : AHeap} {s : AVal} {L : List AVal} (h : AppN m n H s L k) : aeq s s = true := by
  rcases h with ⟨e, _⟩ | ⟨b, low, e, _⟩
  · rw [e]; exact aeq_nilS
  · rw [e]; exact aeq_open _ _ _
theorem RO.push {κ : Nat → Nat} {H : AHeap} {r i : Nat} {bv out : AVal} {d : Bs} {p : Nat} {o : Bs} {most : Nat} {near far : AVal} (R : RO κ H r i bv out d p o most near far) (x : UInt8) (ho : o.length ≤ 1000000) :
    ∃ s H1 H2 κ', aAppend 1 1 (H.push (.cells [.int .u8 (x.toNat : Int)] 0 false)) out (oneS H) = some (s, H1) ∧ oStore 1 H1 (cellR r 5 1) s = some H2 ∧ RO κ' H2 r i bv s d p (o ++ [x]) most near far ∧ FrS rS κ H κ' H2 := by
  have hki := R.ki
  have hkr := R.kr
  obtain ⟨s, H1, m1, A1, n1, b1, o1⟩ := R.ap.pushB (m := 1) (xs := [.int .u8 (x.toNat : Int)]) rfl rfl (by omega) (bytes := 1) (by omega) (by omega)
  have hne : ∀ c, κ c ≠ 4 → Blk out (c ≠ ·) := fun c hc => R.ko.mono fun b hb e => hc (by rw [e]; exact hb.1)
  have er := o1 r hkr.2 (hne r (by omega))
  obtain ⟨H2, m2, r2, n2, o2⟩ := row_st (R.row.same er) (n := 5) rfl (i := 1) (by omega) (x := s) (app_one A1) (l' := rC i s most near far) rfl
  have sb : Blk s fun b => (κ b = 4 ∧ b < H.next) ∨ H.next ≤ b := b1 _ R.ko
  have sb2 : Blk s fun b => ((κ b = 4 ∧ b < H.next) ∨ H.next ≤ b) ∧ b < H1.next := sb.and A1.blk'
  have ei : H2.get i = H.get i := by rw [o2 i (by rintro rfl; omega), o1 i hki.2 (hne i (by omega))]
  have eb : Blk bv fun c => H2.get c = H.get c := R.kb.mono fun c hc => by rw [o2 c (by rintro rfl; omega), o1 c hc.2 (hne c (by omega))]
  refine ⟨s, H1, H2, upT κ H H2 4, m1, m2, ⟨r2, R.rd.same (by omega) ei eb, ?_, ⟨by rw [upT_old hkr.2]; exact hkr.1, by omega⟩, ⟨by rw [upT_old hki.2]; exact hki.1, by omega⟩, R.kb.mono fun b hb => ⟨by rw [upT_old hb.2]; exact hb.1, by omega⟩, sb2.mono fun b hb => ?_, fun c hc => upT_z (by omega) hc⟩, by omega, fun c hc => ⟨upT_old hc, fun hs => ?_⟩⟩
  · have A2 := A1.same (H' := H2) (by omega) (sb2.mono fun c hc => o2 c (by rintro rfl; omega))
    rw [byts_append, List.length_append]
    exact A2
  · rcases hb.1 with h | h
    · exact ⟨by rw [upT_old h.2]; exact h.1, by omega⟩
    · exact ⟨upT_new h (by omega), by omega⟩
  · rw [o2 c (by rintro rfl; exact hs (.inl hkr.1)), o1 c hc (hne c fun e => hs (.inr (.inr e)))]
theorem near_cn : ∀ k, (cntT nearL).getD k 0 ≤ 1000 := by
  intro k
  by_cases h : k < 16
  · have a : (List.range 16).all (fun k => Nat.ble ((cntT nearL).getD k 0) 1000) = true := by decide +kernel
    have := List.all_eq_true.1 a k (List.mem_range.2 h)
    simpa using this
  · have hl : (cntT nearL).length = 16 := by simp [cntT]
    rw [List.getD_eq_getElem?_getD, List.getElem?_eq_none (by omega)]; simp
theorem far_cn : ∀ k, (cntT farL).getD k 0 ≤ 1000 := by
  intro k
  by_cases h : k < 16
  · have a : (List.range 16).all (fun k => Nat.ble ((cntT farL).getD k 0) 1000) = true := by decide +kernel
    have := List.all_eq_true.1 a k (List.mem_range.2 h)
    simpa using this
  · have hl : (cntT farL).length = 16 := by simp [cntT]
    rw [List.getD_eq_getElem?_getD, List.getElem?_eq_none (by omega)]; simp
def nearM (S : List Bool) (p : Nat) : SR Nat := symM (cntT nearL) (symT nearL) S 15 1 0 0 0 p
def farM (S : List Bool) (p : Nat) : SR Nat := symM (cntT farL) (symT farL) S 15 1 0 0 0 p
theorem near_ro {κ : Nat → Nat} {H : AHeap} {r i c c' : Nat} {bv out : AVal} {d : Bs} {p : Nat} {o : Bs} {most : Nat} {near far : AVal} (R : RO κ H r i bv out d p o most near far) (T : TBL κ H c c') (hd : d.length ≤ 1000000) (hu : nearM (bitsB d) p ≠ .unk) :
    ACalls Try.prog natI 1101 [cellR r 5 0, cellR c 18 0] H fun w H' => FrS rS κ H κ H' ∧ ((∃ s q, nearM (bitsB d) p = .ok s q ∧ w = .int .i64 (s : Int) ∧ RO κ H' r i bv out d q o most near far) ∨ ∃ e, nearM (bitsB d) p = .bad e ∧ w = fault e) := by
  obtain ⟨sv, sv', h1, h2, ⟨h3, h3'⟩, ⟨h4, h4'⟩, b1, b2⟩ := T
  have hki := R.ki
  have hkr := R.kr
  refine (sym_spec R.row R.rd h1 (by rintro rfl; omega) (by rintro rfl; omega) (b1.mono fun b hb => by rintro rfl; omega) (Nat.le_refl _) near_cn hd hu).mono ?_
  rintro w H' ⟨q, k1, k2, k3, k4⟩
  obtain ⟨R', F⟩ := R.at k1 k2 k3
  refine ⟨F, ?_⟩
  rcases k4 with ⟨s, e1, e2⟩ | ⟨e, e1, e2⟩
  · exact .inl ⟨s, q, e1, e2, R'⟩
  · exact .inr ⟨e, e1, e2⟩
theorem far_ro {κ : Nat → Nat} {H : AHeap} {r i c c' : Nat} {bv out : AVal} {d : Bs} {p : Nat} {o : Bs} {most : Nat} {near far : AVal} (R : RO κ H r i bv out d p o most near far) (T : TBL κ H c c') (hd : d.length ≤ 1000000) (hu : farM (bitsB d) p ≠ .unk) :
    ACalls Try.prog natI 1101 [cellR r 5 0, cellR c' 18 0] H fun w H' => FrS rS κ H κ H' ∧ ((∃ s q, farM (bitsB d) p = .ok s q ∧ w = .int .i64 (s : Int) ∧ RO κ H' r i bv out d q o most near far) ∨ ∃ e, farM (bitsB d) p = .bad e ∧ w = fault e) := by
  obtain ⟨sv, sv', h1, h2, ⟨h3, h3'⟩, ⟨h4, h4'⟩, b1, b2⟩ := T
  have hki := R.ki
  have hkr := R.kr
  refine (sym_spec R.row R.rd h2 (by rintro rfl; omega) (by rintro rfl; omega) (b2.mono fun b hb => by rintro rfl; omega) (Nat.le_refl _) far_cn hd hu).mono ?_
  rintro w H' ⟨q, k1, k2, k3, k4⟩
  obtain ⟨R', F⟩ := R.at k1 k2 k3
  refine ⟨F, ?_⟩
  rcases k4 with ⟨s, e1, e2⟩ | ⟨e, e1, e2⟩
  · exact .inl ⟨s, q, e1, e2, R'⟩
  · exact .inr ⟨e, e1, e2⟩
theorem span_ro {κ : Nat → Nat} {H : AHeap} {r i : Nat} {bv out : AVal} {d : Bs} {p : Nat} {o : Bs} {most : Nat} {near far : AVal} (R : RO κ H r i bv out d p o most near far) (sp gr : Nat) (hg : 0 < gr) (hg4 : gr ≤ 4) (hs : sp ≤ 29) (hd : d.length ≤ 1000000) :
    ACalls Try.prog natI 1113 [cellR r 5 0, .int .i64 (sp : Int), .int .i64 (gr : Int)] H fun w H' => FrS rS κ H κ H' ∧ ((∃ s q, spanM sp gr (bitsB d) p = .ok s q ∧ s ≤ 10000000000 ∧ w = .int .i64 (s : Int) ∧ RO κ H' r i bv out d q o most near far) ∨ ∃ e, spanM sp gr (bitsB d) p = .bad e ∧ w = fault e) := by
  refine (span_spec R.row R.rd sp gr hg hg4 hs hd).mono ?_
  rintro w H' ⟨q, k1, k2, k3, k4⟩
  obtain ⟨R', F⟩ := R.at k1 k2 k3
  refine ⟨F, ?_⟩
  rcases k4 with ⟨s, e1, e2, e3⟩ | ⟨e, e1, e2⟩
  · exact .inl ⟨s, q, e1, e2, e3, R'⟩
  · exact .inr ⟨e, e1, e2⟩
end Go.Proofs.Zi
namespace Go.Proofs.Zi
open Go.Abs Go.Abs.S
set_option linter.unusedSimpArgs false
def SR.bind {α β : Type} (x : SR α) (f : α → Nat → SR β) : SR β := match x with
  | .ok a p => f a p
  | .bad e => .bad e
  | .unk => .unk
def copyB (back : Nat) : Nat → Bs → Bs
  | 0, o => o
  | n + 1, o => copyB back n (o ++ [o.getD (o.length - back) 0])
def matchR (S : List Bool) (most long : Nat) (o : Bs) (q : Nat) : SR Bs := (farM S q).bind fun s q2 => if 30 ≤ s then .bad 10 else (spanM s 2 S q2).bind fun k q3 => if o.length < 1 + k then .bad 10 else if most < o.length + long then .bad 3 else .ok (copyB (1 + k) long o) q3
def lenM (sp : Nat) (S : List Bool) (p : Nat) : SR Nat := if sp < 28 then (spanM sp 4 S p).bind fun s q => .ok (3 + s) q else .ok 258 p
def matchM (S : List Bool) (most sp : Nat) (o : Bs) (p : Nat) : SR Bs := (lenM sp S p).bind fun long q => matchR S most long o q
theorem mrest_spec {κ : Nat → Nat} {T : Env} {H : AHeap} {Q : Post} {r i c c' : Nat} {bv out : AVal} {d : Bs} {p : Nat} {o : Bs} {most long : Nat} {near far : AVal} (R : RO κ H r i bv out d p o most near far) (TB : TBL κ H c c') (hd : d.length ≤ 1000000) (hm : most ≤ 100000) (ho : o.length ≤ 100000) (hl : long ≤ 1000)
    (g0 : T 0 = cellR r 5 0) (g2 : T 2 = cellR c' 18 0) (g6 : T 6 = .int .i64 (long : Int)) (u62 : isU (T 62) = true) (u63 : isU (T 63) = true) (hu : matchR (bitsB d) most long o p ≠ .unk)
    (hN : ∀ T2 H2 κ2 out2 o2 q2, matchR (bitsB d) most long o p = .ok o2 q2 → isU (T2 62) = true → isU (T2 63) = true → FrS rS κ H κ2 H2 → RO κ2 H2 r i bv out2 d q2 o2 most near far → Q .normal T2 H2)
    (hE : ∀ T2 H2 κ2 e, matchR (bitsB d) most long o p = .bad e → T2 62 = fault e → isU (T2 63) = true → FrS rS κ H κ2 H2 → Q (.exit 1000000) T2 H2) :
    wp (ACalls Try.prog natI) (hold (restP [0, 2, 1, 1] c1102.body)) Q T H := by
  have hfu : farM (bitsB d) p ≠ .unk := fun e => hu (by unfold matchR; rw [e]; rfl)
  simp only [c1102, restP, hold_eq, sA, Int.reduceNegSucc, reduceCtorEq, Nat.reduceEqDiff, ↓reduceIte, Nat.reduceAdd, Int.reduceEq, Int.reduceLT, Int.reduceLE, Nat.reduceLT, g0, g2, g6]
  refine (far_ro R TB hd hfu).mono ?_
  rintro _ H1 ⟨F1, ⟨s, q, e1, rfl, R1⟩ | ⟨e, e1, rfl⟩⟩
  · have hM : matchR (bitsB d) most long o p = if 30 ≤ s then .bad 10 else (spanM s 2 (bitsB d) q).bind fun k q3 => if o.length < 1 + k then .bad 10 else if most < o.length + long then .bad 3 else .ok (copyB (1 + k) long o) q3 := by
      unfold matchR; rw [e1]; rfl
    by_cases hs : 30 ≤ s
    · have hs' : (30 : Int) ≤ (s : Int) := by omega
      rw [if_pos hs] at hM
      simp only [sA, Int.reduceNegSucc, reduceCtorEq, Nat.reduceEqDiff, ↓reduceIte, Nat.reduceAdd, Int.reduceEq, Int.reduceLT, Int.reduceLE, Nat.reduceLT, pf_isP, isPan_int, g0, g2, g6, hs', pf_mkP, pf_isU]
      exact hE _ _ κ 10 hM (by first | with_reducible rfl | trivial | rfl | assumption) (by simp only [sA, Int.reduceNegSucc, reduceCtorEq, Nat.reduceEqDiff, ↓reduceIte, Nat.reduceAdd, Int.reduceEq, Int.reduceLT, Int.reduceLE, Nat.reduceLT]; exact u63) F1
    · have hs' : ¬ (30 : Int) ≤ (s : Int) := by omega
      rw [if_neg hs] at hM
      simp only [sA, Int.reduceNegSucc, reduceCtorEq, Nat.reduceEqDiff, ↓reduceIte, Nat.reduceAdd, Int.reduceEq, Int.reduceLT, Int.reduceLE, Nat.reduceLT, pf_isP, isPan_int, g0, g2, g6, hs']
      refine (span_ro R1 s 2 (by omega) (by omega) (by omega) hd).mono ?_
      rintro _ H2 ⟨F2, ⟨k, q3, e2, hk, rfl, R2⟩ | ⟨e, e2, rfl⟩⟩
      · rw [e2] at hM
        simp only [SR.bind] at hM
        have wk : IntKind.i64.wrap (1 + (k : Int)) = ((1 + k : Nat) : Int) := by rw [IntKind.wrap_i64]; omega
        have l1 : oLoad false 1 H2 (cellR r 5 1) = some out := row_load R2.row rfl rfl
        have hlen := R2.len
        by_cases hb : o.length < 1 + k
        · have hb' : (o.length : Int) < ((1 + k : Nat) : Int) := by omega
          rw [if_pos hb] at hM
          simp only [sA, Int.reduceNegSucc, reduceCtorEq, Nat.reduceEqDiff, ↓reduceIte, Nat.reduceAdd, Int.reduceEq, Int.reduceLT, Int.reduceLE, Nat.reduceLT, pf_isP, isPan_int, g0, g2, g6, wk, nil_cell, fldA, l1, hlen, hb', pf_mkP, pf_isU]
          exact hE _ _ κ 10 hM (by first | with_reducible rfl | trivial | rfl | assumption) (by simp only [sA, Int.reduceNegSucc, reduceCtorEq, Nat.reduceEqDiff, ↓reduceIte, Nat.reduceAdd, Int.reduceEq, Int.reduceLT, Int.reduceLE, Nat.reduceLT]; exact u63) (F1.trans F2)
        · have hb' : ¬ (o.length : Int) < ((1 + k : Nat) : Int) := by omega
          rw [if_neg hb] at hM
          simp only [sA, Int.reduceNegSucc, reduceCtorEq, Nat.reduceEqDiff, ↓reduceIte, Nat.reduceAdd, Int.reduceEq, Int.reduceLT, Int.reduceLE, Nat.reduceLT, pf_isP, isPan_int, g0, g2, g6, wk, nil_cell, fldA, l1, hlen, hb']
          refine (room_spec R2.row hlen long (by omega) hm ho).mono ?_
          rintro _ _ ⟨⟨hr, rfl⟩ | ⟨hr, rfl⟩, rfl⟩
          · rw [if_neg (by omega)] at hM
            simp only [sA, Int.reduceNegSucc, reduceCtorEq, Nat.reduceEqDiff, ↓reduceIte, Nat.reduceAdd, Int.reduceEq, Int.reduceLT, Int.reduceLE, Nat.reduceLT, pf_isP, isPan, g0, g6]
            refine aw_loop (fun m (T : Env) H' => ∃ g κ2 out2 o2, m = long - g ∧ g ≤ long ∧ T 0 = cellR r 5 0 ∧ T 8 = .int .i64 ((1 + k : Nat) : Int) ∧ T 36 = .int .i64 (long : Int) ∧ T 37 = .int .i64 (g : Int) ∧ isU (T 62) = true ∧ isU (T 63) = true ∧ o2.length = o.length + g ∧ copyB (1 + k) (long - g) o2 = copyB (1 + k) long o ∧ FrS rS κ H κ2 H' ∧ RO κ2 H' r i bv out2 d q3 o2 most near far) long
              ⟨0, κ, out, o, rfl, Nat.zero_le _, by simp only [sA, Int.reduceNegSucc, reduceCtorEq, Nat.reduceEqDiff, ↓reduceIte, Nat.reduceAdd, Int.reduceEq, Int.reduceLT, Int.reduceLE, Nat.reduceLT, g0], by simp only [sA, Int.reduceNegSucc, reduceCtorEq, Nat.reduceEqDiff, ↓reduceIte, Nat.reduceAdd, Int.reduceEq, Int.reduceLT, Int.reduceLE, Nat.reduceLT], by simp only [sA, Int.reduceNegSucc, reduceCtorEq, Nat.reduceEqDiff, ↓reduceIte, Nat.reduceAdd, Int.reduceEq, Int.reduceLT, Int.reduceLE, Nat.reduceLT], by simp only [sA, Int.reduceNegSucc, reduceCtorEq, Nat.reduceEqDiff, ↓reduceIte, Nat.reduceAdd, Int.reduceEq, Int.reduceLT, Int.reduceLE, Nat.reduceLT]; try rfl, by simp only [sA, Int.reduceNegSucc, reduceCtorEq, Nat.reduceEqDiff, ↓reduceIte, Nat.reduceAdd, Int.reduceEq, Int.reduceLT, Int.reduceLE, Nat.reduceLT]; exact u62, by simp only [sA, Int.reduceNegSucc, reduceCtorEq, Nat.reduceEqDiff, ↓reduceIte, Nat.reduceAdd, Int.reduceEq, Int.reduceLT, Int.reduceLE, Nat.reduceLT]; exact u63, rfl, rfl, F1.trans F2, R2⟩ ?_
            rintro m T H3 ⟨g, κ2, out2, o2, rfl, hg, q0, q8, q36, q37, v62, v63, hol, hcp, F3, R3⟩
            by_cases hlt : g < long
            · have hlt' : (g : Int) < (long : Int) := by omega
              obtain ⟨x, hx⟩ : ∃ x, x = o2.getD (o2.length - (1 + k)) 0 := ⟨_, rfl⟩
              obtain ⟨s3, H4, H5, κ3, m4, m5, R5, F5⟩ := R3.push x (by omega)
              have hcp' : copyB (1 + k) (long - (g + 1)) (o2 ++ [x]) = copyB (1 + k) long o := by
                rw [← hcp, show long - g = (long - (g + 1)) + 1 by omega, hx]; rfl
              have l1a : oLoad false 1 H3 (cellR r 5 1) = some out2 := row_load R3.row rfl rfl
              have l1b : oLoad false 1 (H3.push (.cells [.int .u8 (x.toNat : Int)] 0 false)) (cellR r 5 1) = some out2 := row_load (R3.row.same (get_push_lt R3.kr.2)) rfl rfl
              have wb : IntKind.i64.wrap ((o2.length : Int) - ((1 + k : Nat) : Int)) = ((o2.length - (1 + k) : Nat) : Int) := by rw [IntKind.wrap_i64]; omega
              have C3 := R3.ap.cel1 R3.ap.blk'
              have ix := C3.idx .i64 (i := o2.length - (1 + k)) (by rw [byts_len]; omega)
              have lx := C3.load (i := o2.length - (1 + k)) (byts_get (b := x) (by rw [hx, List.getD_eq_getElem?_getD, List.getElem?_eq_getElem (by omega)]; rfl))
              have bld := build1 (.int .u8 0) H3 (x := .int .u8 (x.toNat : Int)) rfl
              simp only [sA, Int.reduceNegSucc, reduceCtorEq, Nat.reduceEqDiff, ↓reduceIte, Nat.reduceAdd, Int.reduceEq, Int.reduceLT, Int.reduceLE, Nat.reduceLT, q0, q8, q36, q37, hlt']
              refine aw_drawC rfl ?_
              simp only [sA, Int.reduceNegSucc, reduceCtorEq, Nat.reduceEqDiff, ↓reduceIte, Nat.reduceAdd, Int.reduceEq, Int.reduceLT, Int.reduceLE, Nat.reduceLT, sR, q0, q8, nil_cell, fldA, l1a, R3.len, wb, ix, lx, bld, m4, m5]
              simp only [ck_nil', ck_cons, ckP_load, ckP_nil, ck_end, and_true, true_and, List.map_cons, List.map_nil, sA, Int.reduceNegSucc, reduceCtorEq, Nat.reduceEqDiff, ↓reduceIte, Nat.reduceAdd, Int.reduceEq, Int.reduceLT, Int.reduceLE, Nat.reduceLT, q0, q8, fldA]
              refine ⟨⟨_, rfl, fun _ => ⟨_, l1b, app_aeq R3.ap⟩⟩, ?_⟩
              simp only [sA, Int.reduceNegSucc, reduceCtorEq, Nat.reduceEqDiff, ↓reduceIte, Nat.reduceAdd, Int.reduceEq, Int.reduceLT, Int.reduceLE, Nat.reduceLT, q0, q8, q36, q37, wrap1 g (by omega)]
              exact ⟨_, by omega, g + 1, κ3, s3, o2 ++ [x], rfl, by omega, (by first | with_reducible rfl | trivial | rfl | assumption), (by first | with_reducible rfl | trivial | rfl | assumption), (by first | with_reducible rfl | trivial | rfl | assumption), (by first | with_reducible rfl | trivial | rfl | assumption), (by first | with_reducible rfl | trivial | rfl | assumption), (by first | with_reducible rfl | trivial | rfl | assumption), by rw [List.length_append, hol]; rfl, hcp', F3.trans F5, R5⟩
            · have hlt' : ¬ (g : Int) < (long : Int) := by omega
              obtain rfl : g = long := by omega
              rw [Nat.sub_self] at hcp
              simp only [copyB] at hcp
              rw [← hcp] at hM
              simp only [sA, Int.reduceNegSucc, reduceCtorEq, Nat.reduceEqDiff, ↓reduceIte, Nat.reduceAdd, Int.reduceEq, Int.reduceLT, Int.reduceLE, Nat.reduceLT, q0, q8, q36, q37, hlt']
              exact hN _ _ κ2 out2 o2 q3 hM (by simp only [sA, Int.reduceNegSucc, reduceCtorEq, Nat.reduceEqDiff, ↓reduceIte, Nat.reduceAdd, Int.reduceEq, Int.reduceLT, Int.reduceLE, Nat.reduceLT]; exact v62) (by simp only [sA, Int.reduceNegSucc, reduceCtorEq, Nat.reduceEqDiff, ↓reduceIte, Nat.reduceAdd, Int.reduceEq, Int.reduceLT, Int.reduceLE, Nat.reduceLT]; exact v63) F3 R3
          · rw [if_pos (by omega)] at hM
            simp only [sA, Int.reduceNegSucc, reduceCtorEq, Nat.reduceEqDiff, ↓reduceIte, Nat.reduceAdd, Int.reduceEq, Int.reduceLT, Int.reduceLE, Nat.reduceLT, fault, pf_isP, isPan_pan]
            exact hE _ _ κ 3 hM (by first | with_reducible rfl | trivial | rfl | assumption) (by simp only [sA, Int.reduceNegSucc, reduceCtorEq, Nat.reduceEqDiff, ↓reduceIte, Nat.reduceAdd, Int.reduceEq, Int.reduceLT, Int.reduceLE, Nat.reduceLT]; exact u63) (F1.trans F2)
      · rw [e2] at hM
        simp only [sA, Int.reduceNegSucc, reduceCtorEq, Nat.reduceEqDiff, ↓reduceIte, Nat.reduceAdd, Int.reduceEq, Int.reduceLT, Int.reduceLE, Nat.reduceLT, fault, pf_isP, isPan_pan]
        exact hE _ _ κ e hM (by first | with_reducible rfl | trivial | rfl | assumption) (by simp only [sA, Int.reduceNegSucc, reduceCtorEq, Nat.reduceEqDiff, ↓reduceIte, Nat.reduceAdd, Int.reduceEq, Int.reduceLT, Int.reduceLE, Nat.reduceLT]; exact u63) (F1.trans F2)
  · have hM : matchR (bitsB d) most long o p = .bad e := by unfold matchR; rw [e1]; rfl
    simp only [sA, Int.reduceNegSucc, reduceCtorEq, Nat.reduceEqDiff, ↓reduceIte, Nat.reduceAdd, Int.reduceEq, Int.reduceLT, Int.reduceLE, Nat.reduceLT, fault, pf_isP, isPan_pan]
    exact hE _ _ κ e hM (by first | with_reducible rfl | trivial | rfl | assumption) (by simp only [sA, Int.reduceNegSucc, reduceCtorEq, Nat.reduceEqDiff, ↓reduceIte, Nat.reduceAdd, Int.reduceEq, Int.reduceLT, Int.reduceLE, Nat.reduceLT]; exact u63) F1
theorem lenM_le {sp s q : Nat} {S : List Bool} {p : Nat} (h : spanM sp 4 S p = .ok s q) (hs : sp < 28) : s ≤ 500 := by
  unfold spanM at h
  split at h
  · injection h with h1 h2; omega
  · split at h
    · injection h with h1 h2
      have hd : sp / 4 - 1 ≤ 5 := by omega
      have hp : 2 ^ (sp / 4 - 1) ≤ 2 ^ 5 := Nat.pow_le_pow_right (by omega) hd
      have hn : natOf ((S.drop p).take (sp / 4 - 1)) < 2 ^ 5 := Nat.lt_of_lt_of_le (natOf_lt _) (Nat.pow_le_pow_right (by omega) (by rw [List.length_take]; omega))
      have hmul : (4 + sp % 4) * 2 ^ (sp / 4 - 1) ≤ 7 * 2 ^ 5 := Nat.mul_le_mul (by omega) hp
      omega
    · cases h
theorem match_ro {κ : Nat → Nat} {H : AHeap} {r i c c' : Nat} {bv out : AVal} {d : Bs} {p : Nat} {o : Bs} {most sp : Nat} {near far : AVal} (R : RO κ H r i bv out d p o most near far) (TB : TBL κ H c c') (hd : d.length ≤ 1000000) (hm : most ≤ 100000) (ho : o.length ≤ 100000) (hs : sp ≤ 28) (hu : matchM (bitsB d) most sp o p ≠ .unk) :
    ACalls Try.prog natI 1102 [cellR r 5 0, .int .i64 (sp : Int), cellR c' 18 0] H fun w H' => ∃ κ', FrS rS κ H κ' H' ∧ ((∃ out2 o2 q2, matchM (bitsB d) most sp o p = .ok o2 q2 ∧ w = .tuple [] ∧ RO κ' H' r i bv out2 d q2 o2 most near far) ∨ ∃ e, matchM (bitsB d) most sp o p = .bad e ∧ w = fault e) := by
  refine acalls_ofE rfl za1102 rfl ?_
  have u1 : isU (argE [cellR r 5 0, .int .i64 (sp : Int), cellR c' 18 0] 63) = true := rfl
  have u0 : isU (argE [cellR r 5 0, .int .i64 (sp : Int), cellR c' 18 0] 62) = true := rfl
  refine wp_cutP [0, 2, 1, 1] ?_
  by_cases hlt : sp < 28
  · have hlt' : (sp : Int) < 28 := by omega
    simp only [c1102, sC, sA, Int.reduceNegSucc, reduceCtorEq, Nat.reduceEqDiff, ↓reduceIte, Nat.reduceAdd, Int.reduceEq, Int.reduceLT, Int.reduceLE, Nat.reduceLT, hlt']
    refine (span_ro R sp 4 (by omega) (by omega) (by omega) hd).mono ?_
    rintro _ H1 ⟨F1, ⟨s, q, e1, hk, rfl, R1⟩ | ⟨e, e1, rfl⟩⟩
    · have hM : matchM (bitsB d) most sp o p = matchR (bitsB d) most (3 + s) o q := by
        unfold matchM lenM; rw [if_pos hlt, e1]; rfl
      have hle := lenM_le e1 hlt
      have w3 : IntKind.i64.wrap (3 + (s : Int)) = ((3 + s : Nat) : Int) := by rw [IntKind.wrap_i64]; omega
      simp only [sA, Int.reduceNegSucc, reduceCtorEq, Nat.reduceEqDiff, ↓reduceIte, Nat.reduceAdd, Int.reduceEq, Int.reduceLT, Int.reduceLE, Nat.reduceLT, pf_isP, isPan_int, w3]
      rw [hM] at hu ⊢
      refine mrest_spec R1 (TB.fr F1 rS5) hd hm ho (by omega) (by simp only [sA, Int.reduceNegSucc, reduceCtorEq, Nat.reduceEqDiff, ↓reduceIte, Nat.reduceAdd, Int.reduceEq, Int.reduceLT, Int.reduceLE, Nat.reduceLT]) (by simp only [sA, Int.reduceNegSucc, reduceCtorEq, Nat.reduceEqDiff, ↓reduceIte, Nat.reduceAdd, Int.reduceEq, Int.reduceLT, Int.reduceLE, Nat.reduceLT]) (by simp only [sA, Int.reduceNegSucc, reduceCtorEq, Nat.reduceEqDiff, ↓reduceIte, Nat.reduceAdd, Int.reduceEq, Int.reduceLT, Int.reduceLE, Nat.reduceLT]) (by simp only [sA, Int.reduceNegSucc, reduceCtorEq, Nat.reduceEqDiff, ↓reduceIte, Nat.reduceAdd, Int.reduceEq, Int.reduceLT, Int.reduceLE, Nat.reduceLT]; exact u0) (by simp only [sA, Int.reduceNegSucc, reduceCtorEq, Nat.reduceEqDiff, ↓reduceIte, Nat.reduceAdd, Int.reduceEq, Int.reduceLT, Int.reduceLE, Nat.reduceLT]; exact u1) hu ?_ ?_
      · intro T2 H2 κ2 out2 o2 q2 e v62 v63 F R'
        simp only [sA, Int.reduceNegSucc, reduceCtorEq, Nat.reduceEqDiff, ↓reduceIte, Nat.reduceAdd, Int.reduceEq, Int.reduceLT, Int.reduceLE, Nat.reduceLT, pf_isU, v62, v63, pf_tup0]
        exact ⟨κ2, F1.trans F, .inl ⟨out2, o2, q2, e, (by first | with_reducible rfl | trivial | rfl | assumption), R'⟩⟩
      · intro T2 H2 κ2 e e' v62 v63 F
        simp only [sA, Int.reduceNegSucc, reduceCtorEq, Nat.reduceEqDiff, ↓reduceIte, Nat.reduceAdd, Int.reduceEq, Int.reduceLT, Int.reduceLE, Nat.reduceLT, pf_isU, v62, v63, fault, isU_pan]
        exact ⟨κ2, F1.trans F, .inr ⟨e, e', (by first | with_reducible rfl | trivial | rfl | assumption)⟩⟩
    · have hM : matchM (bitsB d) most sp o p = .bad e := by
        unfold matchM lenM; rw [if_pos hlt, e1]; rfl
      simp only [sA, Int.reduceNegSucc, reduceCtorEq, Nat.reduceEqDiff, ↓reduceIte, Nat.reduceAdd, Int.reduceEq, Int.reduceLT, Int.reduceLE, Nat.reduceLT, fault, pf_isP, isPan_pan, pf_isU, u0, u1, isU_pan]
      exact ⟨κ, F1, .inr ⟨e, hM, (by first | with_reducible rfl | trivial | rfl | assumption)⟩⟩
  · have hlt' : ¬ (sp : Int) < 28 := by omega
    simp only [c1102, sC, sA, Int.reduceNegSucc, reduceCtorEq, Nat.reduceEqDiff, ↓reduceIte, Nat.reduceAdd, Int.reduceEq, Int.reduceLT, Int.reduceLE, Nat.reduceLT, hlt']
    have hM : matchM (bitsB d) most sp o p = matchR (bitsB d) most 258 o p := by
      unfold matchM lenM; rw [if_neg hlt]; rfl
    rw [hM] at hu ⊢
    refine mrest_spec R TB hd hm ho (long := 258) (by omega) (by simp only [sA, Int.reduceNegSucc, reduceCtorEq, Nat.reduceEqDiff, ↓reduceIte, Nat.reduceAdd, Int.reduceEq, Int.reduceLT, Int.reduceLE, Nat.reduceLT]) (by simp only [sA, Int.reduceNegSucc, reduceCtorEq, Nat.reduceEqDiff, ↓reduceIte, Nat.reduceAdd, Int.reduceEq, Int.reduceLT, Int.reduceLE, Nat.reduceLT]) (by simp only [sA, Int.reduceNegSucc, reduceCtorEq, Nat.reduceEqDiff, ↓reduceIte, Nat.reduceAdd, Int.reduceEq, Int.reduceLT, Int.reduceLE, Nat.reduceLT]; try rfl) (by simp only [sA, Int.reduceNegSucc, reduceCtorEq, Nat.reduceEqDiff, ↓reduceIte, Nat.reduceAdd, Int.reduceEq, Int.reduceLT, Int.reduceLE, Nat.reduceLT]; exact u0) (by simp only [sA, Int.reduceNegSucc, reduceCtorEq, Nat.reduceEqDiff, ↓reduceIte, Nat.reduceAdd, Int.reduceEq, Int.reduceLT, Int.reduceLE, Nat.reduceLT]; exact u1) hu ?_ ?_
    · intro T2 H2 κ2 out2 o2 q2 e v62 v63 F R'
      simp only [sA, Int.reduceNegSucc, reduceCtorEq, Nat.reduceEqDiff, ↓reduceIte, Nat.reduceAdd, Int.reduceEq, Int.reduceLT, Int.reduceLE, Nat.reduceLT, pf_isU, v62, v63, pf_tup0]
      exact ⟨κ2, F, .inl ⟨out2, o2, q2, e, (by first | with_reducible rfl | trivial | rfl | assumption), R'⟩⟩
    · intro T2 H2 κ2 e e' v62 v63 F
      simp only [sA, Int.reduceNegSucc, reduceCtorEq, Nat.reduceEqDiff, ↓reduceIte, Nat.reduceAdd, Int.reduceEq, Int.reduceLT, Int.reduceLE, Nat.reduceLT, pf_isU, v62, v63, fault, isU_pan]
      exact ⟨κ2, F, .inr ⟨e, e', (by first | with_reducible rfl | trivial | rfl | assumption)⟩⟩
end Go.Proofs.Zi
namespace Go.Proofs.Zi
open Go.Abs Go.Abs.S
set_option linter.unusedSimpArgs false
theorem copyB_len (back : Nat) : ∀ (n : Nat) (o : Bs), (copyB back n o).length = o.length + n
  | 0, o => rfl
  | n + 1, o => by simp only [copyB]; rw [copyB_len back n, List.length_append]; simp; omega
theorem SR.bind_ok {α β : Type} {x : SR α} {f : α → Nat → SR β} {b : β} {q : Nat} (h : x.bind f = .ok b q) : ∃ a p, x = .ok a p ∧ f a p = .ok b q := by
  cases x with
  | ok a p => exact ⟨a, p, rfl, h⟩
  | bad e => cases h
  | unk => cases h
theorem matchR_ok {S : List Bool} {most long : Nat} {o o2 : Bs} {q q2 : Nat} (h : matchR S most long o q = .ok o2 q2) : ∃ s a k, farM S q = .ok s a ∧ s < 30 ∧ spanM s 2 S a = .ok k q2 ∧ 1 + k ≤ o.length ∧ o.length + long ≤ most ∧ o2 = copyB (1 + k) long o := by
  unfold matchR at h
  obtain ⟨s, a, e1, h⟩ := SR.bind_ok h
  split at h
  · cases h
  rename_i hs
  obtain ⟨k, b, e2, h⟩ := SR.bind_ok h
  split at h
  · cases h
  rename_i hk
  split at h
  · cases h
  rename_i hm
  injection h with h1 h2
  subst h2
  exact ⟨s, a, k, e1, by omega, e2, by omega, by omega, h1.symm⟩
theorem matchM_ok {S : List Bool} {most sp : Nat} {o o2 : Bs} {p q2 : Nat} (h : matchM S most sp o p = .ok o2 q2) : ∃ long q, lenM sp S p = .ok long q ∧ matchR S most long o q = .ok o2 q2 := SR.bind_ok h
def symsM (S : List Bool) (most : Nat) : Nat → Bs → Nat → SR Bs
  | 0, _, _ => .unk
  | f + 1, o, p => (nearM S p).bind fun s q =>
      if s < 256 then (if most < o.length + 1 then .bad 3 else symsM S most f (o ++ [UInt8.ofNat s]) q)
      else if s = 256 then .ok o q
      else if s < 286 then (matchM S most (s - 257) o q).bind fun o2 q2 => symsM S most f o2 q2
      else .bad 10
theorem syms_ro {κ : Nat → Nat} {H : AHeap} {r i c c' : Nat} {bv out : AVal} {d : Bs} {p F : Nat} {o : Bs} {most : Nat} {near far : AVal} (R : RO κ H r i bv out d p o most near far) (TB : TBL κ H c c') (hd : d.length ≤ 1000000) (hm : most ≤ 100000) (ho : o.length ≤ 100000) (hu : symsM (bitsB d) most F o p ≠ .unk) :
    ACalls Try.prog natI 1089 [cellR r 5 0, cellR c 18 0, cellR c' 18 0] H fun w H' => ∃ κ', FrS rS κ H κ' H' ∧ ((∃ out2 o2 q2, symsM (bitsB d) most F o p = .ok o2 q2 ∧ w = .tuple [] ∧ o2.length ≤ 100000 ∧ RO κ' H' r i bv out2 d q2 o2 most near far) ∨ ∃ e, symsM (bitsB d) most F o p = .bad e ∧ w = fault e) := by
  refine acalls_ofE rfl za1089 rfl ?_
  have u1 : isU (argE [cellR r 5 0, cellR c 18 0, cellR c' 18 0] 40) = true := rfl
  have u0 : isU (argE [cellR r 5 0, cellR c 18 0, cellR c' 18 0] 39) = true := rfl
  simp only [c1089, sA, Int.reduceNegSucc, reduceCtorEq, Nat.reduceEqDiff, ↓reduceIte, Nat.reduceAdd, Int.reduceEq, Int.reduceLT, Int.reduceLE, Nat.reduceLT]
  refine aw_loop (fun m (T : Env) H' => ∃ κ2 out2 o2 q, T 0 = cellR r 5 0 ∧ T 1 = cellR c 18 0 ∧ T 2 = cellR c' 18 0 ∧ isU (T 39) = true ∧ isU (T 40) = true ∧ o2.length ≤ 100000 ∧ symsM (bitsB d) most m o2 q = symsM (bitsB d) most F o p ∧ FrS rS κ H κ2 H' ∧ RO κ2 H' r i bv out2 d q o2 most near far) F
    ⟨κ, out, o, p, by simp only [sA, Int.reduceNegSucc, reduceCtorEq, Nat.reduceEqDiff, ↓reduceIte, Nat.reduceAdd, Int.reduceEq, Int.reduceLT, Int.reduceLE, Nat.reduceLT], by simp only [sA, Int.reduceNegSucc, reduceCtorEq, Nat.reduceEqDiff, ↓reduceIte, Nat.reduceAdd, Int.reduceEq, Int.reduceLT, Int.reduceLE, Nat.reduceLT], by simp only [sA, Int.reduceNegSucc, reduceCtorEq, Nat.reduceEqDiff, ↓reduceIte, Nat.reduceAdd, Int.reduceEq, Int.reduceLT, Int.reduceLE, Nat.reduceLT], by exact u0, by exact u1, ho, rfl, FrS.refl _ _ _, R⟩ ?_
  rintro m T H1 ⟨κ2, out2, o2, q, g0, g1, g2, v39, v40, hol, hM, F1, R1⟩
  cases m with
  | zero => exact absurd hM.symm hu
  | succ m =>
  rw [← hM] at hu ⊢
  have TB1 := TBL.fr TB F1 rS5
  have hnu : nearM (bitsB d) q ≠ .unk := fun e => hu (by simp only [symsM, e, SR.bind])
  simp only [sA, Int.reduceNegSucc, reduceCtorEq, Nat.reduceEqDiff, ↓reduceIte, Nat.reduceAdd, Int.reduceEq, Int.reduceLT, Int.reduceLE, Nat.reduceLT, g0, g1, g2]
  refine (near_ro R1 TB1 hd hnu).mono ?_
  rintro _ H2 ⟨F2, ⟨s, q2, e1, rfl, R2⟩ | ⟨e, e1, rfl⟩⟩
  · have hS : symsM (bitsB d) most (m + 1) o2 q = if s < 256 then (if most < o2.length + 1 then .bad 3 else symsM (bitsB d) most m (o2 ++ [UInt8.ofNat s]) q2) else if s = 256 then .ok o2 q2 else if s < 286 then (matchM (bitsB d) most (s - 257) o2 q2).bind fun o2 q2 => symsM (bitsB d) most m o2 q2 else .bad 10 := by
      simp only [symsM, e1, SR.bind]
    by_cases h1 : s < 256
    · have h1' : (s : Int) < 256 := by omega
      rw [if_pos h1] at hS
      simp only [sA, Int.reduceNegSucc, reduceCtorEq, Nat.reduceEqDiff, ↓reduceIte, Nat.reduceAdd, Int.reduceEq, Int.reduceLT, Int.reduceLE, Nat.reduceLT, pf_isP, isPan_int, g0, h1']
      refine (room_spec R2.row R2.len 1 (by omega) hm hol).mono ?_
      rintro _ _ ⟨⟨hr, rfl⟩ | ⟨hr, rfl⟩, rfl⟩
      · rw [if_neg (by omega)] at hS
        obtain ⟨s3, H4, H5, κ3, m4, m5, R5, F5⟩ := R2.push (UInt8.ofNat s) (by omega)
        have l1 : oLoad false 1 H2 (cellR r 5 1) = some out2 := row_load R2.row rfl rfl
        have ws : IntKind.u8.wrap (s : Int) = ((UInt8.ofNat s).toNat : Int) := by
          rw [wrap_u .u8 (by simp) (by simp only [IntKind.bits]; omega)]
          have : (UInt8.ofNat s).toNat = s := by simp; omega
          rw [this]
        have bld := build1 (.int .u8 0) H2 (x := .int .u8 ((UInt8.ofNat s).toNat : Int)) rfl
        simp only [sA, Int.reduceNegSucc, reduceCtorEq, Nat.reduceEqDiff, ↓reduceIte, Nat.reduceAdd, Int.reduceEq, Int.reduceLT, Int.reduceLE, Nat.reduceLT, pf_isP, isPan, g0, g1, g2, nil_cell, fldA, l1, conv_in, ws, bld, m4, m5]
        exact ⟨m, by omega, κ3, s3, o2 ++ [UInt8.ofNat s], q2, (by first | with_reducible rfl | trivial | rfl | assumption), (by first | with_reducible rfl | trivial | rfl | assumption), (by first | with_reducible rfl | trivial | rfl | assumption), by exact v39, by exact v40, by rw [List.length_append]; simp; omega, by rw [← hS, hM], (F1.trans F2).trans F5, R5⟩
      · rw [if_pos (by omega)] at hS
        simp only [sA, Int.reduceNegSucc, reduceCtorEq, Nat.reduceEqDiff, ↓reduceIte, Nat.reduceAdd, Int.reduceEq, Int.reduceLT, Int.reduceLE, Nat.reduceLT, fault, pf_isP, isPan_pan, pf_isU, v39, v40, isU_pan]
        exact ⟨κ2, F1.trans F2, .inr ⟨3, hS, by rfl⟩⟩
    · have h1' : ¬ (s : Int) < 256 := by omega
      rw [if_neg h1] at hS
      by_cases h2 : s = 256
      · have h2' : (s : Int) = 256 := by omega
        rw [if_pos h2] at hS
        simp only [sA, Int.reduceNegSucc, reduceCtorEq, Nat.reduceEqDiff, ↓reduceIte, Nat.reduceAdd, Int.reduceEq, Int.reduceLT, Int.reduceLE, Nat.reduceLT, pf_isP, isPan_int, g0, h1', h2', pf_isU, v39, v40, pf_tup0]
        exact ⟨κ2, F1.trans F2, .inl ⟨out2, o2, q2, hS, (by first | with_reducible rfl | trivial | rfl | assumption), hol, R2⟩⟩
      · have h2' : ¬ (s : Int) = 256 := by omega
        rw [if_neg h2] at hS
        by_cases h3 : s < 286
        · have h3' : (s : Int) < 286 := by omega
          rw [if_pos h3] at hS
          have w1 : IntKind.i64.wrap ((s : Int) - 256) = ((s - 256 : Nat) : Int) := by rw [IntKind.wrap_i64]; omega
          have w2 : IntKind.i64.wrap (((s - 256 : Nat) : Int) - 1) = ((s - 257 : Nat) : Int) := by rw [IntKind.wrap_i64]; omega
          have hmu : matchM (bitsB d) most (s - 257) o2 q2 ≠ .unk := fun e => hu (by rw [hS, e]; rfl)
          simp only [sA, Int.reduceNegSucc, reduceCtorEq, Nat.reduceEqDiff, ↓reduceIte, Nat.reduceAdd, Int.reduceEq, Int.reduceLT, Int.reduceLE, Nat.reduceLT, pf_isP, isPan_int, g0, g1, g2, h1', h2', h3', w1, w2]
          refine (match_ro R2 (TBL.fr TB1 F2 rS5) hd hm hol (by omega) hmu).mono ?_
          rintro _ H3 ⟨κ3, F3, ⟨out3, o3, q3, e3, rfl, R3⟩ | ⟨e, e3, rfl⟩⟩
          · rw [e3] at hS
            obtain ⟨long, qq, _, e4⟩ := matchM_ok e3
            obtain ⟨_, _, k, _, _, _, _, hle, rfl⟩ := matchR_ok e4
            simp only [sA, Int.reduceNegSucc, reduceCtorEq, Nat.reduceEqDiff, ↓reduceIte, Nat.reduceAdd, Int.reduceEq, Int.reduceLT, Int.reduceLE, Nat.reduceLT, pf_isP, isPan, g0, g1, g2]
            exact ⟨m, by omega, κ3, out3, copyB (1 + k) long o2, q3, (by first | with_reducible rfl | trivial | rfl | assumption), (by first | with_reducible rfl | trivial | rfl | assumption), (by first | with_reducible rfl | trivial | rfl | assumption), by exact v39, by exact v40, by rw [copyB_len]; omega, hS.symm, (F1.trans F2).trans F3, R3⟩
          · rw [e3] at hS
            simp only [sA, Int.reduceNegSucc, reduceCtorEq, Nat.reduceEqDiff, ↓reduceIte, Nat.reduceAdd, Int.reduceEq, Int.reduceLT, Int.reduceLE, Nat.reduceLT, fault, pf_isP, isPan_pan, pf_isU, v39, v40, isU_pan]
            exact ⟨κ3, (F1.trans F2).trans F3, .inr ⟨e, hS, (by first | with_reducible rfl | trivial | rfl | assumption)⟩⟩
        · have h3' : ¬ (s : Int) < 286 := by omega
          rw [if_neg h3] at hS
          simp only [sA, Int.reduceNegSucc, reduceCtorEq, Nat.reduceEqDiff, ↓reduceIte, Nat.reduceAdd, Int.reduceEq, Int.reduceLT, Int.reduceLE, Nat.reduceLT, pf_isP, isPan_int, g0, g1, g2, h1', h2', h3', pf_mkP, pf_isU, v39, v40, isU_pan]
          exact ⟨κ2, F1.trans F2, .inr ⟨10, hS, by rfl⟩⟩
  · have hS : symsM (bitsB d) most (m + 1) o2 q = .bad e := by simp only [symsM, e1, SR.bind]
    simp only [sA, Int.reduceNegSucc, reduceCtorEq, Nat.reduceEqDiff, ↓reduceIte, Nat.reduceAdd, Int.reduceEq, Int.reduceLT, Int.reduceLE, Nat.reduceLT, fault, pf_isP, isPan_pan, pf_isU, v39, v40, isU_pan]
    exact ⟨κ2, F1.trans F2, .inr ⟨e, hS, (by first | with_reducible rfl | trivial | rfl | assumption)⟩⟩
end Go.Proofs.Zi
namespace Go.Proofs.Zi
open Go.Abs Go.Abs.S
set_option linter.unusedSimpArgs false
def getM (k : Nat) (S : List Bool) (p : Nat) : SR Nat := if p + k ≤ S.length then .ok (natOf ((S.drop p).take k)) (p + k) else .bad 12
theorem get_m {κ : Nat → Nat} {H : AHeap} {r i : Nat} {bv out : AVal} {d : Bs} {p : Nat} {o : Bs} {most : Nat} {near far : AVal} (R : RO κ H r i bv out d p o most near far) (k : Nat) (hk : k ≤ 32) (hd : d.length ≤ 1000000) :
    ACalls Try.prog natI 1086 [cellR r 5 0, .int .i64 (k : Int)] H fun w H' => FrS rS κ H κ H' ∧ ((∃ v q, getM k (bitsB d) p = .ok v q ∧ w = .int .i64 (v : Int) ∧ v < 2 ^ k ∧ RO κ H' r i bv out d q o most near far ∧ H'.next = H.next ∧ ∀ c, c ≠ i → H'.get c = H.get c) ∨ (getM k (bitsB d) p = .bad 12 ∧ w = fault 12 ∧ H = H')) :=
  (get_spec R.row R.rd k hk hd).mono fun w H' h => by
    rcases h with ⟨h1, h2, h3, h4, h5⟩ | ⟨h1, h2, rfl⟩
    · obtain ⟨R', F⟩ := R.at h3 h4 h5
      have := natOf_lt (((bitsB d).drop p).take k)
      exact ⟨F, .inl ⟨_, p + k, by unfold getM; rw [if_pos (by rw [bitsB_len]; exact h1)], h2, Nat.lt_of_lt_of_le this (Nat.pow_le_pow_right (by omega) (by rw [List.length_take]; omega)), R', h4, h5⟩⟩
    · exact ⟨FrS.refl _ _ _, .inr ⟨by unfold getM; rw [if_neg (by rw [bitsB_len]; omega)], h2, rfl⟩⟩
def bytesM (S : List Bool) : Nat → Bs → Nat → SR Bs
  | 0, o, q => .ok o q
  | n + 1, o, q => (getM 8 S q).bind fun x q' => bytesM S n (o ++ [UInt8.ofNat x]) q'
def storedM (S : List Bool) (most : Nat) (o : Bs) (p : Nat) : SR Bs := (getM 16 S (p + fillN p)).bind fun n q => (getM 16 S q).bind fun m q2 => if m ≠ 65535 - n then .bad 10 else if most < o.length + n then .bad 3 else bytesM S n o q2
theorem stored_ro {κ : Nat → Nat} {H : AHeap} {r i : Nat} {bv out : AVal} {d : Bs} {p : Nat} {o : Bs} {most : Nat} {near far : AVal} (R : RO κ H r i bv out d p o most near far) (hd : d.length ≤ 1000000) (hm : most ≤ 100000) (ho : o.length ≤ 100000) :
    ACalls Try.prog natI 1087 [cellR r 5 0] H fun w H' => ∃ κ', FrS rS κ H κ' H' ∧ ((∃ out2 o2 q2, storedM (bitsB d) most o p = .ok o2 q2 ∧ w = .tuple [] ∧ o2.length ≤ 100000 ∧ RO κ' H' r i bv out2 d q2 o2 most near far) ∨ ∃ e, storedM (bitsB d) most o p = .bad e ∧ w = fault e) := by
  refine acalls_ofE rfl za1087 rfl ?_
  have u1 : isU (argE [cellR r 5 0] 36) = true := rfl
  have u0 : isU (argE [cellR r 5 0] 35) = true := rfl
  have l0 : oLoad false 1 H (cellR r 5 0) = some (cellR i 3 0) := row_load R.row rfl rfl
  simp only [c1087, sA, Int.reduceNegSucc, reduceCtorEq, Nat.reduceEqDiff, ↓reduceIte, Nat.reduceAdd, Int.reduceEq, Int.reduceLT, Int.reduceLE, Nat.reduceLT, nil_cell, fldA, fld0, l0]
  refine (ralign_spec R.rd hd).mono ?_
  rintro _ H1 ⟨D1, n1, o1⟩
  obtain ⟨R1, F1⟩ := R.at D1 n1 o1
  simp only [sA, Int.reduceNegSucc, reduceCtorEq, Nat.reduceEqDiff, ↓reduceIte, Nat.reduceAdd, Int.reduceEq, Int.reduceLT, Int.reduceLE, Nat.reduceLT]
  refine (get_m R1 16 (by omega) hd).mono ?_
  rintro _ H2 ⟨F2, ⟨n, q, e2, rfl, hn, R2, -, -⟩ | ⟨e2, rfl, rfl⟩⟩
  · simp only [sA, Int.reduceNegSucc, reduceCtorEq, Nat.reduceEqDiff, ↓reduceIte, Nat.reduceAdd, Int.reduceEq, Int.reduceLT, Int.reduceLE, Nat.reduceLT, pf_isP, isPan_int]
    refine (get_m R2 16 (by omega) hd).mono ?_
    rintro _ H3 ⟨F3, ⟨m, q2, e3, rfl, hm3, R3, -, -⟩ | ⟨e3, rfl, rfl⟩⟩
    · have xo : aBin .xor (.int .i64 (n : Int)) (.int .i64 65535) = some (.int .i64 ((65535 - n : Nat) : Int)) := by
        have e : (BitVec.ofInt IntKind.i64.bits (n : Int) ^^^ BitVec.ofInt IntKind.i64.bits 65535).toNat = n ^^^ 65535 := by
          rw [BitVec.toNat_xor, ofInt_nat]
          have h1 : n % 2 ^ IntKind.i64.bits = n := Nat.mod_eq_of_lt (by simp only [IntKind.bits]; omega)
          rw [h1]; rfl
        simp only [aBin, isShift, cond_false, if_true, aIntF_eq, aInt, e]
        rw [xor_16 (by omega), wrapI (by omega)]
      have hS : storedM (bitsB d) most o p = if m ≠ 65535 - n then .bad 10 else if most < o.length + n then .bad 3 else bytesM (bitsB d) n o q2 := by
        unfold storedM; rw [e2]; simp only [SR.bind]; rw [e3]
      by_cases hmn : m ≠ 65535 - n
      · have hmn' : ¬ (m : Int) = ((65535 - n : Nat) : Int) := by omega
        rw [if_pos hmn] at hS
        simp only [sA, Int.reduceNegSucc, reduceCtorEq, Nat.reduceEqDiff, ↓reduceIte, Nat.reduceAdd, Int.reduceEq, Int.reduceLT, Int.reduceLE, Nat.reduceLT, pf_isP, isPan_int, xo, hmn', pf_mkP, pf_isU, u0, u1, isU_pan]
        exact ⟨κ, (F1.trans F2).trans F3, .inr ⟨10, hS, by rfl⟩⟩
      · rw [if_neg hmn] at hS
        obtain rfl : m = 65535 - n := by omega
        simp only [sA, Int.reduceNegSucc, reduceCtorEq, Nat.reduceEqDiff, ↓reduceIte, Nat.reduceAdd, Int.reduceEq, Int.reduceLT, Int.reduceLE, Nat.reduceLT, pf_isP, isPan_int, xo]
        refine (room_spec R3.row R3.len n (by omega) hm ho).mono ?_
        rintro _ _ ⟨⟨hr, rfl⟩ | ⟨hr, rfl⟩, rfl⟩
        · rw [if_neg (by omega)] at hS
          simp only [sA, Int.reduceNegSucc, reduceCtorEq, Nat.reduceEqDiff, ↓reduceIte, Nat.reduceAdd, Int.reduceEq, Int.reduceLT, Int.reduceLE, Nat.reduceLT, pf_isP, isPan]
          refine aw_loop (fun m (T : Env) H' => ∃ g κ2 out2 o2 q3, m = n - g ∧ g ≤ n ∧ T 0 = cellR r 5 0 ∧ T 19 = .int .i64 (n : Int) ∧ T 20 = .int .i64 (g : Int) ∧ isU (T 35) = true ∧ isU (T 36) = true ∧ o2.length = o.length + g ∧ bytesM (bitsB d) (n - g) o2 q3 = bytesM (bitsB d) n o q2 ∧ FrS rS κ H κ2 H' ∧ RO κ2 H' r i bv out2 d q3 o2 most near far) n
            ⟨0, κ, out, o, q2, rfl, Nat.zero_le _, by simp only [sA, Int.reduceNegSucc, reduceCtorEq, Nat.reduceEqDiff, ↓reduceIte, Nat.reduceAdd, Int.reduceEq, Int.reduceLT, Int.reduceLE, Nat.reduceLT], by simp only [sA, Int.reduceNegSucc, reduceCtorEq, Nat.reduceEqDiff, ↓reduceIte, Nat.reduceAdd, Int.reduceEq, Int.reduceLT, Int.reduceLE, Nat.reduceLT], by simp only [sA, Int.reduceNegSucc, reduceCtorEq, Nat.reduceEqDiff, ↓reduceIte, Nat.reduceAdd, Int.reduceEq, Int.reduceLT, Int.reduceLE, Nat.reduceLT]; try rfl, by simp only [sA, Int.reduceNegSucc, reduceCtorEq, Nat.reduceEqDiff, ↓reduceIte, Nat.reduceAdd, Int.reduceEq, Int.reduceLT, Int.reduceLE, Nat.reduceLT]; exact u0, by simp only [sA, Int.reduceNegSucc, reduceCtorEq, Nat.reduceEqDiff, ↓reduceIte, Nat.reduceAdd, Int.reduceEq, Int.reduceLT, Int.reduceLE, Nat.reduceLT]; exact u1, rfl, rfl, (F1.trans F2).trans F3, R3⟩ ?_
          rintro m T H4 ⟨g, κ2, out2, o2, q3, rfl, hg, g0, g19, g20, v35, v36, hol, hB, F4, R4⟩
          by_cases hlt : g < n
          · have hlt' : (g : Int) < (n : Int) := by omega
            have l1 : oLoad false 1 H4 (cellR r 5 1) = some out2 := row_load R4.row rfl rfl
            have hB2 : bytesM (bitsB d) (n - g) o2 q3 = (getM 8 (bitsB d) q3).bind fun x q' => bytesM (bitsB d) (n - (g + 1)) (o2 ++ [UInt8.ofNat x]) q' := by
              rw [show n - g = (n - (g + 1)) + 1 by omega]; rfl
            simp only [sA, Int.reduceNegSucc, reduceCtorEq, Nat.reduceEqDiff, ↓reduceIte, Nat.reduceAdd, Int.reduceEq, Int.reduceLT, Int.reduceLE, Nat.reduceLT, g0, g19, g20, hlt']
            refine aw_drawC rfl ?_
            simp only [sR, sA, Int.reduceNegSucc, reduceCtorEq, Nat.reduceEqDiff, ↓reduceIte, Nat.reduceAdd, Int.reduceEq, Int.reduceLT, Int.reduceLE, Nat.reduceLT, g0, nil_cell, fldA, l1]
            refine (get_m R4 8 (by omega) hd).mono ?_
            rintro _ H5 ⟨F5, ⟨x, q4, e5, rfl, hx, R5, -, -⟩ | ⟨e5, rfl, rfl⟩⟩
            · rw [e5] at hB2
              simp only [SR.bind] at hB2
              have wx : IntKind.u8.wrap (x : Int) = ((UInt8.ofNat x).toNat : Int) := by
                rw [wrap_u .u8 (by simp) (by simp only [IntKind.bits]; omega)]
                have : (UInt8.ofNat x).toNat = x := by simp; omega
                rw [this]
              have bld := build1 (.int .u8 0) H5 (x := .int .u8 ((UInt8.ofNat x).toNat : Int)) rfl
              obtain ⟨s6, H6, H7, κ7, m6, m7, R7, F7⟩ := R5.push (UInt8.ofNat x) (by omega)
              have l1a : oLoad false 1 H5 (cellR r 5 1) = some out2 := row_load R5.row rfl rfl
              have l1b : oLoad false 1 (H5.push (.cells [.int .u8 ((UInt8.ofNat x).toNat : Int)] 0 false)) (cellR r 5 1) = some out2 := row_load (R5.row.same (get_push_lt R5.kr.2)) rfl rfl
              simp only [sR, sA, Int.reduceNegSucc, reduceCtorEq, Nat.reduceEqDiff, ↓reduceIte, Nat.reduceAdd, Int.reduceEq, Int.reduceLT, Int.reduceLE, Nat.reduceLT, tr_skip, Nat.reduceLeDiff, Nat.reduceSub, isPan_int, Bool.false_eq_true, g0, conv_in, wx, bld, m6, nil_cell, fldA, m7]
              simp only [ck_nil', ck_cons, ckP_load, ckP_nil, ck_end, and_true, true_and, List.map_cons, List.map_nil, sA, Int.reduceNegSucc, reduceCtorEq, Nat.reduceEqDiff, ↓reduceIte, Nat.reduceAdd, Int.reduceEq, Int.reduceLT, Int.reduceLE, Nat.reduceLT, g0, fldA]
              refine ⟨⟨⟨_, rfl, fun _ => ⟨_, l1a, app_aeq R4.ap⟩⟩, ⟨_, rfl, fun _ => ⟨_, l1b, app_aeq R4.ap⟩⟩⟩, ?_⟩
              simp only [sA, Int.reduceNegSucc, reduceCtorEq, Nat.reduceEqDiff, ↓reduceIte, Nat.reduceAdd, Int.reduceEq, Int.reduceLT, Int.reduceLE, Nat.reduceLT, pf_isP, isPan_int, g0, g19, g20, wrap1 g (by omega)]
              exact ⟨_, by omega, g + 1, κ7, s6, o2 ++ [UInt8.ofNat x], q4, rfl, by omega, (by first | with_reducible rfl | trivial | rfl | assumption), (by first | with_reducible rfl | trivial | rfl | assumption), (by first | with_reducible rfl | trivial | rfl | assumption), by exact v35, by exact v36, by rw [List.length_append, hol]; rfl, hB2.symm.trans hB, (F4.trans F5).trans F7, R7⟩
            · rw [e5] at hB2
              simp only [SR.bind] at hB2
              rw [← hB, hB2] at hS
              simp only [sR, sA, Int.reduceNegSucc, reduceCtorEq, Nat.reduceEqDiff, ↓reduceIte, Nat.reduceAdd, Int.reduceEq, Int.reduceLT, Int.reduceLE, Nat.reduceLT, tr_skip, Nat.reduceLeDiff, Nat.reduceSub, fault, isPan_pan]
              simp only [ck_nil', ck_cons, ckP_load, ckP_nil, ck_end, and_true, true_and, List.map_cons, List.map_nil, sA, Int.reduceNegSucc, reduceCtorEq, Nat.reduceEqDiff, ↓reduceIte, Nat.reduceAdd, Int.reduceEq, Int.reduceLT, Int.reduceLE, Nat.reduceLT, g0, fldA]
              refine ⟨⟨⟨_, rfl, fun _ => ⟨_, l1, app_aeq R4.ap⟩⟩, ⟨_, rfl, fun _ => ⟨_, l1, app_aeq R4.ap⟩⟩⟩, ?_⟩
              simp only [sA, Int.reduceNegSucc, reduceCtorEq, Nat.reduceEqDiff, ↓reduceIte, Nat.reduceAdd, Int.reduceEq, Int.reduceLT, Int.reduceLE, Nat.reduceLT, pf_isP, isPan_pan, pf_isU, v35, v36, isU_pan]
              exact ⟨κ2, F4, .inr ⟨12, hS, by rfl⟩⟩
          · have hlt' : ¬ (g : Int) < (n : Int) := by omega
            obtain rfl : g = n := by omega
            rw [Nat.sub_self] at hB
            simp only [bytesM] at hB
            rw [← hB] at hS
            simp only [sA, Int.reduceNegSucc, reduceCtorEq, Nat.reduceEqDiff, ↓reduceIte, Nat.reduceAdd, Int.reduceEq, Int.reduceLT, Int.reduceLE, Nat.reduceLT, g0, g19, g20, hlt', pf_isU, v35, v36, pf_tup0]
            exact ⟨κ2, F4, .inl ⟨out2, o2, q3, hS, (by first | with_reducible rfl | trivial | rfl | assumption), by omega, R4⟩⟩
        · rw [if_pos (by omega)] at hS
          simp only [sA, Int.reduceNegSucc, reduceCtorEq, Nat.reduceEqDiff, ↓reduceIte, Nat.reduceAdd, Int.reduceEq, Int.reduceLT, Int.reduceLE, Nat.reduceLT, fault, pf_isP, isPan_pan, pf_isU, u0, u1, isU_pan]
          exact ⟨κ, (F1.trans F2).trans F3, .inr ⟨3, hS, by rfl⟩⟩
    · have hS : storedM (bitsB d) most o p = .bad 12 := by unfold storedM; rw [e2]; simp only [SR.bind]; rw [e3]
      simp only [sA, Int.reduceNegSucc, reduceCtorEq, Nat.reduceEqDiff, ↓reduceIte, Nat.reduceAdd, Int.reduceEq, Int.reduceLT, Int.reduceLE, Nat.reduceLT, fault, pf_isP, isPan_pan, pf_isU, u0, u1, isU_pan]
      exact ⟨κ, F1.trans F2, .inr ⟨12, hS, by rfl⟩⟩
  · have hS : storedM (bitsB d) most o p = .bad 12 := by unfold storedM; rw [e2]; rfl
    simp only [sA, Int.reduceNegSucc, reduceCtorEq, Nat.reduceEqDiff, ↓reduceIte, Nat.reduceAdd, Int.reduceEq, Int.reduceLT, Int.reduceLE, Nat.reduceLT, fault, pf_isP, isPan_pan, pf_isU, u0, u1, isU_pan]
    exact ⟨κ, F1, .inr ⟨12, hS, by rfl⟩⟩
end Go.Proofs.Zi
namespace Go.Proofs.Zi
open Go.Abs Go.Abs.S
set_option linter.unusedSimpArgs false
def NF (κ : Nat → Nat) (H : AHeap) (near far : AVal) : Prop := near = .ptr none ∨ ∃ c c', near = cellR c 18 0 ∧ far = cellR c' 18 0 ∧ TBL κ H c c'
theorem NF.fr {S : Nat → Prop} {κ κ' : Nat → Nat} {H H' : AHeap} {near far : AVal} (h : NF κ H near far) (f : FrS S κ H κ' H') (h5 : ¬ S 5) : NF κ' H' near far := by
  rcases h with h | ⟨c, c', e1, e2, t⟩
  · exact .inl h
  · exact .inr ⟨c, c', e1, e2, t.fr f h5⟩
theorem nil_nil : aPf (.eqv false .ptr) [.ptr none, .ptr none] = some (.bool true) := _root_.id rfl
theorem RO.ext {κ : Nat → Nat} {H H' : AHeap} {r i : Nat} {bv out : AVal} {d : Bs} {p : Nat} {o : Bs} {most : Nat} {near far : AVal} (R : RO κ H r i bv out d p o most near far) (E : Ext H.next H H') (k : Nat) : RO (upT κ H H' k) H' r i bv out d p o most near far := by
  have hki := R.ki
  have hkr := R.kr
  have en := E.next
  exact ⟨R.row.same (E.old r hkr.2), R.rd.same en (E.old i hki.2) (R.kb.mono fun b hb => E.old b hb.2), R.ap.same en (R.ko.mono fun b hb => E.old b hb.2), ⟨by rw [upT_old hkr.2]; exact hkr.1, by omega⟩, ⟨by rw [upT_old hki.2]; exact hki.1, by omega⟩, R.kb.mono fun b hb => ⟨by rw [upT_old hb.2]; exact hb.1, by omega⟩, R.ko.mono fun b hb => ⟨by rw [upT_old hb.2]; exact hb.1, by omega⟩, fun c hc => upT_z en hc⟩
theorem FrS.up {S : Nat → Prop} {κ : Nat → Nat} {H H' : AHeap} (E : Ext H.next H H') (k : Nat) : FrS S κ H (upT κ H H' k) H' := ⟨E.next, fun c hc => ⟨upT_old hc, fun _ => E.old c hc⟩⟩
theorem RO.rset {κ : Nat → Nat} {H H' : AHeap} {r i : Nat} {bv out : AVal} {d : Bs} {p : Nat} {o : Bs} {most : Nat} {near far near2 far2 : AVal} (R : RO κ H r i bv out d p o most near far) (hr : Row H' r (rC i out most near2 far2)) (hn : H'.next = H.next) (e : ∀ c, c ≠ r → H'.get c = H.get c) : RO κ H' r i bv out d p o most near2 far2 ∧ FrS rS κ H κ H' := by
  have hki := R.ki
  have hkr := R.kr
  have ne : ∀ c, κ c ≠ 1 → c ≠ r := by rintro c hc rfl; exact hc hkr.1
  refine ⟨⟨hr, R.rd.same (by omega) (e i (ne i (by omega))) (R.kb.mono fun b hb => e b (ne b (by omega))), R.ap.same (by omega) (R.ko.mono fun b hb => e b (ne b (by omega))), ⟨hkr.1, by omega⟩, ⟨hki.1, by omega⟩, R.kb.mono fun b hb => by omega, R.ko.mono fun b hb => by omega, fun c hc => R.tz c (by omega)⟩, by omega, fun c _ => ⟨rfl, fun hc => e c (by rintro rfl; exact hc (.inl hkr.1))⟩⟩
def blockM (S : List Bool) (most F : Nat) (o : Bs) (p : Nat) : SR (Bs × Bool) := (getM 1 S p).bind fun last q => (getM 2 S q).bind fun k q2 =>
  if k = 0 then (storedM S most o q2).bind fun o2 q3 => .ok (o2, last == 0) q3
  else if k = 1 then (symsM S most F o q2).bind fun o2 q3 => .ok (o2, last == 0) q3
  else if k = 2 then .unk
  else .bad 10
theorem block7_ro {κ : Nat → Nat} {H : AHeap} {r i : Nat} {bv out : AVal} {d : Bs} {p F : Nat} {o : Bs} {most : Nat} {near far : AVal} (R : RO κ H r i bv out d p o most near far) (N : NF κ H near far) (hd : d.length ≤ 1000000) (hm : most ≤ 100000) (ho : o.length ≤ 100000) (hu : blockM (bitsB d) most F o p ≠ .unk) :
    ACalls Try.prog natI 1076 [cellR r 5 0] H fun w H' => ∃ κ', FrS rS κ H κ' H' ∧ ((∃ out2 o2 b q2 near2 far2, blockM (bitsB d) most F o p = .ok (o2, b) q2 ∧ w = .bool b ∧ o2.length ≤ 100000 ∧ RO κ' H' r i bv out2 d q2 o2 most near2 far2 ∧ NF κ' H' near2 far2) ∨ ∃ e, blockM (bitsB d) most F o p = .bad e ∧ w = fault e) := by
  refine acalls_ofE rfl za1076 rfl ?_
  have u1 : isU (argE [cellR r 5 0] 51) = true := rfl
  have u0 : isU (argE [cellR r 5 0] 50) = true := rfl
  simp only [c1076, sA, Int.reduceNegSucc, reduceCtorEq, Nat.reduceEqDiff, ↓reduceIte, Nat.reduceAdd, Int.reduceEq, Int.reduceLT, Int.reduceLE, Nat.reduceLT]
  refine (get_m R 1 (by omega) hd).mono ?_
  rintro _ H1 ⟨F1, ⟨last, q, e1, rfl, hla, R1, -, -⟩ | ⟨e1, rfl, rfl⟩⟩
  · simp only [sA, Int.reduceNegSucc, reduceCtorEq, Nat.reduceEqDiff, ↓reduceIte, Nat.reduceAdd, Int.reduceEq, Int.reduceLT, Int.reduceLE, Nat.reduceLT, pf_isP, isPan_int]
    refine (get_m R1 2 (by omega) hd).mono ?_
    rintro _ H2 ⟨F2, ⟨k, q2, e2, rfl, hk, R2, -, -⟩ | ⟨e2, rfl, rfl⟩⟩
    · have F12 := F1.trans F2
      have N2 := N.fr F12 rS5
      have hS : blockM (bitsB d) most F o p = if k = 0 then (storedM (bitsB d) most o q2).bind fun o2 q3 => .ok (o2, last == 0) q3
        else if k = 1 then (symsM (bitsB d) most F o q2).bind fun o2 q3 => .ok (o2, last == 0) q3
        else if k = 2 then .unk
        else .bad 10 := by
        unfold blockM; rw [e1]; simp only [SR.bind]; rw [e2]
      have hlb : decide ((last : Int) = 0) = (last == 0) := by
        by_cases h : last = 0
        · subst h; rfl
        · have : ¬ (last : Int) = 0 := by omega
          simp [h]
      by_cases h0 : k = 0
      · have h0' : (k : Int) = 0 := by omega
        rw [if_pos h0] at hS
        simp only [sA, Int.reduceNegSucc, reduceCtorEq, Nat.reduceEqDiff, ↓reduceIte, Nat.reduceAdd, Int.reduceEq, Int.reduceLT, Int.reduceLE, Nat.reduceLT, pf_isP, isPan_int, h0']
        refine (stored_ro R2 hd hm ho).mono ?_
        rintro _ H3 ⟨κ3, F3, ⟨out3, o3, q3, e3, rfl, hol, R3⟩ | ⟨e, e3, rfl⟩⟩
        · rw [e3] at hS
          simp only [sA, Int.reduceNegSucc, reduceCtorEq, Nat.reduceEqDiff, ↓reduceIte, Nat.reduceAdd, Int.reduceEq, Int.reduceLT, Int.reduceLE, Nat.reduceLT, pf_isP, isPan, hlb, pf_isU, u0, u1, pf_tup1]
          exact ⟨κ3, F12.trans F3, .inl ⟨out3, o3, last == 0, q3, near, far, hS, (by first | with_reducible rfl | trivial | rfl | assumption), hol, R3, N2.fr F3 rS5⟩⟩
        · rw [e3] at hS
          simp only [sA, Int.reduceNegSucc, reduceCtorEq, Nat.reduceEqDiff, ↓reduceIte, Nat.reduceAdd, Int.reduceEq, Int.reduceLT, Int.reduceLE, Nat.reduceLT, fault, pf_isP, isPan_pan, pf_isU, u0, u1, isU_pan]
          exact ⟨κ3, F12.trans F3, .inr ⟨e, hS, by rfl⟩⟩
      · have h0' : ¬ (k : Int) = 0 := by omega
        rw [if_neg h0] at hS
        by_cases h1 : k = 1
        · have h1' : (k : Int) = 1 := by omega
          rw [if_pos h1] at hS
          have hsu : symsM (bitsB d) most F o q2 ≠ .unk := fun e => hu (by rw [hS, e]; rfl)
          have l3 : oLoad false 1 H2 (cellR r 5 3) = some near := row_load R2.row rfl rfl
          have l4 : oLoad false 1 H2 (cellR r 5 4) = some far := row_load R2.row rfl rfl
          rcases N2 with rfl | ⟨c, c', rfl, rfl, TB⟩
          · have hkr := R2.kr
            simp only [sA, Int.reduceNegSucc, reduceCtorEq, Nat.reduceEqDiff, ↓reduceIte, Nat.reduceAdd, Int.reduceEq, Int.reduceLT, Int.reduceLE, Nat.reduceLT, pf_isP, isPan_int, h0', h1', nil_cell, fldA, l3, nil_nil]
            refine fixed_spec.mono ?_
            rintro _ H3 ⟨c, sv, c', sv', rfl, C1, C2, hcc, sb1, sb2, E3⟩
            have en := E3.next
            have R3 := R2.ext E3 5
            have F3 : FrS rS κ H2 (upT κ H2 H3 5) H3 := FrS.up E3 5
            have T3 : TBL (upT κ H2 H3 5) H3 c c' := ⟨sv, sv', C1, C2, ⟨upT_new (hcc c (.inl rfl)).1 (hcc c (.inl rfl)).2, (hcc c (.inl rfl)).2⟩, ⟨upT_new (hcc c' (.inr rfl)).1 (hcc c' (.inr rfl)).2, (hcc c' (.inr rfl)).2⟩, sb1.mono fun b hb => ⟨upT_new hb.1 hb.2, hb.2⟩, sb2.mono fun b hb => ⟨upT_new hb.1 hb.2, hb.2⟩⟩
            obtain ⟨H4, m4, r4, n4, o4⟩ := row_st R3.row (n := 5) rfl (i := 3) (by omega) (x := cellR c 18 0) rfl (l' := rC i out most (cellR c 18 0) far) rfl
            obtain ⟨R4, F4⟩ := R3.rset r4 n4 o4
            obtain ⟨H5, m5, r5, n5, o5⟩ := row_st R4.row (n := 5) rfl (i := 4) (by omega) (x := cellR c' 18 0) rfl (l' := rC i out most (cellR c 18 0) (cellR c' 18 0)) rfl
            obtain ⟨R5, F5⟩ := R4.rset r5 n5 o5
            have F35 := (F3.trans F4).trans F5
            have T5 : TBL (upT κ H2 H3 5) H5 c c' := T3.fr (F4.trans F5) rS5
            have l3' : oLoad false 1 H5 (cellR r 5 3) = some (cellR c 18 0) := row_load R5.row rfl rfl
            have l4' : oLoad false 1 H5 (cellR r 5 4) = some (cellR c' 18 0) := row_load R5.row rfl rfl
            simp only [sA, Int.reduceNegSucc, reduceCtorEq, Nat.reduceEqDiff, ↓reduceIte, Nat.reduceAdd, Int.reduceEq, Int.reduceLT, Int.reduceLE, Nat.reduceLT, ext_0, ext_1, nil_cell, fldA, m4, m5, l3', l4']
            refine (syms_ro R5 T5 hd hm ho hsu).mono ?_
            rintro _ H6 ⟨κ6, F6, ⟨out6, o6, q6, e6, rfl, hol, R6⟩ | ⟨e, e6, rfl⟩⟩
            · rw [e6] at hS
              simp only [sA, Int.reduceNegSucc, reduceCtorEq, Nat.reduceEqDiff, ↓reduceIte, Nat.reduceAdd, Int.reduceEq, Int.reduceLT, Int.reduceLE, Nat.reduceLT, pf_isP, isPan, hlb, pf_isU, u0, u1, pf_tup1]
              exact ⟨κ6, (F12.trans F35).trans F6, .inl ⟨out6, o6, last == 0, q6, _, _, hS, (by first | with_reducible rfl | trivial | rfl | assumption), hol, R6, .inr ⟨c, c', rfl, rfl, T5.fr F6 rS5⟩⟩⟩
            · rw [e6] at hS
              simp only [sA, Int.reduceNegSucc, reduceCtorEq, Nat.reduceEqDiff, ↓reduceIte, Nat.reduceAdd, Int.reduceEq, Int.reduceLT, Int.reduceLE, Nat.reduceLT, fault, pf_isP, isPan_pan, pf_isU, u0, u1, isU_pan]
              exact ⟨κ6, (F12.trans F35).trans F6, .inr ⟨e, hS, by rfl⟩⟩
          · simp only [sA, Int.reduceNegSucc, reduceCtorEq, Nat.reduceEqDiff, ↓reduceIte, Nat.reduceAdd, Int.reduceEq, Int.reduceLT, Int.reduceLE, Nat.reduceLT, pf_isP, isPan_int, h0', h1', nil_cell, fldA, l3, eq_ptr_nil, l4]
            refine (syms_ro R2 TB hd hm ho hsu).mono ?_
            rintro _ H6 ⟨κ6, F6, ⟨out6, o6, q6, e6, rfl, hol, R6⟩ | ⟨e, e6, rfl⟩⟩
            · rw [e6] at hS
              simp only [sA, Int.reduceNegSucc, reduceCtorEq, Nat.reduceEqDiff, ↓reduceIte, Nat.reduceAdd, Int.reduceEq, Int.reduceLT, Int.reduceLE, Nat.reduceLT, pf_isP, isPan, hlb, pf_isU, u0, u1, pf_tup1]
              exact ⟨κ6, F12.trans F6, .inl ⟨out6, o6, last == 0, q6, _, _, hS, (by first | with_reducible rfl | trivial | rfl | assumption), hol, R6, .inr ⟨c, c', rfl, rfl, TB.fr F6 rS5⟩⟩⟩
            · rw [e6] at hS
              simp only [sA, Int.reduceNegSucc, reduceCtorEq, Nat.reduceEqDiff, ↓reduceIte, Nat.reduceAdd, Int.reduceEq, Int.reduceLT, Int.reduceLE, Nat.reduceLT, fault, pf_isP, isPan_pan, pf_isU, u0, u1, isU_pan]
              exact ⟨κ6, F12.trans F6, .inr ⟨e, hS, by rfl⟩⟩
        · have h1' : ¬ (k : Int) = 1 := by omega
          rw [if_neg h1] at hS
          by_cases h2 : k = 2
          · rw [if_pos h2] at hS
            exact absurd hS hu
          · have h2' : ¬ (k : Int) = 2 := by omega
            rw [if_neg h2] at hS
            simp only [sA, Int.reduceNegSucc, reduceCtorEq, Nat.reduceEqDiff, ↓reduceIte, Nat.reduceAdd, Int.reduceEq, Int.reduceLT, Int.reduceLE, Nat.reduceLT, pf_isP, isPan_int, h0', h1', h2', pf_mkP, pf_isU, u0, u1, isU_pan]
            exact ⟨κ, F12, .inr ⟨10, hS, by rfl⟩⟩
    · have hS : blockM (bitsB d) most F o p = .bad 12 := by unfold blockM; rw [e1]; simp only [SR.bind]; rw [e2]
      simp only [sA, Int.reduceNegSucc, reduceCtorEq, Nat.reduceEqDiff, ↓reduceIte, Nat.reduceAdd, Int.reduceEq, Int.reduceLT, Int.reduceLE, Nat.reduceLT, fault, pf_isP, isPan_pan, pf_isU, u0, u1, isU_pan]
      exact ⟨κ, F1.trans F2, .inr ⟨12, hS, by rfl⟩⟩
  · have hS : blockM (bitsB d) most F o p = .bad 12 := by unfold blockM; rw [e1]; rfl
    simp only [sA, Int.reduceNegSucc, reduceCtorEq, Nat.reduceEqDiff, ↓reduceIte, Nat.reduceAdd, Int.reduceEq, Int.reduceLT, Int.reduceLE, Nat.reduceLT, fault, pf_isP, isPan_pan, pf_isU, u0, u1, isU_pan]
    exact ⟨κ, F1, .inr ⟨12, hS, by rfl⟩⟩
theorem dfd_ok {H : AHeap} {a b c : Nat} : ACalls Try.prog natI 2099 [cellR a 1 0, cellR b 1 0, cellR c 1 0, .nilIface] H fun _ H' => H = H' := by
  refine acalls_ofE rfl za2099 rfl ?_
  have ta : aPf (.tAss 100 true (.int .i64 0)) [.nilIface] = some (.tuple [.int .i64 0, .bool false]) := _root_.id rfl
  simp only [c2099, sA, Int.reduceNegSucc, reduceCtorEq, Nat.reduceEqDiff, ↓reduceIte, Nat.reduceAdd, Int.reduceEq, Int.reduceLT, Int.reduceLE, Nat.reduceLT, ta, ext_0, ext_1]
  exact ⟨[], rfl, rfl⟩
theorem dfd_fault {H : AHeap} {a b c e : Nat} {x y z : AVal} (ha : Row H a [x]) (hb : Row H b [y]) (hc : Row H c [z]) (hab : a ≠ b) (hac : a ≠ c) (hbc : b ≠ c) : ACalls Try.prog natI 2099 [cellR a 1 0, cellR b 1 0, cellR c 1 0, .iface 100 (.int .i64 (e : Int))] H fun _ H' => Row H' a [nilS] ∧ Row H' b [.int .i64 0] ∧ Row H' c [.int .i64 (e : Int)] ∧ H'.next = H.next ∧ ∀ k, k ≠ a → k ≠ b → k ≠ c → H'.get k = H.get k := by
  refine acalls_ofE rfl za2099 rfl ?_
  have ta : aPf (.tAss 100 true (.int .i64 0)) [.iface 100 (.int .i64 (e : Int))] = some (.tuple [.int .i64 (e : Int), .bool true]) := _root_.id rfl
  obtain ⟨H1, m1, r1, n1, o1⟩ := row_st ha (n := 1) rfl (i := 0) (by omega) (x := .slice none 0 (.known 0)) rfl (l' := [nilS]) rfl
  obtain ⟨H2, m2, r2, n2, o2⟩ := row_st (hb.same (o1 b (Ne.symm hab))) (n := 1) rfl (i := 0) (by omega) (x := .int .i64 0) rfl (l' := [.int .i64 0]) rfl
  obtain ⟨H3, m3, r3, n3, o3⟩ := row_st (hc.same (by rw [o2 c (Ne.symm hbc), o1 c (Ne.symm hac)])) (n := 1) rfl (i := 0) (by omega) (x := .int .i64 (e : Int)) rfl (l' := [.int .i64 (e : Int)]) rfl
  simp only [c2099, sA, Int.reduceNegSucc, reduceCtorEq, Nat.reduceEqDiff, ↓reduceIte, Nat.reduceAdd, Int.reduceEq, Int.reduceLT, Int.reduceLE, Nat.reduceLT, ta, ext_0, ext_1, m1, m2, m3]
  exact ⟨[], rfl, r1.same (by rw [o3 a hac, o2 a hab]), r2.same (o3 b hbc), r3, by omega, fun k h1 h2 h3 => by rw [o3 k h3, o2 k h2, o1 k h1]⟩
end Go.Proofs.Zi
namespace Go.Proofs.Zi
open Go.Abs Go.Abs.S
set_option linter.unusedSimpArgs false
def blocksM (S : List Bool) (most F : Nat) : Nat → Bs → Nat → SR Bs
  | 0, _, _ => .unk
  | f + 1, o, p => (blockM S most F o p).bind fun x q => if x.2 then blocksM S most F f x.1 q else .ok x.1 q
theorem pf_unP0 : aPf .unP [.tuple []] = some .nilIface := _root_.id rfl
theorem pf_unPf (x : AVal) : aPf .unP [panV x] = some x := _root_.id rfl
theorem pf_isF (x y z : AVal) : aPf (.isF 51 3) [.func (.func 51) [] [x, y, z]] = some (.bool true) := _root_.id rfl
theorem pf_capt0 (f : Fn) (x y z : AVal) : aPf (.capt 0) [.func f [] [x, y, z]] = some x := _root_.id rfl
theorem pf_capt1 (f : Fn) (x y z : AVal) : aPf (.capt 1) [.func f [] [x, y, z]] = some y := _root_.id rfl
theorem pf_capt2 (f : Fn) (x y z : AVal) : aPf (.capt 2) [.func f [] [x, y, z]] = some z := _root_.id rfl
theorem pf_dset (f : Nat) (a b : List AVal) : aPf .dset [.tuple [], .func (.func f) a b] = some (.func (.func f) a b) := _root_.id rfl
theorem pf_tup3 (x y z : AVal) : aPf .tup [x, y, z] = some (.tuple [x, y, z]) := _root_.id rfl
theorem isU_func (f : Fn) (a b : List AVal) : isU (.func f a b) = false := _root_.id rfl
theorem isPan_bool (b : Bool) : isPan (.bool b) = false := _root_.id rfl
theorem blocks_ro {κ : Nat → Nat} {H : AHeap} {r i : Nat} {bv out : AVal} {d : Bs} {p F G : Nat} {o : Bs} {most : Nat} {near far : AVal} (R : RO κ H r i bv out d p o most near far) (N : NF κ H near far) (hd : d.length ≤ 1000000) (hm : most ≤ 100000) (ho : o.length ≤ 100000) (hu : blocksM (bitsB d) most F G o p ≠ .unk) :
    ACalls Try.prog natI 33 [cellR r 5 0] H fun w H' => H.next ≤ H'.next ∧ (∀ c, c < H.next → ¬ rS (κ c) → H'.get c = H.get c) ∧ ((∃ out2 o2 q, blocksM (bitsB d) most F G o p = .ok o2 q ∧ w = .tuple [out2, .int .i64 (((q + 7) / 8 : Nat) : Int), .int .i64 0] ∧ Cel H'.next H' out2 (byts o2) ∧ Blk out2 fun b => H.next ≤ b ∨ κ b = 4) ∨ ∃ e, blocksM (bitsB d) most F G o p = .bad e ∧ w = .tuple [nilS, .int .i64 0, .int .i64 (e : Int)]) := by
  refine acalls_ofE rfl za33 rfl ?_
  obtain ⟨H1, m1, r1, n1, o1⟩ := row_new1 H (.slice none 0 (.known 0))
  obtain ⟨H2, m2, r2, n2, o2⟩ := row_new1 H1 (.int .i64 0)
  obtain ⟨H3, m3, r3, n3, o3⟩ := row_new1 H2 (.int .i64 0)
  obtain ⟨a, ha⟩ : ∃ a, a = H.next := ⟨_, rfl⟩
  obtain ⟨b, hb⟩ : ∃ b, b = H1.next := ⟨_, rfl⟩
  obtain ⟨c, hc⟩ : ∃ c, c = H2.next := ⟨_, rfl⟩
  rw [← ha] at m1 r1 o1
  rw [← hb] at m2 r2 o2
  rw [← hc] at m3 r3 o3
  have E3 : Ext H.next H H3 := ⟨by omega, fun x hx => by rw [o3 x (by omega), o2 x (by omega), o1 x (by omega)]⟩
  have R3 := R.ext E3 6
  have F3 : FrS rS κ H (upT κ H H3 6) H3 := FrS.up E3 6
  have N3 := N.fr F3 rS5
  have g20 : argE [cellR r 5 0] 20 = .tuple [] := rfl
  have g19 : argE [cellR r 5 0] 19 = .tuple [] := rfl
  have ka : upT κ H H3 6 a = 6 := upT_new (by omega) (by omega)
  have kb : upT κ H H3 6 b = 6 := upT_new (by omega) (by omega)
  have kc : upT κ H H3 6 c = 6 := upT_new (by omega) (by omega)
  have s6 : ¬ rS 6 := by unfold rS; omega
  have a3 : Row H3 a [.slice none 0 (.known 0)] := r1.same (by rw [o3 a (by omega), o2 a (by omega)])
  have b3 : Row H3 b [.int .i64 0] := r2.same (o3 b (by omega))
  generalize hκ : upT κ H H3 6 = κ3 at *
  have hout : Blk out fun x => H.next ≤ x ∨ κ x = 4 := R.ko.mono fun x hx => .inr hx.1
  simp only [c33, sA, Int.reduceNegSucc, reduceCtorEq, Nat.reduceEqDiff, ↓reduceIte, Nat.reduceAdd, Int.reduceEq, Int.reduceLT, Int.reduceLE, Nat.reduceLT, m1, m2, m3, g20, pf_dset]
  refine aw_loop (fun m (T : Env) H' => ∃ κ2 out2 o2 q near2 far2, T 0 = cellR r 5 0 ∧ T 2 = cellR a 1 0 ∧ T 3 = cellR b 1 0 ∧ T 4 = cellR c 1 0 ∧ T 19 = .tuple [] ∧ T 20 = .func (.func 51) [] [cellR a 1 0, cellR b 1 0, cellR c 1 0] ∧ o2.length ≤ 100000 ∧ blocksM (bitsB d) most F m o2 q = blocksM (bitsB d) most F G o p ∧ FrS rS κ3 H3 κ2 H' ∧ RO κ2 H' r i bv out2 d q o2 most near2 far2 ∧ NF κ2 H' near2 far2) G
    ⟨κ3, out, o, p, near, far, by simp only [sA, Int.reduceNegSucc, reduceCtorEq, Nat.reduceEqDiff, ↓reduceIte, Nat.reduceAdd, Int.reduceEq, Int.reduceLT, Int.reduceLE, Nat.reduceLT], by simp only [sA, Int.reduceNegSucc, reduceCtorEq, Nat.reduceEqDiff, ↓reduceIte, Nat.reduceAdd, Int.reduceEq, Int.reduceLT, Int.reduceLE, Nat.reduceLT], by simp only [sA, Int.reduceNegSucc, reduceCtorEq, Nat.reduceEqDiff, ↓reduceIte, Nat.reduceAdd, Int.reduceEq, Int.reduceLT, Int.reduceLE, Nat.reduceLT], by simp only [sA, Int.reduceNegSucc, reduceCtorEq, Nat.reduceEqDiff, ↓reduceIte, Nat.reduceAdd, Int.reduceEq, Int.reduceLT, Int.reduceLE, Nat.reduceLT], by simp only [sA, Int.reduceNegSucc, reduceCtorEq, Nat.reduceEqDiff, ↓reduceIte, Nat.reduceAdd, Int.reduceEq, Int.reduceLT, Int.reduceLE, Nat.reduceLT]; exact g19, by simp only [sA, Int.reduceNegSucc, reduceCtorEq, Nat.reduceEqDiff, ↓reduceIte, Nat.reduceAdd, Int.reduceEq, Int.reduceLT, Int.reduceLE, Nat.reduceLT], ho, rfl, FrS.refl _ _ _, R3, N3⟩ ?_
  rintro m T H4 ⟨κ4, out4, p4, q4, near4, far4, g0, g2, g3, g4, g19, g20, hol, hM, F4, R4, N4⟩
  cases m with
  | zero => exact absurd hM.symm hu
  | succ m =>
  have hM' := hM
  rw [← hM] at hu
  have hbu : blockM (bitsB d) most F p4 q4 ≠ .unk := fun e => hu (by simp only [blocksM, e, SR.bind])
  have fn := F4.1
  have cells : ∀ {κ5 : Nat → Nat} {H5 : AHeap}, FrS rS κ3 H3 κ5 H5 → Row H5 a [.slice none 0 (.known 0)] ∧ Row H5 b [.int .i64 0] ∧ Row H5 c [.int .i64 0] := fun f =>
    ⟨a3.same ((f.2 a (by omega)).2 (by rw [ka]; exact s6)), b3.same ((f.2 b (by omega)).2 (by rw [kb]; exact s6)), r3.same ((f.2 c (by omega)).2 (by rw [kc]; exact s6))⟩
  have old : ∀ {κ5 : Nat → Nat} {H5 : AHeap}, FrS rS κ3 H3 κ5 H5 → ∀ x, x < H.next → ¬ rS (κ x) → H5.get x = H.get x := fun f x hx hs => by
    have e1 := F3.2 x hx
    rw [(f.2 x (by omega)).2 (by rw [e1.1]; exact hs), e1.2 hs]
  simp only [sA, Int.reduceNegSucc, reduceCtorEq, Nat.reduceEqDiff, ↓reduceIte, Nat.reduceAdd, Int.reduceEq, Int.reduceLT, Int.reduceLE, Nat.reduceLT, g0]
  refine (block7_ro R4 N4 hd hm hol hbu).mono ?_
  rintro _ H5 ⟨κ5, F5, ⟨out5, p5, bb, q5, near5, far5, e5, rfl, hol5, R5, N5⟩ | ⟨e, e5, rfl⟩⟩
  · have hS : blocksM (bitsB d) most F (m + 1) p4 q4 = if bb then blocksM (bitsB d) most F m p5 q5 else .ok p5 q5 := by
      simp only [blocksM, e5, SR.bind]
    have F45 := F4.trans F5
    cases bb with
    | true =>
      simp only [sA, Int.reduceNegSucc, reduceCtorEq, Nat.reduceEqDiff, ↓reduceIte, Nat.reduceAdd, Int.reduceEq, Int.reduceLT, Int.reduceLE, Nat.reduceLT, pf_isP, isPan_bool, g0]
      exact ⟨m, by omega, κ5, out5, p5, q5, near5, far5, (by first | with_reducible rfl | trivial | rfl | assumption), (by first | with_reducible rfl | trivial | rfl | assumption), (by first | with_reducible rfl | trivial | rfl | assumption), (by first | with_reducible rfl | trivial | rfl | assumption), (by first | with_reducible rfl | trivial | rfl | assumption), (by first | with_reducible rfl | trivial | rfl | assumption), hol5, by rw [← hM', hS]; rfl, F45, R5, N5⟩
    | false =>
      have hS' : blocksM (bitsB d) most F G o p = .ok p5 q5 := by rw [← hM', hS]; rfl
      obtain ⟨ra, rb, rc⟩ := cells F45
      have l0 : oLoad false 1 H5 (cellR r 5 0) = some (cellR i 3 0) := row_load R5.row rfl rfl
      have l1 : oLoad false 1 H5 (cellR r 5 1) = some out5 := row_load R5.row rfl rfl
      have hq := R5.rd.le
      have wq : IntKind.i64.wrap ((q5 : Int) + 7) = ((q5 + 7 : Nat) : Int) := wrapN q5 7 (by omega)
      have qd : aBin .quo (.int .i64 ((q5 + 7 : Nat) : Int)) (.int .i64 8) = some (.int .i64 (((q5 + 7) / 8 : Nat) : Int)) := quo64 (q5 + 7) 8 (by omega) (by omega)
      obtain ⟨H6, m6, r6, n6, o6⟩ := row_st ra (n := 1) rfl (i := 0) (by omega) (x := out5) (app_one R5.ap) (l' := [out5]) rfl
      obtain ⟨H7, m7, r7, n7, o7⟩ := row_st (rb.same (o6 b (by omega))) (n := 1) rfl (i := 0) (by omega) (x := .int .i64 (((q5 + 7) / 8 : Nat) : Int)) rfl (l' := [.int .i64 (((q5 + 7) / 8 : Nat) : Int)]) rfl
      obtain ⟨H8, m8, r8, n8, o8⟩ := row_st (rc.same (by rw [o7 c (by omega), o6 c (by omega)])) (n := 1) rfl (i := 0) (by omega) (x := .int .i64 0) rfl (l' := [.int .i64 0]) rfl
      have la : oLoad false 1 H8 (cellR a 1 0) = some out5 := row_load (r6.same (by rw [o8 a (by omega), o7 a (by omega)])) rfl rfl
      have lb : oLoad false 1 H8 (cellR b 1 0) = some (.int .i64 (((q5 + 7) / 8 : Nat) : Int)) := row_load (r7.same (o8 b (by omega))) rfl rfl
      have lc : oLoad false 1 H8 (cellR c 1 0) = some (.int .i64 0) := row_load r8 rfl rfl
      simp only [sA, Int.reduceNegSucc, reduceCtorEq, Nat.reduceEqDiff, ↓reduceIte, Nat.reduceAdd, Int.reduceEq, Int.reduceLT, Int.reduceLE, Nat.reduceLT, pf_isP, isPan_bool, g0]
      refine aw_drawC rfl ?_
      simp only [sR, sA, Int.reduceNegSucc, reduceCtorEq, Nat.reduceEqDiff, ↓reduceIte, Nat.reduceAdd, Int.reduceEq, Int.reduceLT, Int.reduceLE, Nat.reduceLT, g0, g2, g3, g4, nil_cell, fldA, fld0, l0, l1]
      refine (at_spec R5.rd).mono ?_
      rintro _ _ ⟨rfl, rfl⟩
      simp only [sR, sA, Int.reduceNegSucc, reduceCtorEq, Nat.reduceEqDiff, ↓reduceIte, Nat.reduceAdd, Int.reduceEq, Int.reduceLT, Int.reduceLE, Nat.reduceLT, g0, g2, g3, g4, wq, qd, m6, m7, m8]
      simp only [ck_nil', ck_cons, ckP_load, ckP_nil, ck_end, and_true, true_and, List.map_cons, List.map_nil, sA, Int.reduceNegSucc, reduceCtorEq, Nat.reduceEqDiff, ↓reduceIte, Nat.reduceAdd, Int.reduceEq, Int.reduceLT, Int.reduceLE, Nat.reduceLT, g0, fldA, fld0]
      refine ⟨⟨_, rfl, fun _ => ⟨_, l1, app_aeq R5.ap⟩⟩, ?_⟩
      simp only [sA, Int.reduceNegSucc, reduceCtorEq, Nat.reduceEqDiff, ↓reduceIte, Nat.reduceAdd, Int.reduceEq, Int.reduceLT, Int.reduceLE, Nat.reduceLT, g2, g3, g4, g19, g20, pf_isU, isU_func, pf_unP0, pf_isF, pf_capt0, pf_capt1, pf_capt2]
      refine dfd_ok.mono ?_
      rintro _ _ rfl
      simp only [sA, Int.reduceNegSucc, reduceCtorEq, Nat.reduceEqDiff, ↓reduceIte, Nat.reduceAdd, Int.reduceEq, Int.reduceLT, Int.reduceLE, Nat.reduceLT, g2, g3, g4, la, lb, lc, pf_tup3]
      have f5 := F45.1
      have hblk : Blk out5 fun x => (κ5 x = 4 ∧ x < H5.next) := R5.ko
      have hne : ∀ x, κ5 x = 4 → x < H5.next → x ≠ a ∧ x ≠ b ∧ x ≠ c := fun x hx hl => by
        have h1 := (F45.2 a (by omega)).1
        have h2 := (F45.2 b (by omega)).1
        have h3 := (F45.2 c (by omega)).1
        refine ⟨?_, ?_, ?_⟩ <;> (rintro rfl; omega)
      refine ⟨by omega, fun x hx hs => by rw [o8 x (by omega), o7 x (by omega), o6 x (by omega)]; exact old F45 x hx hs, .inl ⟨out5, p5, q5, hS', (by first | with_reducible rfl | trivial | rfl | assumption), ?_, hblk.mono fun x hx => ?_⟩⟩
      · have A8 := R5.ap.same (H' := H8) (by omega) (hblk.mono fun x hx => by
          obtain ⟨h1, h2, h3⟩ := hne x hx.1 hx.2
          rw [o8 x h3, o7 x h2, o6 x h1])
        exact A8.cel1 A8.blk'
      · by_cases hx2 : x < H.next
        · right
          have e1 := (F3.2 x hx2).1
          have e2 := (F45.2 x (by omega)).1
          omega
        · left; omega
  · have hS' : blocksM (bitsB d) most F G o p = .bad e := by rw [← hM']; simp only [blocksM, e5, SR.bind]
    have F45 := F4.trans F5
    obtain ⟨ra, rb, rc⟩ := cells F45
    have f5 := F45.1
    simp only [sA, Int.reduceNegSucc, reduceCtorEq, Nat.reduceEqDiff, ↓reduceIte, Nat.reduceAdd, Int.reduceEq, Int.reduceLT, Int.reduceLE, Nat.reduceLT, fault, pf_isP, isPan_pan, g2, g3, g4, g19, g20, pf_isU, isU_func, isU_pan, pf_unPf, pf_isF, pf_capt0, pf_capt1, pf_capt2]
    refine (dfd_fault ra rb rc (by omega) (by omega) (by omega)).mono ?_
    rintro _ H6 ⟨qa, qb, qc, n6, o6⟩
    have la : oLoad false 1 H6 (cellR a 1 0) = some nilS := row_load qa rfl rfl
    have lb : oLoad false 1 H6 (cellR b 1 0) = some (.int .i64 0) := row_load qb rfl rfl
    have lc : oLoad false 1 H6 (cellR c 1 0) = some (.int .i64 (e : Int)) := row_load qc rfl rfl
    simp only [sA, Int.reduceNegSucc, reduceCtorEq, Nat.reduceEqDiff, ↓reduceIte, Nat.reduceAdd, Int.reduceEq, Int.reduceLT, Int.reduceLE, Nat.reduceLT, g2, g3, g4, la, lb, lc, pf_tup3]
    exact ⟨by omega, fun x hx hs => by rw [o6 x (by omega) (by omega) (by omega)]; exact old F45 x hx hs, .inr ⟨e, hS', (by first | with_reducible rfl | trivial | rfl | assumption)⟩⟩
end Go.Proofs.Zi
namespace Go.Proofs.Zi
open Go.Abs Go.Abs.S
set_option linter.unusedSimpArgs false
theorem inflate_spec {n : Nat} {H : AHeap} {v : AVal} {d : Bs} {most F G : Nat} (hv : Cel n H v (byts d)) (hd : d.length ≤ 1000000) (hm : most ≤ 100000) (hu : blocksM (bitsB d) most F G [] 0 ≠ .unk) :
    ACalls Try.prog natI 14 [v, .int .i64 (most : Int)] H fun w H' => Ext H.next H H' ∧ ((∃ out o q, blocksM (bitsB d) most F G [] 0 = .ok o q ∧ w = .tuple [out, .int .i64 (((q + 7) / 8 : Nat) : Int), .int .i64 0] ∧ Cel H'.next H' out (byts o)) ∨ ∃ e, blocksM (bitsB d) most F G [] 0 = .bad e ∧ w = .tuple [nilS, .int .i64 0, .int .i64 (e : Int)]) := by
  refine acalls_ofN rfl za14 rfl ?_
  simp only [c14, sA, Int.reduceNegSucc, reduceCtorEq, Nat.reduceEqDiff, ↓reduceIte, Nat.reduceAdd, Int.reduceEq, Int.reduceLT, Int.reduceLE, Nat.reduceLT]
  refine (rdnew_spec hv hd).mono ?_
  rintro _ H1 ⟨i, bv, rfl, D1, hi, hb, E1⟩
  have e1 := E1.next
  have hil := D1.lt
  obtain ⟨r, hr⟩ : ∃ r, r = H1.next := ⟨_, rfl⟩
  obtain ⟨H2, m2, r2, n2, o2⟩ := row_newL H1 [.ptr none, .slice none 0 (.known 0), .int .i64 0, .ptr none, .ptr none] (n := 5) rfl
  rw [← hr] at m2 r2 o2
  have bd : aBuild [.ptr none, .slice none 0 (.known 0), .int .i64 0, .ptr none, .ptr none] [(0, 1, cellR i 3 0), (2, 1, .int .i64 (most : Int))] = some (.agg (rC i nilS most (.ptr none) (.ptr none))) := _root_.id rfl
  obtain ⟨H3, m3, r3, n3, o3⟩ := row_storeN r2 (n := 5) rfl (xs := rC i nilS most (.ptr none) (.ptr none)) rfl rfl
  have D3 : RD H3 i bv d 0 := D1.same (by omega) (by rw [o3 i (by omega), o2 i (by omega)]) ((cel_blk D1.cel).mono fun c hc => by rw [o3 c (by omega), o2 c (by omega)])
  have R3 : RO (fun c => if c = r then 1 else if c = i then 2 else if H.next ≤ c ∧ c < H1.next then 3 else 0) H3 r i bv nilS d 0 [] most (.ptr none) (.ptr none) := by
    refine ⟨r3, D3, AppN.nil _ _ _, ⟨if_pos rfl, by omega⟩, ⟨by rw [if_neg (by omega), if_pos rfl], by omega⟩, ((hb.and D1.ne).and (cel_blk D1.cel)).mono fun c hc => ⟨by rw [if_neg (by omega), if_neg hc.1.2, if_pos ⟨hc.1.1, hc.2⟩], by omega⟩, blk_nil _, fun c hc => by rw [if_neg (by omega), if_neg (by omega), if_neg (by omega)]⟩
  simp only [sA, Int.reduceNegSucc, reduceCtorEq, Nat.reduceEqDiff, ↓reduceIte, Nat.reduceAdd, Int.reduceEq, Int.reduceLT, Int.reduceLE, Nat.reduceLT, m2, bd, m3]
  refine (blocks_ro R3 (.inl rfl) hd hm (Nat.zero_le _) hu).mono ?_
  rintro _ H4 ⟨n4, o4, h4⟩
  have E4 : Ext H.next H H4 := ⟨by omega, fun c hc => by
    rw [o4 c (by omega) (by rw [if_neg (by omega), if_neg (by omega), if_neg (by omega)]; exact rS0), o3 c (by omega), o2 c (by omega)]
    exact E1.old c hc⟩
  rcases h4 with ⟨out, o, q, hM, rfl, hC, -⟩ | ⟨e, hM, rfl⟩
  · simp only [sA, Int.reduceNegSucc, reduceCtorEq, Nat.reduceEqDiff, ↓reduceIte, Nat.reduceAdd, Int.reduceEq, Int.reduceLT, Int.reduceLE, Nat.reduceLT, ext_0, ext_1, ext_2]
    exact ⟨E4, .inl ⟨out, o, q, hM, (by first | with_reducible rfl | trivial | rfl | assumption), hC⟩⟩
  · simp only [sA, Int.reduceNegSucc, reduceCtorEq, Nat.reduceEqDiff, ↓reduceIte, Nat.reduceAdd, Int.reduceEq, Int.reduceLT, Int.reduceLE, Nat.reduceLT, ext_0, ext_1, ext_2]
    exact ⟨E4, .inr ⟨e, hM, (by first | with_reducible rfl | trivial | rfl | assumption)⟩⟩
end Go.Proofs.Zi
namespace Go.Proofs.Zi
open Go.Abs Go.Abs.S
set_option linter.unusedSimpArgs false
def Loc {α : Type} (g : List Bool → SR α) (S : List Bool) (p q : Nat) (a : α) : Prop := p ≤ q ∧ ∀ n, (q ≤ n → g (S.take n) = .ok a q) ∧ (p ≤ n → n < q → g (S.take n) = .bad 12)
theorem Loc.bind {α β : Type} {g : List Bool → SR α} {h : List Bool → α → Nat → SR β} {S : List Bool} {p q q' : Nat} {a : α} {b : β} (h1 : Loc g S p q a) (h2 : Loc (fun S => h S a q) S q q' b) : Loc (fun S => (g S).bind (h S)) S p q' b := by
  obtain ⟨k1, k2⟩ := h1
  obtain ⟨k3, k4⟩ := h2
  refine ⟨Nat.le_trans k1 k3, fun n => ⟨fun hn => ?_, fun hp hn => ?_⟩⟩
  · show (g (S.take n)).bind (h (S.take n)) = _
    rw [(k2 n).1 (by omega)]
    exact (k4 n).1 hn
  · show (g (S.take n)).bind (h (S.take n)) = _
    by_cases hq : n < q
    · rw [(k2 n).2 hp hq]; rfl
    · rw [(k2 n).1 (by omega)]
      exact (k4 n).2 (by omega) hn
theorem Loc.pure {α : Type} (S : List Bool) (p : Nat) (a : α) : Loc (fun _ => .ok a p) S p p a := ⟨Nat.le_refl _, fun _ => ⟨fun _ => rfl, fun h1 h2 => by omega⟩⟩
theorem Loc.congr {α : Type} {g g' : List Bool → SR α} {S : List Bool} {p q : Nat} {a : α} (h : Loc g S p q a) (e : ∀ T, g' T = g T) : Loc g' S p q a := ⟨h.1, fun n => by rw [e]; exact h.2 n⟩
theorem getM_loc {k : Nat} {S : List Bool} {p0 p v q : Nat} (h : getM k S p = .ok v q) (h0 : p0 ≤ p) : q = p + k ∧ Loc (fun S => getM k S p) S p0 q v := by
  unfold getM at h
  split at h
  · rename_i hl
    injection h with h1 h2
    subst h2
    refine ⟨rfl, by omega, fun n => ⟨fun hn => ?_, fun _ hn => ?_⟩⟩
    · show (if p + k ≤ (S.take n).length then SR.ok (natOf (((S.take n).drop p).take k)) (p + k) else .bad 12) = _
      rw [if_pos (by rw [List.length_take]; omega), List.drop_take, List.take_take, Nat.min_eq_left (by omega), h1]
    · show (if p + k ≤ (S.take n).length then SR.ok (natOf (((S.take n).drop p).take k)) (p + k) else .bad 12) = _
      rw [if_neg (by rw [List.length_take]; omega)]
  · cases h
theorem symM_loc {cnt syms : List Nat} {S : List Bool} : ∀ (f long code first at_ p s q : Nat), symM cnt syms S f long code first at_ p = .ok s q → Loc (fun S => symM cnt syms S f long code first at_ p) S p q s ∧ p < q
  | 0, _, _, _, _, _, _, _, h => by cases h
  | f + 1, long, code, first, at_, p, s, q, h => by
    unfold symM at h
    cases hc : S[p]? with
    | none => rw [hc] at h; cases h
    | some c =>
      rw [hc] at h
      simp only at h
      have hpl := (List.getElem?_eq_some_iff.1 hc).1
      have e1 : ∀ n, p < n → (S.take n)[p]? = some c := fun n hn => by rw [List.getElem?_take_of_lt hn]; exact hc
      have e2 : ∀ n, n ≤ p → (S.take n)[p]? = none := fun n hn => List.getElem?_eq_none (by rw [List.length_take]; omega)
      have short : ∀ n, p ≤ n → n < p + 1 → symM cnt syms (S.take n) (f + 1) long code first at_ p = .bad 12 := fun n h1 h2 => by
        unfold symM; rw [e2 n (by omega)]
      obtain ⟨cc, hcc⟩ : ∃ x, x = 2 * code + (if c then 1 else 0) := ⟨_, rfl⟩
      rw [← hcc] at h
      by_cases c1 : cc < 2 * first
      · rw [if_pos c1] at h; cases h
      rw [if_neg c1] at h
      by_cases c2 : cc - 2 * first < cnt.getD long 0
      · rw [if_pos c2] at h
        cases hs : syms[at_ + (cc - 2 * first)]? with
        | none => rw [hs] at h; cases h
        | some sy =>
          rw [hs] at h
          injection h with h1 h2
          subst h2 h1
          refine ⟨⟨by omega, fun n => ⟨fun hn => ?_, fun h1 h2 => short n h1 h2⟩⟩, by omega⟩
          show symM cnt syms (S.take n) (f + 1) long code first at_ p = _
          unfold symM
          rw [e1 n (by omega)]
          simp only
          rw [← hcc, if_neg c1, if_pos c2, hs]
      · rw [if_neg c2] at h
        obtain ⟨⟨k1, k2⟩, k3⟩ := symM_loc f _ _ _ _ _ _ _ h
        have step : ∀ n, p < n → symM cnt syms (S.take n) (f + 1) long code first at_ p = symM cnt syms (S.take n) f (long + 1) cc (2 * first + cnt.getD long 0) (at_ + cnt.getD long 0) (p + 1) := fun n hn => by
          rw [symM, e1 n hn]
          simp only
          rw [← hcc, if_neg c1, if_neg c2]
        refine ⟨⟨by omega, fun n => ⟨fun hn => ?_, fun h1 h2 => ?_⟩⟩, by omega⟩
        · show symM cnt syms (S.take n) (f + 1) long code first at_ p = _
          rw [step n (by omega)]; exact (k2 n).1 hn
        · show symM cnt syms (S.take n) (f + 1) long code first at_ p = _
          by_cases hn : n ≤ p
          · exact short n h1 (by omega)
          · rw [step n (by omega)]; exact (k2 n).2 (by omega) h2
theorem spanM_loc {sp gr : Nat} {S : List Bool} {p s q : Nat} (h : spanM sp gr S p = .ok s q) : Loc (fun S => spanM sp gr S p) S p q s := by
  unfold spanM at h
  by_cases hs : sp < gr
  · rw [if_pos hs] at h
    injection h with h1 h2
    subst h1 h2
    exact (Loc.pure S p sp).congr fun T => by unfold spanM; rw [if_pos hs]
  · rw [if_neg hs] at h
    split at h
    · rename_i hl
      injection h with h1 h2
      subst h2
      obtain ⟨e, he⟩ : ∃ e, e = sp / gr - 1 := ⟨_, rfl⟩
      rw [← he] at hl h1 ⊢
      refine ⟨by omega, fun n => ⟨fun hn => ?_, fun _ hn => ?_⟩⟩
      · show spanM sp gr (S.take n) p = _
        unfold spanM
        rw [if_neg hs, ← he, if_pos (by rw [List.length_take]; omega), List.drop_take, List.take_take, Nat.min_eq_left (by omega), h1]
      · show spanM sp gr (S.take n) p = _
        unfold spanM
        rw [if_neg hs, ← he, if_neg (by rw [List.length_take]; omega)]
    · cases h
theorem lenM_loc {sp : Nat} {S : List Bool} {p s q : Nat} (h : lenM sp S p = .ok s q) : Loc (fun S => lenM sp S p) S p q s := by
  unfold lenM at h
  split at h
  · rename_i hs
    obtain ⟨a, q1, e1, e2⟩ := SR.bind_ok h
    injection e2 with e3 e4
    subst e3 e4
    exact ((spanM_loc e1).bind (h := fun _ s q => .ok (3 + s) q) (Loc.pure S q1 (3 + a))).congr fun T => by unfold lenM; rw [if_pos hs]
  · rename_i hs
    injection h with h1 h2
    subst h1 h2
    exact (Loc.pure S p 258).congr fun T => by unfold lenM; rw [if_neg hs]
theorem matchR_loc {S : List Bool} {most long : Nat} {o o2 : Bs} {p q : Nat} (h : matchR S most long o p = .ok o2 q) : Loc (fun S => matchR S most long o p) S p q o2 := by
  obtain ⟨s, a, k, e1, hs, e2, hk, hm, rfl⟩ := matchR_ok h
  have L1 : Loc (fun S => farM S p) S p a s := (symM_loc _ _ _ _ _ _ _ _ e1).1
  have L2 := (spanM_loc e2).bind (h := fun _ k q3 => if o.length < 1 + k then .bad 10 else if most < o.length + long then .bad 3 else .ok (copyB (1 + k) long o) q3) (b := copyB (1 + k) long o) (q' := q) ((Loc.pure S q (copyB (1 + k) long o)).congr fun T => by
    show (if o.length < 1 + k then SR.bad 10 else if most < o.length + long then SR.bad 3 else SR.ok (copyB (1 + k) long o) q) = _
    rw [if_neg (by omega), if_neg (by omega)])
  exact L1.bind (h := fun S s q2 => if 30 ≤ s then .bad 10 else (spanM s 2 S q2).bind fun k q3 => if o.length < 1 + k then .bad 10 else if most < o.length + long then .bad 3 else .ok (copyB (1 + k) long o) q3) (L2.congr fun T => by
    show (if 30 ≤ s then SR.bad 10 else _) = _
    rw [if_neg (by omega)])
theorem matchM_loc {S : List Bool} {most sp : Nat} {o o2 : Bs} {p q : Nat} (h : matchM S most sp o p = .ok o2 q) : Loc (fun S => matchM S most sp o p) S p q o2 := by
  obtain ⟨long, a, e1, e2⟩ := matchM_ok h
  exact (lenM_loc e1).bind (h := fun S long q => matchR S most long o q) (matchR_loc e2)
theorem symsM_loc {S : List Bool} {most : Nat} : ∀ (f : Nat) (o o2 : Bs) (p q : Nat), symsM S most f o p = .ok o2 q → Loc (fun S => symsM S most f o p) S p q o2
  | 0, _, _, _, _, h => by cases h
  | f + 1, o, o2, p, q, h => by
    unfold symsM at h
    obtain ⟨s, a, e1, h⟩ := SR.bind_ok h
    have L1 : Loc (fun S => nearM S p) S p a s := (symM_loc _ _ _ _ _ _ _ _ e1).1
    refine L1.bind (h := fun S s q => if s < 256 then (if most < o.length + 1 then .bad 3 else symsM S most f (o ++ [UInt8.ofNat s]) q) else if s = 256 then .ok o q else if s < 286 then (matchM S most (s - 257) o q).bind fun o2 q2 => symsM S most f o2 q2 else .bad 10) ?_
    by_cases h1 : s < 256
    · rw [if_pos h1] at h
      split at h
      · cases h
      rename_i hr
      exact (symsM_loc f _ _ _ _ h).congr fun T => by simp only [if_pos h1, if_neg hr]
    · rw [if_neg h1] at h
      by_cases h2 : s = 256
      · rw [if_pos h2] at h
        injection h with k1 k2
        subst k1 k2
        exact (Loc.pure S a o).congr fun T => by simp only [if_neg h1, if_pos h2]
      · rw [if_neg h2] at h
        by_cases h3 : s < 286
        · rw [if_pos h3] at h
          obtain ⟨o3, q3, e3, e4⟩ := SR.bind_ok h
          exact ((matchM_loc e3).bind (h := fun S o2 q2 => symsM S most f o2 q2) (symsM_loc f _ _ _ _ e4)).congr fun T => by simp only [if_neg h1, if_neg h2, if_pos h3]
        · rw [if_neg h3] at h; cases h
theorem bytesM_loc {S : List Bool} : ∀ (n : Nat) (o o2 : Bs) (p q : Nat), bytesM S n o p = .ok o2 q → Loc (fun S => bytesM S n o p) S p q o2 ∧ o2.length = o.length + n
  | 0, o, o2, p, q, h => by
    injection h with k1 k2
    subst k1 k2
    exact ⟨Loc.pure S p o, rfl⟩
  | n + 1, o, o2, p, q, h => by
    unfold bytesM at h
    obtain ⟨x, a, e1, h⟩ := SR.bind_ok h
    obtain ⟨L, hl⟩ := bytesM_loc n _ _ _ _ h
    exact ⟨(getM_loc e1 (Nat.le_refl p)).2.bind (h := fun S x q' => bytesM S n (o ++ [UInt8.ofNat x]) q') L, by rw [hl, List.length_append]; simp; omega⟩
theorem storedM_ok {S : List Bool} {most : Nat} {o o2 : Bs} {p q : Nat} (h : storedM S most o p = .ok o2 q) : ∃ n a m c, getM 16 S (p + fillN p) = .ok n a ∧ getM 16 S a = .ok m c ∧ m = 65535 - n ∧ o.length + n ≤ most ∧ bytesM S n o c = .ok o2 q := by
  unfold storedM at h
  obtain ⟨n, a, e1, h⟩ := SR.bind_ok h
  obtain ⟨m, c, e2, h⟩ := SR.bind_ok h
  split at h
  · cases h
  rename_i hm
  split at h
  · cases h
  exact ⟨n, a, m, c, e1, e2, by omega, by omega, h⟩
theorem blockM_ok {S : List Bool} {most F : Nat} {o o2 : Bs} {b : Bool} {p q : Nat} (h : blockM S most F o p = .ok (o2, b) q) : ∃ last a k c, getM 1 S p = .ok last a ∧ getM 2 S a = .ok k c ∧ b = (last == 0) ∧ ((k = 0 ∧ storedM S most o c = .ok o2 q) ∨ (k = 1 ∧ symsM S most F o c = .ok o2 q)) := by
  unfold blockM at h
  obtain ⟨last, a, e1, h⟩ := SR.bind_ok h
  obtain ⟨k, c, e2, h⟩ := SR.bind_ok h
  by_cases h0 : k = 0
  · rw [if_pos h0] at h
    obtain ⟨o3, q3, e3, h⟩ := SR.bind_ok h
    injection h with k1 k2
    injection k1 with k3 k4
    subst k2 k3 k4
    exact ⟨last, a, k, c, e1, e2, rfl, .inl ⟨h0, e3⟩⟩
  · rw [if_neg h0] at h
    by_cases h1 : k = 1
    · rw [if_pos h1] at h
      obtain ⟨o3, q3, e3, h⟩ := SR.bind_ok h
      injection h with k1 k2
      injection k1 with k3 k4
      subst k2 k3 k4
      exact ⟨last, a, k, c, e1, e2, rfl, .inr ⟨h1, e3⟩⟩
    · rw [if_neg h1] at h
      split at h <;> cases h
def Less (x x' : SR Bs) (m : Nat) : Prop := ∀ o q, x = .ok o q → if o.length ≤ m then x' = .ok o q else x' = .bad 3
theorem matchR_less {S : List Bool} {most long m : Nat} {o : Bs} {p : Nat} : Less (matchR S most long o p) (matchR S m long o p) m ∧ ∀ o2 q, matchR S most long o p = .ok o2 q → o.length ≤ o2.length := by
  refine ⟨fun o2 q h => ?_, fun o2 q h => ?_⟩
  · obtain ⟨s, a, k, e1, hs, e2, hk, hm, rfl⟩ := matchR_ok h
    rw [copyB_len]
    have : matchR S m long o p = if m < o.length + long then .bad 3 else .ok (copyB (1 + k) long o) q := by
      unfold matchR; rw [e1]; simp only [SR.bind]; rw [if_neg (by omega), e2]; simp only; rw [if_neg (by omega)]
    rw [this]
    split
    · rw [if_neg (by omega)]
    · rw [if_pos (by omega)]
  · obtain ⟨s, a, k, e1, hs, e2, hk, hm, rfl⟩ := matchR_ok h
    rw [copyB_len]; omega
theorem matchM_less {S : List Bool} {most sp m : Nat} {o : Bs} {p : Nat} : Less (matchM S most sp o p) (matchM S m sp o p) m ∧ ∀ o2 q, matchM S most sp o p = .ok o2 q → o.length ≤ o2.length := by
  refine ⟨fun o2 q h => ?_, fun o2 q h => ?_⟩
  · obtain ⟨long, a, e1, e2⟩ := matchM_ok h
    have : matchM S m sp o p = matchR S m long o a := by unfold matchM; rw [e1]; rfl
    rw [this]
    exact matchR_less.1 o2 q e2
  · obtain ⟨long, a, e1, e2⟩ := matchM_ok h
    exact (matchR_less (m := 0)).2 o2 q e2
theorem symsM_grow {S : List Bool} {most : Nat} : ∀ (f : Nat) (o o2 : Bs) (p q : Nat), symsM S most f o p = .ok o2 q → o.length ≤ o2.length
  | 0, _, _, _, _, h => by cases h
  | f + 1, o, o2, p, q, h => by
    unfold symsM at h
    obtain ⟨s, a, e1, h⟩ := SR.bind_ok h
    by_cases h1 : s < 256
    · rw [if_pos h1] at h
      split at h
      · cases h
      have := symsM_grow f _ _ _ _ h
      rw [List.length_append] at this
      omega
    · rw [if_neg h1] at h
      by_cases h2 : s = 256
      · rw [if_pos h2] at h
        injection h with k1 k2
        subst k1; exact Nat.le_refl _
      · rw [if_neg h2] at h
        by_cases h3 : s < 286
        · rw [if_pos h3] at h
          obtain ⟨o3, q3, e3, e4⟩ := SR.bind_ok h
          exact Nat.le_trans ((matchM_less (m := 0)).2 _ _ e3) (symsM_grow f _ _ _ _ e4)
        · rw [if_neg h3] at h; cases h
theorem symsM_less {S : List Bool} {most m : Nat} : ∀ (f : Nat) (o : Bs) (p : Nat), o.length ≤ m → Less (symsM S most f o p) (symsM S m f o p) m
  | 0, _, _, _ => fun _ _ h => by cases h
  | f + 1, o, p, hm => fun o2 q h => by
    unfold symsM at h ⊢
    obtain ⟨s, a, e1, h⟩ := SR.bind_ok h
    rw [e1]
    simp only [SR.bind]
    by_cases h1 : s < 256
    · rw [if_pos h1] at h ⊢
      split at h
      · cases h
      have hg := symsM_grow f _ _ _ _ h
      rw [List.length_append] at hg
      simp only [List.length_cons, List.length_nil] at hg
      by_cases h2 : m < o.length + 1
      · rw [if_pos h2, if_neg (by omega)]
      · rw [if_neg h2]
        exact symsM_less f _ _ (by rw [List.length_append]; simp; omega) _ _ h
    · rw [if_neg h1] at h ⊢
      by_cases h2 : s = 256
      · rw [if_pos h2] at h ⊢
        injection h with k1 k2
        subst k1 k2
        rw [if_pos hm]
      · rw [if_neg h2] at h ⊢
        by_cases h3 : s < 286
        · rw [if_pos h3] at h ⊢
          obtain ⟨o3, q3, e3, e4⟩ := SR.bind_ok h
          have hg := symsM_grow f _ _ _ _ e4
          have hl := (matchM_less (m := m)).1 o3 q3 e3
          by_cases h4 : o3.length ≤ m
          · rw [if_pos h4] at hl
            rw [hl]
            exact symsM_less f _ _ h4 _ _ e4
          · rw [if_neg h4] at hl
            rw [hl, if_neg (by omega)]
        · rw [if_neg h3] at h; cases h
theorem storedM_less {S : List Bool} {most m : Nat} {o : Bs} {p : Nat} : Less (storedM S most o p) (storedM S m o p) m ∧ ∀ o2 q, storedM S most o p = .ok o2 q → o.length ≤ o2.length := by
  refine ⟨fun o2 q h => ?_, fun o2 q h => ?_⟩
  · obtain ⟨n, a, m2, c, e1, e2, e3, e4, e5⟩ := storedM_ok h
    have hl := (bytesM_loc n o o2 c q e5).2
    have : storedM S m o p = if m < o.length + n then .bad 3 else .ok o2 q := by
      unfold storedM; rw [e1]; simp only [SR.bind]; rw [e2]; simp only; rw [if_neg (by omega), e5]
    rw [this, hl]
    split
    · rw [if_neg (by omega)]
    · rw [if_pos (by omega)]
  · obtain ⟨n, a, m2, c, e1, e2, e3, e4, e5⟩ := storedM_ok h
    have hl := (bytesM_loc n o o2 c q e5).2
    omega
theorem blockM_less {S : List Bool} {most F m : Nat} {o o2 : Bs} {b : Bool} {p q : Nat} (hm : o.length ≤ m) (h : blockM S most F o p = .ok (o2, b) q) : o.length ≤ o2.length ∧ if o2.length ≤ m then blockM S m F o p = .ok (o2, b) q else blockM S m F o p = .bad 3 := by
  obtain ⟨last, a, k, c, e1, e2, e3, e4⟩ := blockM_ok h
  subst e3
  rcases e4 with ⟨rfl, e4⟩ | ⟨rfl, e4⟩
  · have : blockM S m F o p = (storedM S m o c).bind fun o2 q3 => .ok (o2, last == 0) q3 := by
      unfold blockM; rw [e1]; simp only [SR.bind]; rw [e2]; simp only; rw [if_pos trivial]
    rw [this]
    have hl := (storedM_less (m := m)).1 o2 q e4
    refine ⟨(storedM_less (m := 0)).2 _ _ e4, ?_⟩
    split at hl
    · rename_i h1; rw [if_pos h1, hl]; rfl
    · rename_i h1; rw [if_neg h1, hl]; rfl
  · have : blockM S m F o p = (symsM S m F o c).bind fun o2 q3 => .ok (o2, last == 0) q3 := by
      unfold blockM; rw [e1]; simp only [SR.bind]; rw [e2]; simp only; rw [if_neg (by omega), if_pos trivial]
    rw [this]
    have hl := symsM_less F o c hm o2 q e4
    refine ⟨symsM_grow F _ _ _ _ e4, ?_⟩
    split at hl
    · rename_i h1; rw [if_pos h1, hl]; rfl
    · rename_i h1; rw [if_neg h1, hl]; rfl
theorem blocksM_less {S : List Bool} {most F m : Nat} : ∀ (f : Nat) (o : Bs) (p : Nat), o.length ≤ m → Less (blocksM S most F f o p) (blocksM S m F f o p) m ∧ ∀ o2 q, blocksM S most F f o p = .ok o2 q → o.length ≤ o2.length
  | 0, _, _, _ => by
    refine ⟨fun o2 q h => ?_, fun o2 q h => ?_⟩ <;> cases h
  | f + 1, o, p, hm => by
    refine ⟨fun o2 q h => ?_, fun o2 q h => ?_⟩
    · unfold blocksM at h ⊢
      obtain ⟨⟨o3, b⟩, a, e1, h⟩ := SR.bind_ok h
      obtain ⟨g1, hl⟩ := blockM_less hm e1
      by_cases h4 : o3.length ≤ m
      · rw [if_pos h4] at hl
        rw [hl]
        cases b with
        | true => exact (blocksM_less f o3 a h4).1 o2 q h
        | false =>
          injection h with k1 k2
          subst k1 k2
          rw [if_pos h4]; rfl
      · rw [if_neg h4] at hl
        rw [hl]
        have : o3.length ≤ o2.length := by
          cases b with
          | true =>
            exact (blocksM_less (m := o3.length) f o3 a (Nat.le_refl _)).2 o2 q h
          | false => injection h with k1 k2; subst k1; exact Nat.le_refl _
        rw [if_neg (by omega)]; rfl
    · unfold blocksM at h
      obtain ⟨⟨o3, b⟩, a, e1, h⟩ := SR.bind_ok h
      obtain ⟨g1, _⟩ := blockM_less hm e1
      refine Nat.le_trans g1 ?_
      cases b with
      | true => exact (blocksM_less (m := o3.length) f o3 a (Nat.le_refl _)).2 o2 q h
      | false => injection h with k1 k2; subst k1; exact Nat.le_refl _
end Go.Proofs.Zi
