/- Part of a proof (HB7 HSh HN1 HN2 HN3 S28 L1 L2); no condition. -/
import Derived.Shelf.LaysM
import Derived.Shelf.Strings.CaseAny
import Derived.Shelf.Strconv.Itoa3
import Derived.Shelf.Strconv.Itoa4
import Derived.Shelf.Strings.Cut
import Derived.Test.YticgfaajkcdfaaaGreatDoorProg
import Derived.Lib.LaidCase
import Derived.Lib.LaidTab
import Derived.Test.YticgfaajkcdfaaaGreatDoorRows
import Derived.Shelf.Vars
import Derived.WalkKit
import Derived.Below
import Derived.ChangeSame
import Derived.ReadAgain
import Derived.OpenShut
import Derived.ProofKit
import Derived.LaidLaws
import Derived.LaidHandle
import Derived.Lay
import Derived.Test.YticgfaajkcdfaaaGreatDoorP6
import Derived.Test.YticgfaajkcdfaaaGreatDoorP7
import Derived.Test.YticgfaajkcdfaaaGreatDoorP9
import Derived.Test.YticgfaajkcdfaaaGreatDoorP12
set_option linter.unusedSimpArgs false
set_option linter.unusedVariables false
set_option linter.unnecessarySimpa false
namespace Go.Proofs.Ht
open Go.Abs Go.Abs.S
set_option linter.unusedSimpArgs false
open Go.Lib (toLowerD)
theorem low_len (s : Bs) : (low s).length = s.length := by simp [low]
theorem arg_from {n : Nat} {H : AHeap} {s : AVal} {l : List AVal} (h : ArgS n H s l) {a : Nat} (ha : a ≤ l.length) :
    ∃ s', aSl 1 s (some (.int .i64 (a : Int))) none none = some s' ∧ ArgS n H s' (l.drop a) := by
  have hbd : ∀ c, l.length ≤ c → aBnd l.length c (some (.int .i64 (a : Int))) none none = some (a, l.length, none) := by
    intro c hc
    have h2 : bdO (some (.int .i64 (a : Int))) l.length 0 = some a := bd_nat ha
    have h1 : bdO none c l.length = some l.length := rfl
    simp only [aBnd, h1, h2]
  rcases h with ⟨rfl, rfl⟩ | ⟨ad, c, rfl, h2, h3, h4⟩
  · have ha0 : a = 0 := by simpa using ha
    subst ha0
    have := hbd 0 (Nat.le_refl _)
    simp only [List.length_nil] at this
    refine ⟨nilS, ?_, .inl ⟨rfl, by simp⟩⟩
    simp only [aSl, nilS, this]
  · have hlen : (l.drop a).length = l.length - a := by simp
    obtain ⟨L, low, ro, q1, q2, q3, q4, q5⟩ := rd_spec h4
    simp only [aSl, hbd c h2, Option.getD_none]
    cases hq : Nat.beq c a with
    | true =>
      have hca : c = a := Nat.eq_of_beq_eq_true hq
      have e0 : l.length - a = 0 := by omega
      refine ⟨_, rfl, .inr ⟨ad, c - a, by rw [hlen], by omega, h3, ?_⟩⟩
      rw [hlen, e0]
      have := rd_pre h4 (Nat.zero_le _)
      have e1 : l.drop a = [] := List.drop_of_length_le (by omega)
      rw [e1]
      simpa using this
    | false =>
      refine ⟨_, rfl, .inr ⟨⟨ad.b, ad.lim, ad.o + a * 1⟩, c - a, by rw [hlen], by omega, h3, ?_⟩⟩
      rw [hlen]
      unfold rdCells
      simp only [q1, Nat.mul_one, Nat.ble_eq_true_of_le q2, Nat.ble_eq_true_of_le q3, Nat.ble_eq_true_of_le (show ad.o + a + (l.length - a) ≤ ad.lim by omega), Bool.and_self, cond_true]
      congr 1
      conv => rhs; rw [q5]
      rw [List.drop_take, List.drop_drop]
theorem byts_take (s : Bs) (k : Nat) : (byts s).take k = byts (s.take k) := by simp [byts, List.map_take]
theorem byts_drop (s : Bs) (k : Nat) : (byts s).drop k = byts (s.drop k) := by simp [byts, List.map_drop]
theorem chs_snoc (ps : List Bs) (x : Bs) : chs (ps ++ [x]) = chs ps ++ rchunkF x := by simp [chs]
theorem chunk_len {x : Bs} (h : x.length ≤ 1000) : (rchunkF x).length ≤ x.length + 11 := by
  unfold rchunkF
  split
  · simp
  · have := (hex_ok (n := x.length) h).l7
    simp only [List.length_append, crlf, List.length_cons, List.length_nil]; omega
theorem law_spec {g : Nat} {H0 : AHeap} {s b cv tv : AVal} {st : Int} {l tr : List (Bs × Bs)} {body : Bs} {cs : List Int} (hG : GX g H0) (hB : Glo H0 6 b64) (h6 : 6 < g) (hl : Prs H0.next H0 s l) (hb : ArgS H0.next H0 b (byts body)) (hc : ArgS H0.next H0 cv (ints cs)) (ht : Prs H0.next H0 tv tr)
    (hle : ∀ p ∈ l, p.1.length ≤ 1000000000 ∧ p.2.length ≤ 1000000000) (hte : ∀ p ∈ tr, p.1.length ≤ 1000000000 ∧ p.2.length ≤ 1000000000) : ACalls Tryz.prog natX 3 [.int .i64 st, s, b, cv, tv] H0 fun x _ => x = .bool true := by
  refine acalls_ofN rfl za3 rfl ?_
  have aw : ∀ {H : AHeap}, Ext H0.next H0 H → ∀ {K : AVal → AHeap → Prop}, (∀ H, K (.bool true) H) → ACalls Tryz.prog natX 4 [] H K := fun e K hk => (awake_spec (hG.fwd e hG.1) (hB.ext h6 (e.less hG.1)) h6).mono fun w H' hw => by subst hw; exact hk H'
  have gn := hG.1
  have ll := hl.len
  have lb := hb.cel.len
  have lc := hc.cel.len
  have lt := ht.len
  rw [byts_len] at lb
  rw [ints_len] at lc
  by_cases h1 : 38 < l.length
  · have h1' : (38 : Int) < (l.length : Int) := by omega
    simp only [c3, sA, Int.reduceNegSucc, reduceCtorEq, Nat.reduceEqDiff, ↓reduceIte, Nat.reduceAdd, Int.reduceEq, Int.reduceLT, Int.reduceLE, Nat.reduceLT, ll, h1']
    refine aw (Ext.refl _ _) fun _ => ?_
    simp only [sA, Int.reduceNegSucc, reduceCtorEq, Nat.reduceEqDiff, ↓reduceIte, Nat.reduceAdd, Int.reduceEq, Int.reduceLT, Int.reduceLE, Nat.reduceLT, fin, wRes, OptP_some]
    try trivial
  have h1' : ¬ (38 : Int) < (l.length : Int) := by omega
  by_cases h2 : 1000 < body.length
  · have h2' : (1000 : Int) < (body.length : Int) := by omega
    simp only [c3, sA, Int.reduceNegSucc, reduceCtorEq, Nat.reduceEqDiff, ↓reduceIte, Nat.reduceAdd, Int.reduceEq, Int.reduceLT, Int.reduceLE, Nat.reduceLT, ll, h1', lb, h2']
    refine aw (Ext.refl _ _) fun _ => ?_
    simp only [sA, Int.reduceNegSucc, reduceCtorEq, Nat.reduceEqDiff, ↓reduceIte, Nat.reduceAdd, Int.reduceEq, Int.reduceLT, Int.reduceLE, Nat.reduceLT, fin, wRes, OptP_some]
    try trivial
  have h2' : ¬ (1000 : Int) < (body.length : Int) := by omega
  by_cases h3 : 100 < cs.length
  · have h3' : (100 : Int) < (cs.length : Int) := by omega
    simp only [c3, sA, Int.reduceNegSucc, reduceCtorEq, Nat.reduceEqDiff, ↓reduceIte, Nat.reduceAdd, Int.reduceEq, Int.reduceLT, Int.reduceLE, Nat.reduceLT, ll, h1', lb, h2', lc, h3']
    refine aw (Ext.refl _ _) fun _ => ?_
    simp only [sA, Int.reduceNegSucc, reduceCtorEq, Nat.reduceEqDiff, ↓reduceIte, Nat.reduceAdd, Int.reduceEq, Int.reduceLT, Int.reduceLE, Nat.reduceLT, fin, wRes, OptP_some]
    try trivial
  have h3' : ¬ (100 : Int) < (cs.length : Int) := by omega
  by_cases h4 : 60 < tr.length
  · have h4' : (60 : Int) < (tr.length : Int) := by omega
    simp only [c3, sA, Int.reduceNegSucc, reduceCtorEq, Nat.reduceEqDiff, ↓reduceIte, Nat.reduceAdd, Int.reduceEq, Int.reduceLT, Int.reduceLE, Nat.reduceLT, ll, h1', lb, h2', lc, h3', lt, h4']
    refine aw (Ext.refl _ _) fun _ => ?_
    simp only [sA, Int.reduceNegSucc, reduceCtorEq, Nat.reduceEqDiff, ↓reduceIte, Nat.reduceAdd, Int.reduceEq, Int.reduceLT, Int.reduceLE, Nat.reduceLT, fin, wRes, OptP_some]
    try trivial
  have h4' : ¬ (60 : Int) < (tr.length : Int) := by omega
  simp only [c3, sA, Int.reduceNegSucc, reduceCtorEq, Nat.reduceEqDiff, ↓reduceIte, Nat.reduceAdd, Int.reduceEq, Int.reduceLT, Int.reduceLE, Nat.reduceLT, ll, h1', lb, h2', lc, h3', lt, h4']
  refine aw_loop (fun q (T : Env) H' => ∃ j : Nat, j ≤ l.length ∧ q = l.length - j ∧ T 0 = .int .i64 st ∧ T 1 = s ∧ T 2 = b ∧ T 3 = cv ∧ T 4 = tv ∧ T 11 = .int .i64 (j : Int) ∧ (∀ p ∈ l.take j, p.1.length + p.2.length ≤ 200 ∧ toLowerD p.1 ≠ hostN ∧ toLowerD p.1 ≠ conN) ∧ H0 = H') l.length
    ⟨0, Nat.zero_le _, rfl, by simp only [sA, Int.reduceNegSucc, reduceCtorEq, Nat.reduceEqDiff, ↓reduceIte, Nat.reduceAdd, Int.reduceEq, Int.reduceLT, Int.reduceLE, Nat.reduceLT], by simp only [sA, Int.reduceNegSucc, reduceCtorEq, Nat.reduceEqDiff, ↓reduceIte, Nat.reduceAdd, Int.reduceEq, Int.reduceLT, Int.reduceLE, Nat.reduceLT], by simp only [sA, Int.reduceNegSucc, reduceCtorEq, Nat.reduceEqDiff, ↓reduceIte, Nat.reduceAdd, Int.reduceEq, Int.reduceLT, Int.reduceLE, Nat.reduceLT], by simp only [sA, Int.reduceNegSucc, reduceCtorEq, Nat.reduceEqDiff, ↓reduceIte, Nat.reduceAdd, Int.reduceEq, Int.reduceLT, Int.reduceLE, Nat.reduceLT], by simp only [sA, Int.reduceNegSucc, reduceCtorEq, Nat.reduceEqDiff, ↓reduceIte, Nat.reduceAdd, Int.reduceEq, Int.reduceLT, Int.reduceLE, Nat.reduceLT], by simp only [sA, Int.reduceNegSucc, reduceCtorEq, Nat.reduceEqDiff, ↓reduceIte, Nat.reduceAdd, Int.reduceEq, Int.reduceLT, Int.reduceLE, Nat.reduceLT]; try rfl, by simp, rfl⟩ ?_
  rintro q T _ ⟨j, hj, rfl, g0, g1, g2, g3, g4, g11, hA, rfl⟩
  by_cases hlt : j < l.length
  · have hlt' : (j : Int) < (l.length : Int) := by omega
    obtain ⟨p, hp⟩ := isSome_of_lt hlt
    obtain ⟨z1, z2⟩ := hle p (List.mem_of_getElem? hp)
    obtain ⟨a, i1, _, a3, a4, a5, a6⟩ := hl.at hp
    have w2 : IntKind.i64.wrap ((p.1.length : Int) + (p.2.length : Int)) = ((p.1.length + p.2.length : Nat) : Int) := wrapN _ _ (by omega)
    simp only [sA, Int.reduceNegSucc, reduceCtorEq, Nat.reduceEqDiff, ↓reduceIte, Nat.reduceAdd, Int.reduceEq, Int.reduceLT, Int.reduceLE, Nat.reduceLT, g0, g1, g2, g3, g4, g11, ll, hlt', i1, a5, a3]
    refine tolower_call hG p.1 z1 ?_
    by_cases k1 : 200 < p.1.length + p.2.length
    · have k1' : (200 : Int) < ((p.1.length + p.2.length : Nat) : Int) := by omega
      simp only [sA, Int.reduceNegSucc, reduceCtorEq, Nat.reduceEqDiff, ↓reduceIte, Nat.reduceAdd, Int.reduceEq, Int.reduceLT, Int.reduceLE, Nat.reduceLT, g0, g1, g2, g3, g4, g11, i1, a5, a3, a6, a4, w2, k1']
      refine aw (Ext.refl _ _) fun _ => ?_
      simp only [sA, Int.reduceNegSucc, reduceCtorEq, Nat.reduceEqDiff, ↓reduceIte, Nat.reduceAdd, Int.reduceEq, Int.reduceLT, Int.reduceLE, Nat.reduceLT, fin, wRes, OptP_some]
      try trivial
    have k1' : ¬ (200 : Int) < ((p.1.length + p.2.length : Nat) : Int) := by omega
    by_cases k2 : toLowerD p.1 = hostN
    · have k2' : toLowerD p.1 = [104, 111, 115, 116] := k2
      simp only [sA, Int.reduceNegSucc, reduceCtorEq, Nat.reduceEqDiff, ↓reduceIte, Nat.reduceAdd, Int.reduceEq, Int.reduceLT, Int.reduceLE, Nat.reduceLT, g0, g1, g2, g3, g4, g11, i1, a5, a3, a6, a4, w2, k1', k2']
      refine aw (Ext.refl _ _) fun _ => ?_
      simp only [sA, Int.reduceNegSucc, reduceCtorEq, Nat.reduceEqDiff, ↓reduceIte, Nat.reduceAdd, Int.reduceEq, Int.reduceLT, Int.reduceLE, Nat.reduceLT, fin, wRes, OptP_some]
      try trivial
    have k2' : ¬ toLowerD p.1 = [104, 111, 115, 116] := k2
    by_cases k3 : toLowerD p.1 = conN
    · have k3' : toLowerD p.1 = [99, 111, 110, 110, 101, 99, 116, 105, 111, 110] := k3
      simp only [sA, Int.reduceNegSucc, reduceCtorEq, Nat.reduceEqDiff, ↓reduceIte, Nat.reduceAdd, Int.reduceEq, Int.reduceLT, Int.reduceLE, Nat.reduceLT, g0, g1, g2, g3, g4, g11, i1, a5, a3, a6, a4, w2, k1', k2', k3']
      refine aw (Ext.refl _ _) fun _ => ?_
      simp only [sA, Int.reduceNegSucc, reduceCtorEq, Nat.reduceEqDiff, ↓reduceIte, Nat.reduceAdd, Int.reduceEq, Int.reduceLT, Int.reduceLE, Nat.reduceLT, fin, wRes, OptP_some]
      try trivial
    have k3' : ¬ toLowerD p.1 = [99, 111, 110, 110, 101, 99, 116, 105, 111, 110] := k3
    simp only [sA, Int.reduceNegSucc, reduceCtorEq, Nat.reduceEqDiff, ↓reduceIte, Nat.reduceAdd, Int.reduceEq, Int.reduceLT, Int.reduceLE, Nat.reduceLT, g0, g1, g2, g3, g4, g11, i1, a5, a3, a6, a4, w2, k1', k2', k3', wrap1 j (by omega)]
    refine ⟨_, by omega, j + 1, by omega, rfl, (by first | with_reducible rfl | trivial | rfl | assumption), (by first | with_reducible rfl | trivial | rfl | assumption), (by first | with_reducible rfl | trivial | rfl | assumption), (by first | with_reducible rfl | trivial | rfl | assumption), (by first | with_reducible rfl | trivial | rfl | assumption), (by first | with_reducible rfl | trivial | rfl | assumption), fun x hx => ?_, (by first | with_reducible rfl | trivial | rfl | assumption)⟩
    rw [List.take_add_one, hp] at hx
    rcases List.mem_append.1 hx with hx | hx
    · exact hA x hx
    · have : x = p := by simpa using hx
      subst this
      exact ⟨by omega, k2, k3⟩
  have hlt' : ¬ (j : Int) < (l.length : Int) := by omega
  rw [List.take_of_length_le (by omega)] at hA
  have hS : Sm l := ⟨by omega, fun p hp => (hA p hp).1⟩
  have hO : ∀ p ∈ l, toLowerD p.1 ≠ hostN ∧ toLowerD p.1 ≠ conN := fun p hp => (hA p hp).2
  simp only [sA, Int.reduceNegSucc, reduceCtorEq, Nat.reduceEqDiff, ↓reduceIte, Nat.reduceAdd, Int.reduceEq, Int.reduceLT, Int.reduceLE, Nat.reduceLT, g0, g1, g2, g3, g4, g11, ll, hlt']
  clear hA
  refine aw_loop (fun q (T : Env) H' => ∃ j : Nat, j ≤ tr.length ∧ q = tr.length - j ∧ T 0 = .int .i64 st ∧ T 1 = s ∧ T 2 = b ∧ T 3 = cv ∧ T 4 = tv ∧ T 13 = .int .i64 (j : Int) ∧ (∀ p ∈ tr.take j, p.1.length + p.2.length ≤ 200) ∧ H0 = H') tr.length
    ⟨0, Nat.zero_le _, rfl, by simp only [sA, Int.reduceNegSucc, reduceCtorEq, Nat.reduceEqDiff, ↓reduceIte, Nat.reduceAdd, Int.reduceEq, Int.reduceLT, Int.reduceLE, Nat.reduceLT, g0], by simp only [sA, Int.reduceNegSucc, reduceCtorEq, Nat.reduceEqDiff, ↓reduceIte, Nat.reduceAdd, Int.reduceEq, Int.reduceLT, Int.reduceLE, Nat.reduceLT, g1], by simp only [sA, Int.reduceNegSucc, reduceCtorEq, Nat.reduceEqDiff, ↓reduceIte, Nat.reduceAdd, Int.reduceEq, Int.reduceLT, Int.reduceLE, Nat.reduceLT, g2], by simp only [sA, Int.reduceNegSucc, reduceCtorEq, Nat.reduceEqDiff, ↓reduceIte, Nat.reduceAdd, Int.reduceEq, Int.reduceLT, Int.reduceLE, Nat.reduceLT, g3], by simp only [sA, Int.reduceNegSucc, reduceCtorEq, Nat.reduceEqDiff, ↓reduceIte, Nat.reduceAdd, Int.reduceEq, Int.reduceLT, Int.reduceLE, Nat.reduceLT, g4], by simp only [sA, Int.reduceNegSucc, reduceCtorEq, Nat.reduceEqDiff, ↓reduceIte, Nat.reduceAdd, Int.reduceEq, Int.reduceLT, Int.reduceLE, Nat.reduceLT]; try rfl, by simp, rfl⟩ ?_
  clear g0 g1 g2 g3 g4 g11
  rintro q T _ ⟨j2, hj2, rfl, g0, g1, g2, g3, g4, g13, hA, rfl⟩
  by_cases hlt2 : j2 < tr.length
  · have hlt2' : (j2 : Int) < (tr.length : Int) := by omega
    obtain ⟨p, hp⟩ := isSome_of_lt hlt2
    obtain ⟨z1, z2⟩ := hte p (List.mem_of_getElem? hp)
    obtain ⟨a, i1, _, a3, a4, a5, a6⟩ := ht.at hp
    have w2 : IntKind.i64.wrap ((p.1.length : Int) + (p.2.length : Int)) = ((p.1.length + p.2.length : Nat) : Int) := wrapN _ _ (by omega)
    by_cases k1 : 200 < p.1.length + p.2.length
    · have k1' : (200 : Int) < ((p.1.length + p.2.length : Nat) : Int) := by omega
      simp only [sA, Int.reduceNegSucc, reduceCtorEq, Nat.reduceEqDiff, ↓reduceIte, Nat.reduceAdd, Int.reduceEq, Int.reduceLT, Int.reduceLE, Nat.reduceLT, g0, g1, g2, g3, g4, g13, lt, hlt2', i1, a5, a3, a6, a4, w2, k1']
      refine aw (Ext.refl _ _) fun _ => ?_
      simp only [sA, Int.reduceNegSucc, reduceCtorEq, Nat.reduceEqDiff, ↓reduceIte, Nat.reduceAdd, Int.reduceEq, Int.reduceLT, Int.reduceLE, Nat.reduceLT, fin, wRes, OptP_some]
      try trivial
    have k1' : ¬ (200 : Int) < ((p.1.length + p.2.length : Nat) : Int) := by omega
    simp only [sA, Int.reduceNegSucc, reduceCtorEq, Nat.reduceEqDiff, ↓reduceIte, Nat.reduceAdd, Int.reduceEq, Int.reduceLT, Int.reduceLE, Nat.reduceLT, g0, g1, g2, g3, g4, g13, lt, hlt2', i1, a5, a3, a6, a4, w2, k1', wrap1 j2 (by omega)]
    refine ⟨_, by omega, j2 + 1, by omega, rfl, (by first | with_reducible rfl | trivial | rfl | assumption), (by first | with_reducible rfl | trivial | rfl | assumption), (by first | with_reducible rfl | trivial | rfl | assumption), (by first | with_reducible rfl | trivial | rfl | assumption), (by first | with_reducible rfl | trivial | rfl | assumption), (by first | with_reducible rfl | trivial | rfl | assumption), fun x hx => ?_, (by first | with_reducible rfl | trivial | rfl | assumption)⟩
    rw [List.take_add_one, hp] at hx
    rcases List.mem_append.1 hx with hx | hx
    · exact hA x hx
    · have : x = p := by simpa using hx
      subst this
      omega
  have hlt2' : ¬ (j2 : Int) < (tr.length : Int) := by omega
  rw [List.take_of_length_le (by omega)] at hA
  have hT : Sm tr := ⟨by omega, hA⟩
  simp only [sA, Int.reduceNegSucc, reduceCtorEq, Nat.reduceEqDiff, ↓reduceIte, Nat.reduceAdd, Int.reduceEq, Int.reduceLT, Int.reduceLE, Nat.reduceLT, g0, g1, g2, g3, g4, g13, lt, hlt2']
  clear hA
  refine (rwhole_spec hG st hl hS hb.cel (by omega)).mono ?_
  rintro _ H1 ⟨s1, rfl, A1, E1⟩
  have e1 := E1.next
  simp only [sA, Int.reduceNegSucc, reduceCtorEq, Nat.reduceEqDiff, ↓reduceIte, Nat.reduceAdd, Int.reduceEq, Int.reduceLT, Int.reduceLE, Nat.reduceLT, ext_0, ext_1, g0, g1, g2, g3, g4]
  refine (rbegin_spec (hG.fwd E1 hG.1) st (prs_more (hl.ext E1) e1) hS).mono ?_
  rintro _ H2 ⟨s2, rfl, A2, E2⟩
  have e2 := E2.next
  have E02 : Ext H0.next H0 H2 := E1.trans (E2.less e1)
  have ef : (rwholeF st l body).2 = (rbeginF st l).2 := by
    unfold rwholeF rbeginF
    split <;> rfl
  by_cases hz : (rheadF st l).2 = 0
  case neg =>
    have hw : rwholeF st l body = ([], (rheadF st l).2) := by unfold rwholeF; rw [if_neg hz]
    have hb2 : rbeginF st l = ([], (rheadF st l).2) := by unfold rbeginF; rw [if_neg hz]
    rw [hw] at A1 ⊢
    rw [hb2] at A2 ⊢
    have hz' : ¬ (((rheadF st l).2 : Nat) : Int) = 0 := by omega
    have l1 : aLenK false s1 = some (.int .i64 0) := byts_len' A1.cel
    have l2 : aLenK false s2 = some (.int .i64 0) := byts_len' A2.cel
    have w0 : IntKind.i64.wrap (0 + 0) = 0 := rfl
    have w00 : IntKind.i64.wrap 0 = 0 := rfl
    simp only [sA, Int.reduceNegSucc, reduceCtorEq, Nat.reduceEqDiff, ↓reduceIte, Nat.reduceAdd, Int.reduceEq, Int.reduceLT, Int.reduceLE, Nat.reduceLT, ext_0, ext_1, hz', l1, l2, w0, Int.add_zero, w00]
    refine aw E02 fun _ => ?_
    simp only [sA, Int.reduceNegSucc, reduceCtorEq, Nat.reduceEqDiff, ↓reduceIte, Nat.reduceAdd, Int.reduceEq, Int.reduceLT, Int.reduceLE, Nat.reduceLT, fin, wRes, OptP_some]
    try trivial
  obtain ⟨y, rest, rq, p1, p2, p3, p4, p5, p6, p7, hk, p9, p10, p11⟩ := back_whole (body := body) hS (by omega) (by omega) hz hO
  have hb0 : (rbeginF st l).2 = 0 := by rw [← ef]; exact p9
  have z0 : ((0 : Nat) : Int) = 0 := rfl
  have hlenw : (rwholeF st l body).1.length ≤ 30000 := by
    have h1 := head_len st hS
    have h2 := dec_len (n := body.length) (by omega)
    unfold rwholeF
    rw [if_pos hz]
    simp only [List.length_append, clH, crlf, List.length_cons, List.length_nil]; omega
  have hhs : ∀ {x : Bs × Bs}, x.1.length ≤ 1000 → x.2.length ≤ 1000 → (hostP :: l.map lowP ++ [x]).length ≤ 100000 ∧ ∀ h ∈ hostP :: l.map lowP ++ [x], h.1.length ≤ 100000 ∧ h.2.length ≤ 100000 := fun {x} hx1 hx2 => by
    refine ⟨by simp; omega, fun h hh => ?_⟩
    simp only [List.cons_append, List.mem_cons, List.mem_append, List.mem_map, List.not_mem_nil, or_false] at hh
    rcases hh with rfl | ⟨p, hp, rfl⟩ | rfl
    · decide
    · have := hS.e p hp
      simp only [lowP, low_len]; omega
    · omega
  have A1c := A1.cel
  have A1' : Cel H1.next H1 s1 (byts ((httpH ++ y) ++ 13 :: 10 :: rest)) := by rw [← p1]; exact A1c
  obtain ⟨q1, q2⟩ := hhs (x := (clN, dec body.length)) (show 14 ≤ 1000 by omega) (by have := dec_len (n := body.length) (by omega); show (dec body.length).length ≤ 1000; omega)
  simp only [sA, Int.reduceNegSucc, reduceCtorEq, Nat.reduceEqDiff, ↓reduceIte, Nat.reduceAdd, Int.reduceEq, Int.reduceLT, Int.reduceLE, Nat.reduceLT, ext_0, ext_1, p9, hb0, z0]
  refine (asked_spec (hG.fwd E02 hG.1) ((A1'.ext E2).more e2) p2 (by rw [← p1]; omega) p3 p4 p5 (by rw [p6]; omega) (by rw [p7]; exact q1) (by rw [p7]; exact q2)).mono ?_
  rintro _ H3 ⟨m3, σ3, vh, vb, rfl, Q3, hm3, E3⟩
  have e3 := E3.next
  have hone : (rqC rq vh vb).all AVal.one = true := by
    obtain ⟨wh, wb, e, e2, e3, _⟩ := Q3
    rw [e]
    simp only [rqC, List.all_cons, List.all_nil, e2, e3, Bool.and_true]; rfl
  obtain ⟨H4, m4, r4, n4, o4⟩ := row_newL H3 noRq (n := 5) rfl
  have m4' : oNew H3 [.str [], .str [], .slice none 0 (.known 0), .slice none 0 (.known 0), .bool false] = (cellR H3.next 5 0, H4) := m4
  obtain ⟨H5, m5, r5, n5, o5⟩ := row_storeN r4 (n := 5) rfl (xs := rqC rq vh vb) rfl hone
  have l5 : oLoad true 5 H5 (cellR H3.next 5 0) = some (.agg (rqC rq vh vb)) := row_loadN r5 (n := 5) rfl
  have E5 : Ext H3.next H3 H5 := ⟨by omega, fun c hc => by rw [o5 c (by omega), o4 c (by omega)]⟩
  have E05 : Ext H0.next H0 H5 := (E02.trans (E3.less (by omega))).trans (E5.less (by omega))
  have e05 := E05.next
  have Q5 := Q3.fr (H' := H5) (n' := m3) (Nat.le_refl _) (fun _ _ h => h) fun c hc _ => E5.old c (by omega)
  have htok : ∀ p ∈ l, p.1.all tch = true ∧ p.1.length ≤ 1000 := fun p hp => by
    obtain ⟨_, h2, _⟩ := (hdrs_ok hS hk).2 p hp
    exact ⟨h2, by have := hS.e p hp; omega⟩
  simp only [sA, Int.reduceNegSucc, reduceCtorEq, Nat.reduceEqDiff, ↓reduceIte, Nat.reduceAdd, Int.reduceEq, Int.reduceLT, Int.reduceLE, Nat.reduceLT, ext_0, ext_1, g0, g1, g2, g3, g4, m4', m5, l5]
  refine (says_spec (hG.fwd E05 hG.1) Q5 (by omega) (prs_more (hl.ext E05) e05) ((hb.cel.ext E05).more e05) p7 p6 htok (by omega)).mono ?_
  rintro _ H6 ⟨rfl, E6⟩
  have e6 := E6.next
  have E06 : Ext H0.next H0 H6 := E05.trans (E6.less e05)
  have E26 : Ext H2.next H2 H6 := (E3.trans (E5.less e3)).trans (E6.less (by omega))
  have A26 := A2.ext (H' := H6) E26
  simp only [sA, Int.reduceNegSucc, reduceCtorEq, Nat.reduceEqDiff, ↓reduceIte, Nat.reduceAdd, Int.reduceEq, Int.reduceLT, Int.reduceLE, Nat.reduceLT, g0, g1, g2, g3, g4]
  clear Q3 Q5 m4 m4' m5 l5 r4 r5 A1c A1' p1 p2 p3 p4 p5 p6 p7 q1 q2 A1
  have A20 : App H0.next H6 s2 (byts (rbeginF st l).1) := A26.less e1
  refine aw_loop (fun q (T : Env) H => ∃ (j : Nat) (ps : List Bs) (r : Bs), j ≤ cs.length ∧ q = cs.length - j ∧ T 0 = .int .i64 st ∧ T 1 = s ∧ T 2 = b ∧ T 3 = cv ∧ T 4 = tv ∧ T 21 = .int .i64 (j : Int) ∧ App H0.next H (T 16) (byts ((rbeginF st l).1 ++ chs ps)) ∧ (chs ps).length ≤ 11 * j + ps.flatten.length ∧ ArgS H0.next H (T 20) (byts r) ∧ ps.flatten ++ r = body ∧ Ext H0.next H0 H) cs.length
    ⟨0, [], body, Nat.zero_le _, rfl, by simp only [sA, Int.reduceNegSucc, reduceCtorEq, Nat.reduceEqDiff, ↓reduceIte, Nat.reduceAdd, Int.reduceEq, Int.reduceLT, Int.reduceLE, Nat.reduceLT, g0], by simp only [sA, Int.reduceNegSucc, reduceCtorEq, Nat.reduceEqDiff, ↓reduceIte, Nat.reduceAdd, Int.reduceEq, Int.reduceLT, Int.reduceLE, Nat.reduceLT, g1], by simp only [sA, Int.reduceNegSucc, reduceCtorEq, Nat.reduceEqDiff, ↓reduceIte, Nat.reduceAdd, Int.reduceEq, Int.reduceLT, Int.reduceLE, Nat.reduceLT, g2], by simp only [sA, Int.reduceNegSucc, reduceCtorEq, Nat.reduceEqDiff, ↓reduceIte, Nat.reduceAdd, Int.reduceEq, Int.reduceLT, Int.reduceLE, Nat.reduceLT, g3], by simp only [sA, Int.reduceNegSucc, reduceCtorEq, Nat.reduceEqDiff, ↓reduceIte, Nat.reduceAdd, Int.reduceEq, Int.reduceLT, Int.reduceLE, Nat.reduceLT, g4], by simp only [sA, Int.reduceNegSucc, reduceCtorEq, Nat.reduceEqDiff, ↓reduceIte, Nat.reduceAdd, Int.reduceEq, Int.reduceLT, Int.reduceLE, Nat.reduceLT]; try rfl, by simp only [sA, Int.reduceNegSucc, reduceCtorEq, Nat.reduceEqDiff, ↓reduceIte, Nat.reduceAdd, Int.reduceEq, Int.reduceLT, Int.reduceLE, Nat.reduceLT]; simpa [chs] using A20, by simp [chs], by simp only [sA, Int.reduceNegSucc, reduceCtorEq, Nat.reduceEqDiff, ↓reduceIte, Nat.reduceAdd, Int.reduceEq, Int.reduceLT, Int.reduceLE, Nat.reduceLT, g2]; exact hb.ext E06, rfl, E06⟩ ?_
  clear g0 g1 g2 g3 g4 g13
  rintro q T H7 ⟨j3, ps, r, hj3, rfl, g0, g1, g2, g3, g4, g21, A7, hcl, R7, hpr, E07⟩
  have e07 := E07.next
  have hrl : ps.flatten.length + r.length ≤ 1000 := by
    have := congrArg List.length hpr
    rw [List.length_append] at this; omega
  have lr := R7.cel.len
  rw [byts_len] at lr
  have hbl : (rbeginF st l).1.length ≤ 30000 := by
    have h1 := head_len st hS
    unfold rbeginF
    rw [if_pos hz]
    simp only [List.length_append, teH, crlf, List.length_cons, List.length_nil]; omega
  by_cases hlt3 : j3 < cs.length
  · have hlt3' : (j3 : Int) < (cs.length : Int) := by omega
    obtain ⟨z, hz3⟩ := isSome_of_lt hlt3
    have ix := (hc.ext E07).cel.idx .i64 (i := j3) (by rw [ints_len]; exact hlt3)
    have lx := (hc.ext E07).cel.load (ints_get hz3)
    simp only [sA, Int.reduceNegSucc, reduceCtorEq, Nat.reduceEqDiff, ↓reduceIte, Nat.reduceAdd, Int.reduceEq, Int.reduceLT, Int.reduceLE, Nat.reduceLT, g0, g1, g2, g3, g4, g21, lc, hlt3', ix, lx, lr, wrap1 r.length (by omega)]
    refine (pick_spec z (r.length + 1) (by omega) (by omega)).mono ?_
    rintro _ _ ⟨⟨k, hk3, rfl⟩, rfl⟩
    obtain ⟨s8, m8, R8⟩ := R7.take (k := k) (by rw [byts_len]; omega)
    obtain ⟨s9, m9, R9⟩ := arg_from R7 (a := k) (by rw [byts_len]; omega)
    rw [byts_take] at R8
    rw [byts_drop] at R9
    have hk1 : (r.take k).length ≤ 1000 := by rw [List.length_take]; omega
    simp only [sA, Int.reduceNegSucc, reduceCtorEq, Nat.reduceEqDiff, ↓reduceIte, Nat.reduceAdd, Int.reduceEq, Int.reduceLT, Int.reduceLE, Nat.reduceLT, g0, g1, g2, g3, g4, g21, m8]
    refine (rchunk_spec (hB.ext h6 (E07.less hG.1)) (by omega) (R8.cel.more e07) (by omega)).mono ?_
    rintro s10 H8 ⟨A8, E8⟩
    have e8 := E8.next
    have hcc := chunk_len hk1
    obtain ⟨s11, H9, m11, A9, E9, -⟩ := ap_app ((A7.ext (E8 : Ext H7.next H7 H8))) (by omega) (byts_src A8.cel) (by rw [List.length_append]; omega)
    have E09 : Ext H0.next H0 H9 := (E07.trans (E8.less e07)).trans E9
    simp only [sA, Int.reduceNegSucc, reduceCtorEq, Nat.reduceEqDiff, ↓reduceIte, Nat.reduceAdd, Int.reduceEq, Int.reduceLT, Int.reduceLE, Nat.reduceLT, g0, g1, g2, g3, g4, g21, m11, m9, wrap1 j3 (by omega)]
    refine ⟨_, by omega, j3 + 1, ps ++ [r.take k], r.drop k, by omega, rfl, (by first | with_reducible rfl | trivial | rfl | assumption), (by first | with_reducible rfl | trivial | rfl | assumption), (by first | with_reducible rfl | trivial | rfl | assumption), (by first | with_reducible rfl | trivial | rfl | assumption), (by first | with_reducible rfl | trivial | rfl | assumption), (by first | with_reducible rfl | trivial | rfl | assumption), ?_, ?_, R9.ext ((E8.less e07).trans E9), ?_, E09⟩
    · rw [chs_snoc, ← List.append_assoc]; exact A9
    · rw [chs_snoc, List.length_append, List.flatten_append, List.length_append]
      simp only [List.flatten_cons, List.flatten_nil, List.append_nil]; omega
    · rw [List.flatten_append]
      simp only [List.flatten_cons, List.flatten_nil, List.append_nil]
      rw [List.append_assoc, List.take_append_drop]; exact hpr
  have hlt3' : ¬ (j3 : Int) < (cs.length : Int) := by omega
  simp only [sA, Int.reduceNegSucc, reduceCtorEq, Nat.reduceEqDiff, ↓reduceIte, Nat.reduceAdd, Int.reduceEq, Int.reduceLT, Int.reduceLE, Nat.reduceLT, g0, g1, g2, g3, g4, g21, lc, hlt3']
  refine (rchunk_spec (hB.ext h6 (E07.less hG.1)) (by omega) (R7.cel.more e07) (by omega)).mono ?_
  rintro s10 H8 ⟨A8, E8⟩
  have e8 := E8.next
  have hcc := chunk_len (x := r) (by omega)
  obtain ⟨s11, H9, m11, A9, E9, -⟩ := ap_app ((A7.ext (E8 : Ext H7.next H7 H8))) (by omega) (byts_src A8.cel) (by rw [List.length_append]; omega)
  rw [List.append_assoc, ← chs_snoc] at A9
  have E09 : Ext H0.next H0 H9 := (E07.trans (E8.less e07)).trans E9
  have e09 := E09.next
  have hflat : (ps ++ [r]).flatten = body := by simpa using hpr
  have hcl2 : (chs (ps ++ [r])).length ≤ 3000 := by rw [chs_snoc, List.length_append]; omega
  simp only [sA, Int.reduceNegSucc, reduceCtorEq, Nat.reduceEqDiff, ↓reduceIte, Nat.reduceAdd, Int.reduceEq, Int.reduceLT, Int.reduceLE, Nat.reduceLT, g0, g1, g2, g3, g4, m11]
  refine (rend_spec (hG.fwd E09 hG.1) (prs_more (ht.ext E09) e09) hT).mono ?_
  rintro _ Ha ⟨s12, rfl, Aa, Ea⟩
  have ea := Ea.next
  have E0a : Ext H0.next H0 Ha := E09.trans (Ea.less e09)
  by_cases he : (rendF tr).2 = 0
  case neg =>
    have hw : rendF tr = ([], (rendF tr).2) := by
      unfold rendF at he ⊢
      split
      · rename_i h; rw [if_pos h] at he; exact absurd rfl he
      · rfl
    have he' : ¬ (((rendF tr).2 : Nat) : Int) = 0 := by omega
    rw [hw] at Aa
    have l1 : aLenK false s12 = some (.int .i64 0) := byts_len' Aa.cel
    simp only [sA, Int.reduceNegSucc, reduceCtorEq, Nat.reduceEqDiff, ↓reduceIte, Nat.reduceAdd, Int.reduceEq, Int.reduceLT, Int.reduceLE, Nat.reduceLT, ext_0, ext_1, he', l1]
    refine aw E0a fun _ => ?_
    simp only [sA, Int.reduceNegSucc, reduceCtorEq, Nat.reduceEqDiff, ↓reduceIte, Nat.reduceAdd, Int.reduceEq, Int.reduceLT, Int.reduceLE, Nat.reduceLT, fin, wRes, OptP_some]
    try trivial
  obtain ⟨y, rest, rq, p1, p2, p3, p4, p5, p6, p7⟩ := back_chunks (tr := tr) (ps := ps ++ [r]) hS hT (by omega) (by omega) hz hO hflat he
  have hel : (rendF tr).1.length ≤ 20000 := by
    have h2 := hT.take tr.length
    rw [List.take_length] at h2
    unfold rendF
    split
    · simp only [List.length_append, crlf, List.length_cons, List.length_nil]; omega
    · simp
  obtain ⟨s13, Hb, m13, Ab, Eb, -⟩ := ap_app ((A9.ext (Ea : Ext H9.next H9 Ha))) (by omega) (byts_src Aa.cel) (by rw [List.length_append]; omega)
  have E0b : Ext H0.next H0 Hb := E0a.trans Eb
  have e0b := E0b.next
  rw [p1] at Ab
  obtain ⟨q1, q2⟩ := hhs (x := (teN, chW)) (by decide) (by decide)
  simp only [sA, Int.reduceNegSucc, reduceCtorEq, Nat.reduceEqDiff, ↓reduceIte, Nat.reduceAdd, Int.reduceEq, Int.reduceLT, Int.reduceLE, Nat.reduceLT, ext_0, ext_1, he, z0, m13]
  refine (asked_spec (hG.fwd E0b hG.1) Ab.cel p2 (by rw [← p1]; simp only [List.length_append]; omega) p3 p4 p5 (by rw [p6]; omega) (by rw [p7]; exact q1) (by rw [p7]; exact q2)).mono ?_
  rintro _ Hc ⟨m3', σ3', vh', vb', rfl, Qc, hm3', Ec⟩
  have ec := Ec.next
  have hone' : (rqC rq vh' vb').all AVal.one = true := by
    obtain ⟨wh, wb, e, e2, e3, _⟩ := Qc
    rw [e]
    simp only [rqC, List.all_cons, List.all_nil, e2, e3, Bool.and_true]; rfl
  obtain ⟨Hd, md, rd, nd, od⟩ := row_newL Hc noRq (n := 5) rfl
  have md' : oNew Hc [.str [], .str [], .slice none 0 (.known 0), .slice none 0 (.known 0), .bool false] = (cellR Hc.next 5 0, Hd) := md
  obtain ⟨He, me, re, ne, oe⟩ := row_storeN rd (n := 5) rfl (xs := rqC rq vh' vb') rfl hone'
  have le : oLoad true 5 He (cellR Hc.next 5 0) = some (.agg (rqC rq vh' vb')) := row_loadN re (n := 5) rfl
  have Ee : Ext Hc.next Hc He := ⟨by omega, fun c hc => by rw [oe c (by omega), od c (by omega)]⟩
  have E0e : Ext H0.next H0 He := (E0b.trans (Ec.less e0b)).trans (Ee.less (by omega))
  have e0e := E0e.next
  have Qe := Qc.fr (H' := He) (n' := m3') (Nat.le_refl _) (fun _ _ h => h) fun c hc _ => Ee.old c (by omega)
  simp only [sA, Int.reduceNegSucc, reduceCtorEq, Nat.reduceEqDiff, ↓reduceIte, Nat.reduceAdd, Int.reduceEq, Int.reduceLT, Int.reduceLE, Nat.reduceLT, ext_0, ext_1, g0, g1, g2, g3, g4, md', me, le]
  refine (says_spec (hG.fwd E0e hG.1) Qe (by omega) (prs_more (hl.ext E0e) e0e) ((hb.cel.ext E0e).more e0e) p7 p6 htok (by omega)).mono ?_
  rintro _ Hf ⟨rfl, Ef⟩
  simp only [sA, Int.reduceNegSucc, reduceCtorEq, Nat.reduceEqDiff, ↓reduceIte, Nat.reduceAdd, Int.reduceEq, Int.reduceLT, Int.reduceLE, Nat.reduceLT]
  refine aw (E0e.trans (Ef.less e0e)) fun _ => ?_
  simp only [sA, Int.reduceNegSucc, reduceCtorEq, Nat.reduceEqDiff, ↓reduceIte, Nat.reduceAdd, Int.reduceEq, Int.reduceLT, Int.reduceLE, Nat.reduceLT, fin, wRes, OptP_some]
  try trivial
end Go.Proofs.Ht
namespace Go.Proofs
open Go.Shelf
def Tryz.lays159_ren : Go.Shelf.Ren := ⟨fun | 159 => 5 | 165 => 16 | 166 => 17 | 167 => 18 | 169 => 19 | 230 => 20 | 204 => 21 | 240 => 35 | 241 => 36 | 197 => 37 | 118 => 38 | 168 => 39 | 270 => 40 | 262 => 41 | 276 => 53 | 277 => 54 | 260 => 55 | 242 => 56 | 313 => 57 | 278 => 69 | 274 => 70 | 275 => 71 | n => n, fun | 9 => 9 | 4 => 4 | 3 => 3 | 5 => 5 | 72 => 47 | 0 => 0 | 76 => 51 | 75 => 50 | 107 => 56 | 70 => 45 | 20 => 20 | 37 => 23 | 127 => 70 | 21 => 21 | 105 => 71 | 164 => 85 | 162 => 91 | 203 => 89 | 119 => 102 | 46 => 103 | 139 => 106 | 138 => 105 | 51 => 107 | 160 => 108 | 208 => 122 | 206 => 120 | 80 => 54 | n => n, fun | 13 => 0 | 3 => 2 | 4 => 3 | n => n⟩
theorem Tryz.lays159 : Go.Proofs.Lays.n159 Tryz.prog Tryz.lays159_ren := {
  mixed := by kernel_rfl
  f118 := Tryz.func38.trans (congrArg some (by kernel_rfl))
  f159 := Tryz.func5.trans (congrArg some (by kernel_rfl))
  f165 := Tryz.func16.trans (congrArg some (by kernel_rfl))
  f166 := Tryz.func17.trans (congrArg some (by kernel_rfl))
  f167 := Tryz.func18.trans (congrArg some (by kernel_rfl))
  f168 := Tryz.func39.trans (congrArg some (by kernel_rfl))
  f169 := Tryz.func19.trans (congrArg some (by kernel_rfl))
  f197 := Tryz.func37.trans (congrArg some (by kernel_rfl))
  f204 := Tryz.func21.trans (congrArg some (by kernel_rfl))
  f230 := Tryz.func20.trans (congrArg some (by kernel_rfl))
  f240 := Tryz.func35.trans (congrArg some (by kernel_rfl))
  f241 := Tryz.func36.trans (congrArg some (by kernel_rfl))
  f242 := Tryz.func56.trans (congrArg some (by kernel_rfl))
  f260 := Tryz.func55.trans (congrArg some (by kernel_rfl))
  f262 := Tryz.func41.trans (congrArg some (by kernel_rfl))
  f270 := Tryz.func40.trans (congrArg some (by kernel_rfl))
  f274 := Tryz.func70.trans (congrArg some (by kernel_rfl))
  f275 := Tryz.func71.trans (congrArg some (by kernel_rfl))
  f276 := Tryz.func53.trans (congrArg some (by kernel_rfl))
  f277 := Tryz.func54.trans (congrArg some (by kernel_rfl))
  f278 := Tryz.func69.trans (congrArg some (by kernel_rfl))
  f313 := Tryz.func57.trans (congrArg some (by kernel_rfl))
  t0 := Tryz.underlying0
  a0 := Tryz.isAgg0
  z0 := Tryz.sizeOf0
  v0 := Tryz.zeroValue0
  t3 := Tryz.underlying3
  a3 := Tryz.isAgg3
  z3 := Tryz.sizeOf3
  v3 := Tryz.zeroValue3
  t4 := Tryz.underlying4
  a4 := Tryz.isAgg4
  z4 := Tryz.sizeOf4
  v4 := Tryz.zeroValue4
  t5 := Tryz.underlying5
  a5 := Tryz.isAgg5
  z5 := Tryz.sizeOf5
  v5 := Tryz.zeroValue5
  t9 := Tryz.underlying9
  a9 := Tryz.isAgg9
  z9 := Tryz.sizeOf9
  v9 := Tryz.zeroValue9
  t20 := Tryz.underlying20
  a20 := Tryz.isAgg20
  z20 := Tryz.sizeOf20
  v20 := Tryz.zeroValue20
  t21 := Tryz.underlying21
  a21 := Tryz.isAgg21
  z21 := Tryz.sizeOf21
  v21 := Tryz.zeroValue21
  t37 := Tryz.underlying23
  a37 := Tryz.isAgg23
  z37 := Tryz.sizeOf23
  v37 := Tryz.zeroValue23
  t46 := Tryz.underlying103
  a46 := Tryz.isAgg103
  z46 := Tryz.sizeOf103
  v46 := Tryz.zeroValue103
  t51 := Tryz.underlying107
  a51 := Tryz.isAgg107
  z51 := Tryz.sizeOf107
  v51 := Tryz.zeroValue107
  t70 := Tryz.underlying45
  a70 := Tryz.isAgg45
  z70 := Tryz.sizeOf45
  v70 := Tryz.zeroValue45
  t72 := Tryz.underlying47
  a72 := Tryz.isAgg47
  z72 := Tryz.sizeOf47
  v72 := Tryz.zeroValue47
  t75 := Tryz.underlying50
  a75 := Tryz.isAgg50
  z75 := Tryz.sizeOf50
  v75 := Tryz.zeroValue50
  t76 := Tryz.underlying51
  a76 := Tryz.isAgg51
  z76 := Tryz.sizeOf51
  v76 := Tryz.zeroValue51
  t105 := Tryz.underlying71
  a105 := Tryz.isAgg71
  z105 := Tryz.sizeOf71
  v105 := Tryz.zeroValue71
  t107 := Tryz.underlying56
  a107 := Tryz.isAgg56
  z107 := Tryz.sizeOf56
  v107 := Tryz.zeroValue56
  t119 := Tryz.underlying102
  a119 := Tryz.isAgg102
  z119 := Tryz.sizeOf102
  t127 := Tryz.underlying70
  a127 := Tryz.isAgg70
  z127 := Tryz.sizeOf70
  v127 := Tryz.zeroValue70
  t138 := Tryz.underlying105
  a138 := Tryz.isAgg105
  z138 := Tryz.sizeOf105
  v138 := Tryz.zeroValue105
  t139 := Tryz.underlying106
  a139 := Tryz.isAgg106
  z139 := Tryz.sizeOf106
  v139 := Tryz.zeroValue106
  t160 := Tryz.underlying108
  a160 := Tryz.isAgg108
  z160 := Tryz.sizeOf108
  v160 := Tryz.zeroValue108
  t162 := Tryz.underlying91
  a162 := Tryz.isAgg91
  z162 := Tryz.sizeOf91
  v162 := Tryz.zeroValue91
  t164 := Tryz.underlying85
  a164 := Tryz.isAgg85
  z164 := Tryz.sizeOf85
  v164 := Tryz.zeroValue85
  t203 := Tryz.underlying89
  a203 := Tryz.isAgg89
  z203 := Tryz.sizeOf89
  v203 := Tryz.zeroValue89
  t206 := Tryz.underlying120
  a206 := Tryz.isAgg120
  z206 := Tryz.sizeOf120
  v206 := Tryz.zeroValue120
  t208 := Tryz.underlying122
  a208 := Tryz.isAgg122
  z208 := Tryz.sizeOf122
  v208 := Tryz.zeroValue122
  g3 := by kernel_rfl
  g4 := by kernel_rfl
  g13 := by kernel_rfl }
theorem Tryz.Builder_Extra_159 : Builder.Extra Tryz.prog Tryz.lays159_ren := {
  sizeBuilder := by kernel_rfl
  liesBuilder := by kernel_rfl
  t5 := Tryz.underlying5
  a5 := Tryz.isAgg5
  z5 := Tryz.sizeOf5
  v5 := Tryz.zeroValue5
  infoByte := by kernel_rfl
  cellsByte := by kernel_rfl
  sizeByte := by kernel_rfl
  neB5 := by decide }
def Tryz.laysM171_ren : Go.Shelf.Ren := ⟨fun | 171 => 24 | 243 => 43 | 246 => 50 | 283 => 61 | 284 => 62 | 285 => 63 | 286 => 64 | 129 => 84 | 317 => 83 | 318 => 85 | 319 => 86 | 320 => 87 | 337 => 99 | 338 => 100 | n => n, fun | 3 => 3 | 9 => 9 | 2 => 2 | 4 => 4 | 171 => 94 | 0 => 0 | 53 => 95 | 37 => 23 | 5 => 5 | 173 => 98 | 212 => 115 | 51 => 107 | 20 => 20 | 213 => 116 | 46 => 103 | 232 => 133 | 233 => 134 | n => n, fun | 17 => 4 | 18 => 5 | 19 => 6 | n => n⟩
theorem Tryz.laysM171 : Go.Proofs.LaysM.n171 Tryz.prog Tryz.laysM171_ren := {
  mixed := by kernel_rfl
  f129 := Tryz.func84.trans (congrArg some (by kernel_rfl))
  f171 := Tryz.func24.trans (congrArg some (by kernel_rfl))
  f243 := Tryz.func43.trans (congrArg some (by kernel_rfl))
  f246 := Tryz.func50.trans (congrArg some (by kernel_rfl))
  f283 := Tryz.func61.trans (congrArg some (by kernel_rfl))
  f284 := Tryz.func62.trans (congrArg some (by kernel_rfl))
  f285 := Tryz.func63.trans (congrArg some (by kernel_rfl))
  f286 := Tryz.func64.trans (congrArg some (by kernel_rfl))
  f317 := Tryz.func83.trans (congrArg some (by kernel_rfl))
  f318 := Tryz.func85.trans (congrArg some (by kernel_rfl))
  f319 := Tryz.func86.trans (congrArg some (by kernel_rfl))
  f320 := Tryz.func87.trans (congrArg some (by kernel_rfl))
  f337 := Tryz.func99.trans (congrArg some (by kernel_rfl))
  f338 := Tryz.func100.trans (congrArg some (by kernel_rfl))
  t0 := Tryz.underlying0
  a0 := Tryz.isAgg0
  z0 := Tryz.sizeOf0
  v0 := Tryz.zeroValue0
  t2 := Tryz.underlying2
  a2 := Tryz.isAgg2
  z2 := Tryz.sizeOf2
  v2 := Tryz.zeroValue2
  t3 := Tryz.underlying3
  a3 := Tryz.isAgg3
  z3 := Tryz.sizeOf3
  v3 := Tryz.zeroValue3
  t4 := Tryz.underlying4
  a4 := Tryz.isAgg4
  z4 := Tryz.sizeOf4
  v4 := Tryz.zeroValue4
  t5 := Tryz.underlying5
  a5 := Tryz.isAgg5
  z5 := Tryz.sizeOf5
  v5 := Tryz.zeroValue5
  t9 := Tryz.underlying9
  a9 := Tryz.isAgg9
  z9 := Tryz.sizeOf9
  v9 := Tryz.zeroValue9
  t20 := Tryz.underlying20
  a20 := Tryz.isAgg20
  z20 := Tryz.sizeOf20
  v20 := Tryz.zeroValue20
  t37 := Tryz.underlying23
  a37 := Tryz.isAgg23
  z37 := Tryz.sizeOf23
  v37 := Tryz.zeroValue23
  t46 := Tryz.underlying103
  a46 := Tryz.isAgg103
  z46 := Tryz.sizeOf103
  v46 := Tryz.zeroValue103
  t51 := Tryz.underlying107
  a51 := Tryz.isAgg107
  z51 := Tryz.sizeOf107
  v51 := Tryz.zeroValue107
  t53 := Tryz.underlying95
  a53 := Tryz.isAgg95
  z53 := Tryz.sizeOf95
  v53 := Tryz.zeroValue95
  t171 := Tryz.underlying94
  a171 := Tryz.isAgg94
  z171 := Tryz.sizeOf94
  v171 := Tryz.zeroValue94
  t173 := Tryz.underlying98
  a173 := Tryz.isAgg98
  z173 := Tryz.sizeOf98
  v173 := Tryz.zeroValue98
  t212 := Tryz.underlying115
  a212 := Tryz.isAgg115
  z212 := Tryz.sizeOf115
  v212 := Tryz.zeroValue115
  t213 := Tryz.underlying116
  a213 := Tryz.isAgg116
  z213 := Tryz.sizeOf116
  t232 := Tryz.underlying133
  a232 := Tryz.isAgg133
  z232 := Tryz.sizeOf133
  v232 := Tryz.zeroValue133
  t233 := Tryz.underlying134
  a233 := Tryz.isAgg134
  z233 := Tryz.sizeOf134
  v233 := Tryz.zeroValue134
  g17 := by kernel_rfl
  g18 := by kernel_rfl
  g19 := by kernel_rfl
  i0 := by kernel_rfl
  i2 := by kernel_rfl
  i3 := by kernel_rfl
  i4 := by kernel_rfl
  i5 := by kernel_rfl
  i9 := by kernel_rfl
  i20 := by kernel_rfl
  i37 := by kernel_rfl
  i46 := by kernel_rfl
  i51 := by kernel_rfl
  i53 := by kernel_rfl
  i171 := by kernel_rfl
  i173 := by kernel_rfl
  i212 := by kernel_rfl
  i232 := by kernel_rfl
  i233 := by kernel_rfl
  m17 := by kernel_rfl
  m18 := by kernel_rfl
  m19 := by kernel_rfl }
open Go.RowKit Go.Sort Go.Lib in
theorem Tryz.strconv_Itoa (n : Int) (h0 : -9223372036854775808 ≤ n) (h1 : n ≤ 9223372036854775807) (w : World) (htab : Lib.TabIs Tryz.prog w "internal/strconv.uint64pow10" .u64 Lib.pow10Tab) :
    Calls Tryz.prog 24 #[.int .i64 n] w fun e w' => e = .returned (.string ⟨(Lib.itoa n).toArray⟩) ∧ ∃ k os, w' = grow (w.drewN k) os := Any.strconv_Itoa Tryz.laysM171 n h0 h1 w htab
def Tryz.lays145_ren : Go.Shelf.Ren := ⟨fun | 145 => 25 | 220 => 44 | 219 => 58 | 217 => 72 | 225 => 73 | 224 => 74 | 267 => 75 | 266 => 89 | 314 => 90 | n => n, fun | 9 => 9 | 4 => 4 | 59 => 59 | 3 => 3 | 5 => 5 | 46 => 103 | 146 => 123 | 51 => 107 | n => n, fun | 1 => 1 | n => n⟩
theorem Tryz.lays145 : Go.Proofs.Lays.n145 Tryz.prog Tryz.lays145_ren := {
  mixed := by kernel_rfl
  f145 := Tryz.func25.trans (congrArg some (by kernel_rfl))
  f217 := Tryz.func72.trans (congrArg some (by kernel_rfl))
  f219 := Tryz.func58.trans (congrArg some (by kernel_rfl))
  f220 := Tryz.func44.trans (congrArg some (by kernel_rfl))
  f224 := Tryz.func74.trans (congrArg some (by kernel_rfl))
  f225 := Tryz.func73.trans (congrArg some (by kernel_rfl))
  f266 := Tryz.func89.trans (congrArg some (by kernel_rfl))
  f267 := Tryz.func75.trans (congrArg some (by kernel_rfl))
  f314 := Tryz.func90.trans (congrArg some (by kernel_rfl))
  t3 := Tryz.underlying3
  a3 := Tryz.isAgg3
  z3 := Tryz.sizeOf3
  v3 := Tryz.zeroValue3
  t4 := Tryz.underlying4
  a4 := Tryz.isAgg4
  z4 := Tryz.sizeOf4
  v4 := Tryz.zeroValue4
  t5 := Tryz.underlying5
  a5 := Tryz.isAgg5
  z5 := Tryz.sizeOf5
  v5 := Tryz.zeroValue5
  t9 := Tryz.underlying9
  a9 := Tryz.isAgg9
  z9 := Tryz.sizeOf9
  v9 := Tryz.zeroValue9
  t46 := Tryz.underlying103
  a46 := Tryz.isAgg103
  z46 := Tryz.sizeOf103
  v46 := Tryz.zeroValue103
  t51 := Tryz.underlying107
  a51 := Tryz.isAgg107
  z51 := Tryz.sizeOf107
  v51 := Tryz.zeroValue107
  t59 := Tryz.underlying59
  a59 := Tryz.isAgg59
  z59 := Tryz.sizeOf59
  v59 := Tryz.zeroValue59
  t146 := Tryz.underlying123
  a146 := Tryz.isAgg123
  z146 := Tryz.sizeOf123
  v146 := Tryz.zeroValue123
  g1 := by kernel_rfl }
open Go.RowKit Go.Lib in
theorem Tryz.strings_Cut (s sep : ByteArray) (m : Int) (w : World) (hs : s.size < 4294967281) (hm : w.cell? ⟨1, 0, none⟩ = some (.int .i64 m)) :
    Calls Tryz.prog 25 #[.string s, .string sep] w fun e w' => e = .returned (.tuple #[.string ⟨(Lib.cut s.data.toList sep.data.toList).1.toArray⟩, .string ⟨(Lib.cut s.data.toList sep.data.toList).2.1.toArray⟩, .bool (Lib.cut s.data.toList sep.data.toList).2.2]) ∧ ∃ n, w' = w.drewN n := Any.strings_Cut Tryz.lays145 s sep m w hs hm
open Go.RowKit Go.Lib in
theorem Tryz.strings_ToLower_any (s : ByteArray) (w : World) (hs : s.size < 35184372088832) (hV : CaseVar 0 caseA w) (hT : Lib.Utf8Tabs 2 3 w) :
    Calls Tryz.prog 5 #[.string s] w fun e w' => e = .returned (.string ⟨(Lib.toLowerD s.data.toList).toArray⟩) ∧ Below w.heap.size w w' := Any.strings_ToLower_any Tryz.lays159 Tryz.Builder_Extra_159 s w hs hV hT
end Go.Proofs
namespace Go.Proofs.Ht
open Go.Abs Go.Abs.S Go.Proofs Go.Shelf Go.Lib Go.RowKit
theorem below_drawn {w w' : World} (h : ∃ n, w' = w.drewN n) : Below w.heap.size w w' := by
  obtain ⟨n, rfl⟩ := h
  exact ⟨rfl, rfl, rfl, Nat.le_refl _, fun _ _ => rfl⟩
theorem below_grown {w w' : World} {k : Nat} {os : Array Obj} (h : w' = Go.Sort.grow (w.drewN k) os) : Below w.heap.size w w' := by
  subst h
  refine ⟨rfl, rfl, rfl, ?_, fun j hj => ?_⟩
  · simp [Go.Sort.grow, World.drewN]
  · show ((w.drewN k).heap ++ os)[j]? = _
    have : (w.drewN k).heap = w.heap := rfl
    rw [this, Array.getElem?_append_left hj]
theorem strOf_len (s : Bs) : (strOf s).size = s.length := by simp [strOf, ByteArray.size]
theorem arg1 {ρ : Pl} {a : AVal} {vs : Array Value} (hv : VRels ρ [a] vs.toList) : ∃ v, vs = #[v] ∧ VRel ρ a v := by
  simp only [VRels] at hv
  obtain ⟨v, r, e, h, rfl⟩ := hv
  exact ⟨v, by apply Array.toList_inj.1; rw [e], h⟩
theorem arg2 {ρ : Pl} {a b : AVal} {vs : Array Value} (hv : VRels ρ [a, b] vs.toList) : ∃ v u, vs = #[v, u] ∧ VRel ρ a v ∧ VRel ρ b u := by
  simp only [VRels] at hv
  obtain ⟨v, r, e, h, u, r', rfl, h', rfl⟩ := hv
  exact ⟨v, u, by apply Array.toList_inj.1; rw [e], h, h'⟩
theorem hb5 : hasBody Tryz.prog 5 = true := by kernel_rfl
theorem hb24 : hasBody Tryz.prog 24 = true := by kernel_rfl
theorem hb25 : hasBody Tryz.prog 25 = true := by kernel_rfl
theorem natX_ok : NatOK Tryz.prog natX := by
  refine ⟨fun f h => ?_, fun f args H v H' _ hr Prot w0 ρ w vs R hv => ?_⟩
  · have h2 : (Nat.beq f 5 || (Nat.beq f 24 || Nat.beq f 25)) = true := h
    simp only [Bool.or_eq_true, Nat.beq_eq] at h2
    rcases h2 with rfl | rfl | rfl
    · exact hb5
    · exact hb24
    · exact hb25
  · show Calls Tryz.prog f vs w _
    have hr2 : runX f args H = some (v, H') := hr
    unfold runX at hr2
    split at hr2
    · subst_vars
      split at hr2
      · rename_i s
        split at hr2
        · rename_i hc
          obtain ⟨⟨n, hG⟩, hs⟩ := hc
          simp only [Option.some.injEq, Prod.mk.injEq] at hr2
          obtain ⟨rfl, rfl⟩ := hr2
          obtain ⟨u, rfl, hu⟩ := arg1 hv
          simp only [VRel] at hu
          subst hu
          have P := hG.at R
          refine (Tryz.strings_ToLower_any (strOf s) w (by rw [strOf_len]; omega) P.cas P.utf).mono fun e w' ⟨he, hb⟩ => ⟨ρ, _, Pl.le_refl _, he, R.keep hb, ?_⟩
          simp only [VRel, strOf]
        · simp at hr2
      · simp at hr2
    · split at hr2
      · subst_vars
        split at hr2
        · rename_i z
          split at hr2
          · rename_i hc
            obtain ⟨⟨n, hG⟩, h1, h2⟩ := hc
            simp only [Option.some.injEq, Prod.mk.injEq] at hr2
            obtain ⟨rfl, rfl⟩ := hr2
            obtain ⟨u, rfl, hu⟩ := arg1 hv
            simp only [VRel] at hu
            subst hu
            have P := hG.at R
            refine (Tryz.strconv_Itoa z (by omega) (by omega) w P.pow).mono fun e w' ⟨he, k, os, hb⟩ => ⟨ρ, _, Pl.le_refl _, he, R.keep ?_, ?_⟩
            · exact below_grown hb
            · simp only [VRel, strOf]
          · simp at hr2
        · simp at hr2
      · split at hr2
        · subst_vars
          split at hr2
          · rename_i s p
            split at hr2
            · rename_i hc
              obtain ⟨⟨n, hG⟩, hs⟩ := hc
              simp only [Option.some.injEq, Prod.mk.injEq] at hr2
              obtain ⟨rfl, rfl⟩ := hr2
              obtain ⟨u, u', rfl, hu, hu'⟩ := arg2 hv
              simp only [VRel] at hu hu'
              subst hu hu'
              have P := hG.at R
              obtain ⟨m, hm⟩ := P.len
              refine (Tryz.strings_Cut (strOf s) (strOf p) m w (by rw [strOf_len]; omega) hm).mono fun e w' ⟨he, hb⟩ => ⟨ρ, _, Pl.le_refl _, he, R.keep (below_drawn hb), ?_⟩
              simp only [VRel, VRels, strOf]
              refine ⟨_, rfl, _, _, rfl, rfl, _, _, rfl, rfl, _, _, rfl, rfl, rfl⟩
            · simp at hr2
          · simp at hr2
        · simp at hr2
end Go.Proofs.Ht
namespace Go.Abs.S
open Go.Abs Go.RowKit
theorem row_of_cell {W : World} {b i : Nat} {v : Value} (h : W.cell? ⟨b, i, none⟩ = some v) : ∃ C t fz, W.heap[b]? = some (.cells C t fz) ∧ C[i]? = some v := by
  unfold World.cell? at h
  split at h
  · rename_i C t fz hC
    exact ⟨C, t, fz, hC, by simpa using h⟩
  · simp at h
theorem at_world {Prot : Gh} {w0 : World} {ρ : Pl} {H : AHeap} {w : World} (R : Rel Prot w0 ρ H w) {W : World} (e : Ext (heapW W).next (heapW W) H) {b : Nat} {C : Array Value} {t : TypeId} {fz : Nat × Nat} (h : W.heap[b]? = some (.cells C t fz)) :
    ∃ (C' : Array Value) (t' : TypeId) (fz' : Nat × Nat) (L : Loc), w.heap[b]? = some (.cells C' t' fz') ∧ C'.size = C.size ∧ ρ b C.size = some L ∧ L.c = b ∧ L.sh = 0 ∧ ∀ (i : Nat) (v : Value), C[i]? = some v → ∃ v', C'[i]? = some v' ∧ VRel ρ (absW W v) v' := by
  have hb : b < W.heap.size := (Array.getElem?_eq_some_iff.1 h).1
  have hg : H.get b = some (.cells (C.toList.map (absW W)) 0 true) := by
    rw [e.old b hb, heapW_get]
    unfold objW
    simp only [h]
  obtain ⟨L, g1, g2, g3, g4⟩ := R.glob _ _ _ hg
  obtain ⟨x, o, q1, q2, q3⟩ := R.obj _ _ _ g1
  rw [hg] at q1
  simp only [Option.some.injEq] at q1
  subst q1
  simp only [ORel] at q3
  obtain ⟨C', e', lo, hi, rfl, q4, _, q5, q6⟩ := q3
  rw [g2] at q2
  have q7 := q6 (Nat.zero_le _)
  simp only [List.length_map, Array.length_toList] at g1 g4 q7
  refine ⟨C', e', _, L, q2, by rw [q4, g4], g1, g2, g3, fun i v hv => ?_⟩
  have hi : i < C.size := (Array.getElem?_eq_some_iff.1 hv).1
  obtain ⟨x, v', r1, r2, r3⟩ := q7 i (by omega) hi
  rw [g3] at r2
  refine ⟨v', r2, ?_⟩
  have : x = absW W v := by
    rw [List.getElem?_map, Array.getElem?_toList, hv] at r1
    simpa using r1.symm
  rwa [this] at r3
theorem int_world {Prot : Gh} {w0 : World} {ρ : Pl} {H : AHeap} {w : World} (R : Rel Prot w0 ρ H w) {W : World} (e : Ext (heapW W).next (heapW W) H) {b i : Nat} {k : IntKind} {n : Int} (h : W.cell? ⟨b, i, none⟩ = some (.int k n)) : w.cell? ⟨b, i, none⟩ = some (.int k n) := by
  obtain ⟨C, t, fz, h1, h2⟩ := row_of_cell h
  obtain ⟨C', t', fz', L, g1, _, _, _, _, g2⟩ := at_world R e h1
  obtain ⟨v', r1, r2⟩ := g2 i _ h2
  simp only [absW, VRel] at r2
  subst r2
  rw [cell?_of g1, r1]
theorem slice_world {Prot : Gh} {w0 : World} {ρ : Pl} {H : AHeap} {w : World} (R : Rel Prot w0 ρ H w) {W : World} (e : Ext (heapW W).next (heapW W) H) {b i c off len cap : Nat} (h : W.cell? ⟨b, i, none⟩ = some (.slice (some ⟨c, off, none⟩) len cap)) :
    ∃ cap', w.cell? ⟨b, i, none⟩ = some (.slice (some ⟨c, off, none⟩) len cap') := by
  obtain ⟨C, t, fz, h1, h2⟩ := row_of_cell h
  obtain ⟨C', t', fz', L, g1, _, _, _, _, g2⟩ := at_world R e h1
  obtain ⟨v', r1, r2⟩ := g2 i _ h2
  refine ⟨cap, ?_⟩
  rw [cell?_of g1, r1]
  congr 1
  simp only [absW] at r2
  split at r2
  · split at r2
    · rename_i n hn
      split at r2
      · obtain ⟨D, t2, fz2, d1, d2, _⟩ := objW_some hn
        obtain ⟨D', t3, fz3, L', k1, k2, k3, k4, k5, _⟩ := at_world R e d1
        simp only [VRel] at r2
        obtain ⟨L2, m1, m2, m3⟩ := r2
        rw [← d2, k3] at m1
        simp only [Option.some.injEq] at m1
        subst m1
        simp only [SliceRel] at m3
        rw [m3.2, k4, k5]
        simp
      · simp only [VRel] at r2
        exact r2.1
    · simp only [VRel] at r2
      exact r2.1
  · simp only [VRel] at r2
    exact r2.1
theorem row_world {Prot : Gh} {w0 : World} {ρ : Pl} {H : AHeap} {w : World} (R : Rel Prot w0 ρ H w) {W : World} (e : Ext (heapW W).next (heapW W) H) {P : Program} {name : String} {k : IntKind} {zs : List Int} (h : Lib.TabIs P W name k zs) : Lib.TabIs P w name k zs := by
  unfold Lib.TabIs at h ⊢
  cases hn : P.globalNamed name with
  | none => simp [World.var?, hn] at h
  | some g =>
    have h' := h
    simp only [World.var?, hn, Option.bind_some] at h' ⊢
    split at h'
    · rename_i C t fz hC
      simp only [Option.some.injEq] at h'
      subst h'
      obtain ⟨C', t', fz', L, g1, g2, _, _, _, g3⟩ := at_world R e hC
      rw [g1]
      simp only [Option.some.injEq]
      apply Array.ext_getElem?
      intro i
      by_cases hi : i < zs.length
      · have hz : (zs.map fun z => Value.int k z).toArray[i]? = some (.int k zs[i]) := by simp [hi]
        obtain ⟨v', r1, r2⟩ := g3 i _ hz
        simp only [absW, VRel] at r2
        rw [r1, hz, r2]
      · have : C'.size = zs.length := by rw [g2]; simp
        rw [Array.getElem?_eq_none (by omega), Array.getElem?_eq_none (by simp; omega)]
    · simp at h'
end Go.Abs.S
namespace Go.Proofs.Ht
open Go.Abs Go.Abs.S Go.Proofs Go.Shelf Go.Lib Go.RowKit
theorem gx_world {W : World} (h : Prem W) : GX (heapW W).next (heapW W) := by
  refine ⟨Nat.le_refl _, fun H e Prot w0 ρ w R => ⟨?_, ?_, row_world R e h.pow, ?_⟩⟩
  · obtain ⟨b, o, cap, h1, h2⟩ := h.cas
    obtain ⟨cap', h3⟩ := slice_world R e h1
    refine ⟨b, o, cap', h3, fun i hi => ?_⟩
    obtain ⟨a1, a2, a3, a4, a5⟩ := h2 i hi
    exact ⟨int_world R e a1, int_world R e a2, int_world R e a3, int_world R e a4, int_world R e a5⟩
  · exact ⟨fun c hc => int_world R e (h.utf.1 c hc), fun i hi => ⟨int_world R e (h.utf.2 i hi).1, int_world R e (h.utf.2 i hi).2⟩⟩
  · obtain ⟨m, hm⟩ := h.len
    exact ⟨m, int_world R e hm⟩
theorem glo_world {P : Program} {W : World} {name : String} {g : Nat} {k : IntKind} {l : List Int} (hg : P.globalNamed name = some g) (h : TabIs P W name k l) : Glo (heapW W) g (l.map (.int k)) ∧ g < (heapW W).next := by
  unfold TabIs World.var? at h
  simp only [hg, Option.bind_some] at h
  split at h
  · rename_i C t fz hC
    simp only [Option.some.injEq] at h
    subst h
    refine ⟨?_, (Array.getElem?_eq_some_iff.1 hC).1⟩
    unfold Glo
    rw [heapW_get]
    unfold objW
    simp only [hC]
    congr 2
    simp only [List.map_map]
    rfl
  · simp at h
theorem tabIs_of_reads {P : Program} {W : World} {name : String} {k : IntKind} {zs : List Int} {g : Nat} {t e : TypeId} {n : Nat}
    (hg : P.globalNamed name = some g) (hty : (P.globals[g]?).map (·.type) = some t) (ht : P.underlying t = some (.array n e)) (he : P.underlying e = some (.int k)) (hce : P.cellsOf e = 1) (hct : P.cellsOf t = n)
    (h : VarReads P W name (tabData k zs)) : TabIs P W name k zs := by
  obtain ⟨g', t', cs, fuel, p, hg', ht', hvar, hd⟩ := h
  obtain rfl := Option.some.inj (hg.symm.trans hg')
  obtain rfl := Option.some.inj (hty.symm.trans ht')
  unfold TabIs
  rw [hvar, ← cells_of_tab ht he hce hct hd]
end Go.Proofs.Ht
namespace Go.Proofs.Ht
open Go.Abs Go.Abs.S Go.Proofs Go.Shelf Go.Lib Go.RowKit
open Go.Proofs.YticgfaajkcdfaaaGreatDoor
theorem pow_data : (Rows.laid_internal_strconv_uint64pow10 : DataW Unit) = tabData .u64 pow10Tab := by kernel_rfl
theorem b64_data : (Rows.laid_math_bits_deBruijn64tab : DataW Unit) = tabData .u8 b64L := by kernel_rfl
theorem acc_data : (Rows.laid_unicode_utf8_acceptRanges : DataW Unit) = acceptData := by kernel_rfl
theorem first_data : Rows.laid_unicode_utf8_first = firstData := by kernel_rfl
theorem case_data : Rows.laid_unicode_CaseRanges = caseData := by kernel_rfl
abbrev laidB : List (String × DataW Unit) := Rows.replyBackUptoRow.laid
theorem len_world {W : World} (h : W.ShapedOpen Tryz.prog) : ∃ m : Int, W.cell? ⟨1, 0, none⟩ = some (.int .i64 m) :=
  cell_of_shapedOpen_int (zero := #[.int .i64 0]) (t := 3) h (of_decide_eq_true (by kernel_rfl)) (by kernel_rfl) rfl (by kernel_rfl) (by kernel_rfl) Tryz.underlying3
theorem pow_name : Tryz.prog.globalNamed "internal/strconv.uint64pow10" = some 4 := by kernel_rfl
theorem b64_name : Tryz.prog.globalNamed "math/bits.deBruijn64tab" = some 6 := by kernel_rfl
theorem pow_type : (Tryz.prog.globals[4]?).map (·.type) = some 115 := by kernel_rfl
theorem b64_type : (Tryz.prog.globals[6]?).map (·.type) = some 134 := by kernel_rfl
theorem prem_laid {W : World} (hL : laidMetH Tryz.prog laidB W) (hS : W.ShapedOpen Tryz.prog) : Prem W ∧ TabIs Tryz.prog W "math/bits.deBruijn64tab" .u8 b64L := by
  have hL' : laidMet Tryz.prog laidB W := hL
  have h1 : VarReads Tryz.prog W "math/bits.deBruijn64tab" (tabData .u8 b64L) := b64_data ▸ Lib.laidMet.reads hL' (.tail _ (.head _))
  have h2 : VarReads Tryz.prog W "internal/strconv.uint64pow10" (tabData .u64 pow10Tab) := pow_data ▸ Lib.laidMet.reads hL' (.tail _ (.tail _ (.head _)))
  have h3 : VarReads Tryz.prog W "unicode/utf8.acceptRanges" acceptData := acc_data ▸ Lib.laidMet.reads hL' (.tail _ (.tail _ (.tail _ (.head _))))
  have h4 : VarReads Tryz.prog W "unicode.CaseRanges" caseData := case_data ▸ Lib.laidMet.reads hL' (.tail _ (.tail _ (.tail _ (.tail _ (.head _)))))
  have h5 : VarReads Tryz.prog W "unicode/utf8.first" firstData := first_data ▸ Lib.laidMet.reads hL' (.tail _ (.tail _ (.tail _ (.tail _ (.tail _ (.head _))))))
  exact ⟨⟨caseVar_of_reads { Tryz.lays159 with } Tryz.lays159.t206 ⟨by kernel_rfl, by kernel_rfl, by kernel_rfl, by kernel_rfl, by kernel_rfl, by kernel_rfl⟩ h4,
    utf8Tabs_of_reads { Tryz.lays159 with } ⟨by kernel_rfl, by kernel_rfl, by kernel_rfl, by kernel_rfl, by kernel_rfl, by kernel_rfl, by kernel_rfl⟩ h5 h3,
    tabIs_of_reads pow_name pow_type Tryz.underlying115 Tryz.underlying95 (by kernel_rfl) (by kernel_rfl) h2, len_world hS⟩,
    tabIs_of_reads b64_name b64_type Tryz.underlying134 Tryz.underlying5 (by kernel_rfl) (by kernel_rfl) h1⟩
end Go.Proofs.Ht
namespace Go.Abs.S
open Go.Abs Go.WideShapes Go.ChangeShapes
variable {H : Type} {enc : TypeId × Value → H}
theorem arg_pairsB {P : Program} {W : World} {base : Nat} {t e : TypeId} {f0 f1 : Field} {v : Value} {d : DataW H} {p : List MemPlace} (ht : P.underlying t = some (.slice e)) (he : P.underlying e = some (.struct #[f0, f1])) (hm : P.cellsOf e = 2)
    (h0 : P.underlying f0.type = some .string) (h1 : P.underlying f1.type = some .string) (o0 : f0.offset = 0) (o1 : f1.offset = 1) (c0 : P.cellsOf f0.type = 1) (c1 : P.cellsOf f1.type = 1)
    (hok : Value.okWide P W .any base t v) (h : DataW.Trod enc P W 0 (fun _ => true) true t v d p) {B : Nat} (hsz : ∀ els sp, d = .slice els sp → ∀ (i : Nat) (s u : List UInt8), els[i]? = some (.agg [.lit (.string s), .lit (.string u)]) → s.length ≤ B ∧ u.length ≤ B) :
    ∃ l : List (List UInt8 × List UInt8), Prs (heapW W).next (heapW W) (absW W v) l ∧ (∀ q ∈ l, q.1.length ≤ B ∧ q.2.length ≤ B) ∧ (absW W v).one = true := by
  rcases arg_slice ht (by omega) hok h with ⟨h2, _⟩ | ⟨c, n, off, len, cap, els, sp, h2, h3, h4, h5, h6, h7, h8⟩
  · exact ⟨[], .inl ⟨h2, rfl⟩, by simp, by rw [h2]; rfl⟩
  · subst h6
    have key : ∀ i, i < len → ∃ q : List UInt8 × List UInt8, rdCells (heapW W) ⟨c, n, off + i * 2⟩ 2 = some [.str q.1, .str q.2] ∧ q.1.length ≤ B ∧ q.2.length ≤ B := by
      intro i hi
      obtain ⟨cs, k, y, g1, g2, g3, g4⟩ := h8 i hi
      rw [hm] at g1 g2
      obtain ⟨y0, y1, m, rfl, _, t0, t1⟩ := trod_struct2 he g3
      rw [o0, c0] at t0
      rw [o1, c1] at t1
      obtain ⟨a, b, rfl⟩ : ∃ a b, cs = [a, b] := by
        match cs, g1 with
        | [a, b], _ => exact ⟨a, b, rfl⟩
      obtain ⟨s, e1, rfl, l1⟩ := DataW.trod_string h0 t0
      obtain ⟨u, e2, rfl, l2⟩ := DataW.trod_string h1 t1
      simp at e1 e2
      subst e1 e2
      have hw := hsz _ _ rfl i s.data.toList u.data.toList (by simpa using g4)
      refine ⟨(s.data.toList, u.data.toList), by simpa [absW] using g2, hw.1, hw.2⟩
    have hall : ∀ k, k ≤ len → ∃ l : List (List UInt8 × List UInt8), l.length = k ∧ ∀ i q, l[i]? = some q → rdCells (heapW W) ⟨c, n, off + i * 2⟩ 2 = some [.str q.1, .str q.2] ∧ q.1.length ≤ B ∧ q.2.length ≤ B := by
      intro k
      induction k with
      | zero => intro _; exact ⟨[], rfl, by simp⟩
      | succ k ih =>
        intro hk
        obtain ⟨l, hl, hq⟩ := ih (by omega)
        obtain ⟨q, hq1⟩ := key k (by omega)
        refine ⟨l ++ [q], by simp [hl], fun i r hr => ?_⟩
        by_cases hi : i < l.length
        · rw [List.getElem?_append_left hi] at hr
          exact hq i r hr
        · rw [List.getElem?_append_right (by omega)] at hr
          have h0 : i - l.length = 0 := by
            rcases Nat.eq_zero_or_pos (i - l.length) with h0 | h0
            · exact h0
            · rw [List.getElem?_eq_none (by simp; omega)] at hr; simp at hr
          rw [h0] at hr
          simp at hr
          subst hr
          rw [show i = k by omega]
          exact hq1
    obtain ⟨l, hl, hq⟩ := hall len (Nat.le_refl _)
    refine ⟨l, .inr ⟨⟨c, n, off⟩, .known cap, by rw [h2, hl], h5, fun i q hi => (hq i q hi).1⟩, fun q hqm => ?_, by rw [h2]; rfl⟩
    · obtain ⟨i, hi⟩ := List.mem_iff_getElem?.1 hqm
      exact (hq i q hi).2
end Go.Abs.S
namespace Go.Abs
open Go.ChangeShapes Go.WideShapes Go.ChangeAt Go.RowKit
section
variable {H : Type} {enc : TypeId × Value → H} {P : Program}
theorem trodAll_below {W W' : World} {base : Nat} {sp : Nat → Bool} {held : Bool} (hb : Below W.heap.size W W') : ∀ {ts : List TypeId} {vs : List Value} {ds : List (DataW H)} {ps : List MemPlace},
    DataW.TrodAll enc P W base sp held ts vs ds ps → DataW.TrodAll enc P W' base sp held ts vs ds ps
  | [], [], [], _, h => h
  | _ :: _, _ :: _, _ :: _, _, ⟨p, q, ⟨n, h1⟩, h2, e⟩ => by
    refine ⟨p, q, ⟨n, DataW.trod_carry n _ _ _ h1 fun x hx => hb.same (DataW.trod_lt n _ _ _ h1 x hx)⟩, trodAll_below hb h2, e⟩
theorem trodVars_below {W W' : World} {sp : Nat → Bool} {gs : List (DataW H)} {q : List MemPlace} (h : DataW.TrodVars enc P W sp [] gs q) : DataW.TrodVars enc P W' sp [] gs q := by
  obtain ⟨rfl, rfl⟩ := trodVars_none h
  exact h
theorem law_post {f : Func} {s : ChangeSpec} {apart : Bool} {W W' : World} {args : Array Value} {ds gs : List (DataW H)} {before : List MemPlace} {tb : TypeId}
    (hl : laidOutB P = true) (hm : mapsRowed P = true)
    (hz : ((List.range P.types.size).all fun t => match P.underlying t with | some (.slice e) => decide (0 < P.cellsOf e) | _ => true) = true)
    (hts : (f.params.toList.all fun t => decide (t < P.types.size)) = true) (hv : s.vars = [])
    (hW : DataW.Whole enc P f.params.toList s.vars apart W args.toList ds gs before)
    (hfn : s.fn H (ds ++ gs) = { results := [.lit (.bool true)], args := ds }) (hr : f.resultTypes = #[tb]) (ht : P.underlying tb = some .bool) (hb : Below W.heap.size W W') :
    s.post enc P f apart true false false W args (.bool true) W' := by
  have hlt : ∀ p ∈ before, p.block < W.heap.size := fun p hp => hW.lt p hp
  have hW0 := hW
  obtain ⟨p, q, hA, hV, rfl, hfz, hnd⟩ := hW
  rw [hv] at hV
  obtain ⟨rfl, rfl⟩ := trodVars_none hV
  have hT : ∀ t ∈ f.params.toList, t < P.types.size := fun t ht => by simpa using List.all_eq_true.1 hts t ht
  refine ⟨ds, [], p ++ [], [], p, [], hW0, ?_, ?_, ?_, World.keptBut_mono (fun x hx => ⟨hx, by simpa using hx⟩) (hb.frame (· ∈ p ++ [])), fun h => by simp at h⟩
  · rw [hfn, hr]
    exact trodAll_cons_mk (shut_bool ht _) trodAll_mk0
  · rw [hfn]
    refine trodAll_below hb (DataW.TrodAll.respare (kids_rows hl hm) (slices_full_of P hz) hT hA fun x hx => ?_)
    simpa using hlt x (by simpa using hx)
  · rw [hfn, hv]
    exact trodVars_below (W := W) hV
end
end Go.Abs
namespace Go.Abs
open Go.ChangeShapes Go.WideShapes Go.RowKit
end Go.Abs
