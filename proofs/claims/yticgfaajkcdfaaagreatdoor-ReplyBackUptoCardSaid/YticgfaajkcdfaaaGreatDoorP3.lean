/- Part of a proof (A8f A9 A10); no condition. -/
import Derived.ChangeKeysEq
import Derived.Laws.Sem
import Derived.MapKept
import Derived.Carry
import Derived.Test.YticgfaajkcdfaaaGreatDoorP2
set_option linter.unusedSimpArgs false
set_option linter.unusedVariables false
set_option linter.unnecessarySimpa false
namespace Go.Abs
section
variable {P : Program} {Prot : Gh} {w0 : World} {ρ : Pl} {H H' : AHeap} {w : World}
def kcOf (P : Program) (t : TypeId) : Option KC := match P.underlying t with
  | some (.int _) => some .int
  | some .string => some .str
  | some (.array n e) => match P.underlying e, tyOf P e with
    | some (.int _), some (false, 1) => some (.arr n)
    | _, _ => none
  | _ => none
def zeroA (P : Program) (t : TypeId) : Option AVal := match P.info? t with
  | some i => match i.zero with
    | some z => absC z
    | none => none
  | none => none
theorem zeroA_ok {t : TypeId} {x : AVal} (h : zeroA P t = some x) : ∃ z, (∀ W, (zeroValue t).run P W = .ok z W) ∧ ∀ ρ, VRel ρ x z := by
  unfold zeroA at h
  split at h
  · rename_i i hi
    split at h
    · rename_i z hz
      exact ⟨z, fun W => by simp [zeroValue, run_typeInfo W hi, hz], fun ρ => absC_ok h⟩
    · simp at h
  · simp at h
theorem kEqs_ok : ∀ {l m : List AVal}, kEqs l m = some true → ∀ {vs us : List Value}, VRels ρ l vs → VRels ρ m us → vs = us
  | [], [], _, vs, us, hv, hu => by
    simp only [VRels] at hv hu
    subst hv hu; rfl
  | .int k a :: l, .int k' c :: m, h, vs, us, hv, hu => by
    simp only [VRels, VRel] at hv hu
    obtain ⟨v, r, rfl, rfl, hv⟩ := hv
    obtain ⟨u, s, rfl, rfl, hu⟩ := hu
    simp only [kEqs] at h
    split at h
    · rename_i hk
      subst hk
      rw [eqF_eq] at h
      by_cases e : a = c
      · subst e
        simp only [beq_self_eq_true, cond_true] at h
        rw [kEqs_ok h hv hu]
      · have : (a == c) = false := by simpa using e
        rw [this] at h
        simp at h
    · simp at h
theorem kEq_int {x y : AVal} {b : Bool} (h : kEq .int x y = some b) : ∃ k a c, x = .int k a ∧ y = .int k c ∧ b = (a == c) := by
  cases x <;> simp only [kEq, reduceCtorEq] at h
  rename_i k a
  cases y <;> simp only [kEq, reduceCtorEq] at h
  rename_i k' c
  split at h
  · rename_i hk
    subst hk
    simp only [Option.some.injEq] at h
    exact ⟨k, a, c, rfl, rfl, by rw [← h, eqF_eq]⟩
  · simp at h
theorem kEq_str {x y : AVal} {b : Bool} (h : kEq .str x y = some b) : ∃ a c, x = .str a ∧ y = .str c ∧ b = (a == c) := by
  cases x <;> simp only [kEq, reduceCtorEq] at h
  rename_i a
  cases y <;> simp only [kEq, reduceCtorEq] at h
  rename_i c
  simp only [Option.some.injEq] at h
  exact ⟨a, c, rfl, rfl, h.symm⟩
theorem kEq_arr {n : Nat} {x y : AVal} {b : Bool} (h : kEq (.arr n) x y = some b) : ∃ l m, x = .agg l ∧ y = .agg m ∧ l.length = n ∧ m.length = n ∧ kEqs l m = some b := by
  cases x <;> simp only [kEq, reduceCtorEq] at h
  rename_i l
  cases y <;> simp only [kEq, reduceCtorEq] at h
  rename_i m
  cases hg : (Nat.beq l.length n && Nat.beq m.length n) with
  | false => rw [hg] at h; simp at h
  | true =>
    rw [hg] at h
    simp only [cond_true] at h
    simp only [Bool.and_eq_true] at hg
    exact ⟨l, m, rfl, rfl, Nat.eq_of_beq_eq_true hg.1, Nat.eq_of_beq_eq_true hg.2, h⟩
theorem cells_of {t : TypeId} {a : Bool} {n : Nat} (h : tyOf P t = some (a, n)) : P.cellsOf t = n ∧ ∃ i, P.info? t = some i := by
  unfold tyOf at h
  split at h <;> simp only [Option.some.injEq, Prod.mk.injEq, reduceCtorEq] at h
  all_goals
    rename_i hi
    exact ⟨by simp [Program.cellsOf, hi, h.2], _, hi⟩
theorem eqItems_ok {e : TypeId} {kk : IntKind} (he : P.underlying e = some (.int kk)) (T : Ty P e false 1) {L M : List AVal} {xs ys : Array Value} (hL : VRels ρ L xs.toList) (hM : VRels ρ M ys.toList) (d : Nat) :
    ∀ (k o : Nat) (b : Bool), L.length = o + k → M.length = o + k → kEqs (L.drop o) (M.drop o) = some b → (Op.eqItems (d + 1) e 1 xs ys (List.range' o k)).run P w = .ok b w := by
  intro k
  induction k with
  | zero =>
    intro o b h1 h2 h
    rw [List.drop_eq_nil_of_le (by omega), List.drop_eq_nil_of_le (by omega)] at h
    simp only [kEqs, Option.some.injEq] at h
    subst h
    simp [Op.eqItems]
  | succ k ih =>
    intro o b h1 h2 h
    have hl : o < L.length := by omega
    have hm : o < M.length := by omega
    rw [List.drop_eq_getElem_cons hl, List.drop_eq_getElem_cons hm] at h
    have gl : L[o]? = some L[o] := List.getElem?_eq_getElem hl
    have gm : M[o]? = some M[o] := List.getElem?_eq_getElem hm
    generalize L[o] = x at *
    generalize M[o] = y at *
    obtain ⟨u, u1, u2⟩ := part_ok (P := P) (w := w) T hL (off := o) (y := x) (by simpa [aPart] using gl)
    obtain ⟨v, v1, v2⟩ := part_ok (P := P) (w := w) T hM (off := o) (y := y) (by simpa [aPart] using gm)
    unfold kEqs at h
    split at h
    · rename_i heq _; simp at heq
    · rename_i k1 a l k2 c m e1 e2
      simp only [List.cons.injEq] at e1 e2
      obtain ⟨rfl, rfl⟩ := e1
      obtain ⟨rfl, rfl⟩ := e2
      simp only [VRel] at u2 v2
      subst u2 v2
      split at h
      · rename_i hk
        subst hk
        rw [eqF_eq] at h
        rw [List.range'_succ]
        simp only [Op.eqItems, Nat.mul_one, Sem.run_bind, u1, v1, Result.andThen_ok]
        have hq : (Op.equalIn (d + 1) e (.int k1 a) (.int k1 c)).run P w = .ok (a == c) w := by
          simp [Op.equalIn, run_underlying he]
        rw [hq]
        cases hac : (a == c) with
        | true =>
          rw [hac] at h
          simp only [Result.andThen_ok, Bool.not_true, Bool.false_eq_true, if_false]
          exact ih (o + 1) b (by omega) (by omega) h
        | false =>
          rw [hac] at h
          simp only [cond_false, Option.some.injEq] at h
          subst h
          simp
      · simp at h
    · simp at h
def Found (ρ : Pl) (v : Value) (es : List Ent) (ES : List MapEntry) (i : Nat) : Option (Nat × Ent) → Option (Nat × Value) → Prop
  | none, r => r = none
  | some (j, e), r => i ≤ j ∧ ∃ E, r = some (j, E.val) ∧ es[j - i]? = some e ∧ ES[j - i]? = some E ∧ EntryRel ρ e E ∧ E.key = v
theorem Found.step {v : Value} {e : Ent} {es : List Ent} {E : MapEntry} {ES : List MapEntry} {i : Nat} {r : Option (Nat × Ent)} {r' : Option (Nat × Value)} (h : Found ρ v es ES (i + 1) r r') : Found ρ v (e :: es) (E :: ES) i r r' := by
  cases r with
  | none => exact h
  | some p =>
    obtain ⟨j, x⟩ := p
    obtain ⟨h1, E', h2, h3, h4, h5⟩ := h
    refine ⟨by omega, E', h2, ?_, ?_, h5⟩
    · rw [show j - i = (j - (i + 1)) + 1 by omega]; simpa using h3
    · rw [show j - i = (j - (i + 1)) + 1 by omega]; simpa using h4
theorem now_ok {kc : KC} {d : TypeDesc} (hd : (kc = .int ∧ ∃ k, d = .int k) ∨ (kc = .str ∧ d = .string)) {x : AVal} {v : Value} (hx : VRel ρ x v) : ∀ (es : List Ent) (ES : List MapEntry) (i : Nat) (r : Option (Nat × Ent)), EntriesRel ρ es ES → mFind kc x es i = some r →
    ∃ r', Instr.findNow d v ES i = some r' ∧ Found ρ v es ES i r r' := by
  intro es
  induction es with
  | nil =>
    intro ES i r hE h
    simp only [mFind, Option.some.injEq] at h
    simp only [EntriesRel] at hE
    subst h hE
    exact ⟨none, rfl, rfl⟩
  | cons e es ih =>
    intro ES i r hE h
    simp only [EntriesRel] at hE
    obtain ⟨E, ES', rfl, hEE, hE⟩ := hE
    obtain ⟨he1, he2, he3⟩ := hEE
    have key : ∀ b, kEq kc x e.1 = some b → Instr.sameNow d v E.key = some b ∧ (b = true → E.key = v) := by
      intro b hb
      rcases hd with ⟨rfl, k, rfl⟩ | ⟨rfl, rfl⟩
      · obtain ⟨k1, a, c, hx1, hx2, rfl⟩ := kEq_int hb
        rw [hx1] at hx
        rw [hx2] at he1
        simp only [VRel] at hx he1
        rw [hx, he1]
        refine ⟨by simp [Instr.sameNow], fun ht => ?_⟩
        have : a = c := by simpa using ht
        rw [this]
      · obtain ⟨a, c, hx1, hx2, rfl⟩ := kEq_str hb
        rw [hx1] at hx
        rw [hx2] at he1
        simp only [VRel] at hx he1
        rw [hx, he1]
        have hs : (strOf a == strOf c) = (a == c) := by
          rw [Bool.eq_iff_iff, MapKept.bytes_beq]
          simp only [beq_iff_eq]
          exact ⟨fun q => by simpa [strOf] using congrArg (fun s : ByteArray => s.data.toList) q, fun q => by rw [q]⟩
        refine ⟨by simp only [Instr.sameNow, hs], fun ht => ?_⟩
        have : a = c := by simpa using ht
        rw [this]
    simp only [mFind] at h
    split at h
    · rename_i hb
      simp only [Option.some.injEq] at h
      subst h
      obtain ⟨k1, k2⟩ := key _ hb
      exact ⟨some (i, E.val), by simp [Instr.findNow, k1], Nat.le_refl _, E, rfl, by simp, by simp, ⟨he1, he2, he3⟩, k2 rfl⟩
    · rename_i hb
      obtain ⟨k1, k2⟩ := key _ hb
      obtain ⟨r', q1, q2⟩ := ih ES' (i + 1) r hE h
      exact ⟨r', by simp [Instr.findNow, k1, q1], q2.step⟩
    · simp at h
theorem asking_ok {kt e : TypeId} {n : Nat} {kk : IntKind} (hu : P.underlying kt = some (.array n e)) (he : P.underlying e = some (.int kk)) (hT : tyOf P e = some (false, 1)) {x : AVal} {v : Value} (hx : VRel ρ x v) : ∀ (es : List Ent) (ES : List MapEntry) (i : Nat) (r : Option (Nat × Ent)), EntriesRel ρ es ES → mFind (.arr n) x es i = some r →
    ∃ r', (Instr.findAsking kt v ES i).run P w = .ok r' w ∧ Found ρ v es ES i r r' := by
  intro es
  induction es with
  | nil =>
    intro ES i r hE h
    simp only [mFind, Option.some.injEq] at h
    simp only [EntriesRel] at hE
    subst h hE
    exact ⟨none, rfl, rfl⟩
  | cons e0 es ih =>
    intro ES i r hE h
    simp only [EntriesRel] at hE
    obtain ⟨E, ES', rfl, hEE, hE⟩ := hE
    obtain ⟨he1, he2, he3⟩ := hEE
    have key : ∀ b, kEq (.arr n) x e0.1 = some b → (Op.equal kt v E.key).run P w = .ok b w ∧ (b = true → E.key = v) := by
      intro b hb
      obtain ⟨l, m, hx1, hx2, h1, h2, hb⟩ := kEq_arr hb
      rw [hx1] at hx
      rw [hx2] at he1
      simp only [VRel] at hx he1
      obtain ⟨xs, rfl, hxs⟩ := hx
      obtain ⟨ys, hy, hys⟩ := he1
      obtain ⟨hc1, i0, hi0⟩ := cells_of hT
      rw [hy]
      constructor
      · show (Op.equalIn (9998 + 1 + 1) kt (.agg xs) (.agg ys)).run P w = _
        rw [run_equalIn_array w (9998 + 1) xs ys hu hi0, hc1, List.range_eq_range']
        exact eqItems_ok he (ty_of hT) hxs hys 9998 n 0 b (by omega) (by omega) (by simpa using hb)
      · intro ht
        subst ht
        rw [Array.toList_inj.1 (kEqs_ok hb hxs hys)]
    simp only [mFind] at h
    split at h
    · rename_i hb
      simp only [Option.some.injEq] at h
      subst h
      obtain ⟨k1, k2⟩ := key _ hb
      exact ⟨some (i, E.val), by simp [Instr.findAsking, k1], Nat.le_refl _, E, rfl, by simp, by simp, ⟨he1, he2, he3⟩, k2 rfl⟩
    · rename_i hb
      obtain ⟨k1, k2⟩ := key _ hb
      obtain ⟨r', q1, q2⟩ := ih ES' (i + 1) r hE h
      exact ⟨r', by simp [Instr.findAsking, k1, q1], q2.step⟩
    · simp at h
theorem kcOf_cases {kt : TypeId} {kc : KC} (h : kcOf P kt = some kc) : (∃ k, kc = .int ∧ P.underlying kt = some (.int k)) ∨ (kc = .str ∧ P.underlying kt = some .string) ∨ ∃ n e kk, kc = .arr n ∧ P.underlying kt = some (.array n e) ∧ P.underlying e = some (.int kk) ∧ tyOf P e = some (false, 1) := by
  unfold kcOf at h
  split at h
  · rename_i k hu
    simp only [Option.some.injEq] at h
    exact .inl ⟨k, h.symm, hu⟩
  · rename_i hu
    simp only [Option.some.injEq] at h
    exact .inr (.inl ⟨h.symm, hu⟩)
  · rename_i n e hu
    split at h
    · rename_i kk he hT
      simp only [Option.some.injEq] at h
      exact .inr (.inr ⟨n, e, kk, h.symm, hu, he, hT⟩)
    · simp at h
  · simp at h
theorem findKey_ok {kt : TypeId} {kc : KC} (hk : kcOf P kt = some kc) {x : AVal} {v : Value} (hx : VRel ρ x v) {es : List Ent} {ES : List MapEntry} {r : Option (Nat × Ent)} (hE : EntriesRel ρ es ES) (h : mFind kc x es 0 = some r) :
    ∃ r', (Instr.findKey kt v ES).run P w = .ok r' w ∧ Found ρ v es ES 0 r r' := by
  rcases kcOf_cases hk with ⟨k, rfl, hu⟩ | ⟨rfl, hu⟩ | ⟨n, e, kk, rfl, hu, he, hT⟩
  · obtain ⟨r', q1, q2⟩ := now_ok (d := .int k) (.inl ⟨rfl, k, rfl⟩) hx es ES 0 r hE h
    exact ⟨r', by simp [Instr.findKey, run_underlying hu, q1], q2⟩
  · obtain ⟨r', q1, q2⟩ := now_ok (d := .string) (.inr ⟨rfl, rfl⟩) hx es ES 0 r hE h
    exact ⟨r', by simp [Instr.findKey, run_underlying hu, q1], q2⟩
  · cases es with
    | nil =>
      simp only [mFind, Option.some.injEq] at h
      simp only [EntriesRel] at hE
      subst h hE
      exact ⟨none, by simp [Instr.findKey, run_underlying hu, Instr.findNow], rfl⟩
    | cons e0 es =>
      obtain ⟨r', q1, q2⟩ := asking_ok (w := w) hu he hT hx (e0 :: es) ES 0 r hE h
      refine ⟨r', ?_, q2⟩
      simp only [EntriesRel] at hE
      obtain ⟨E, ES', rfl, _, _⟩ := hE
      have hn : Instr.findNow (.array n e) v (E :: ES') 0 = none := by
        unfold Instr.findNow
        have : Instr.sameNow (.array n e) v E.key = none := by
          cases v <;> cases E.key <;> rfl
        rw [this]
      simp [Instr.findKey, run_underlying hu, hn, q1]
theorem isKs_int : ∀ {l : List AVal}, isKs l = true → ∀ x ∈ l, ∃ k n, x = .int k n
  | [], _, x, hx => by simp at hx
  | .int k n :: l, h, x, hx => by
    rcases List.mem_cons.1 hx with rfl | hx
    · exact ⟨_, _, rfl⟩
    · exact isKs_int (l := l) h x hx
theorem check1 {t : TypeId} {k : IntKind} (hu : P.underlying t = some (.int k)) (em : Bool) (d : Nat) (x : Value) : (Instr.checkKey em (d + 1) t x).run P w = .ok () w := by
  simp [Instr.checkKey, run_underlying hu]
theorem check2 {t : TypeId} (hu : P.underlying t = some .string) (em : Bool) (d : Nat) (x : Value) : (Instr.checkKey em (d + 1) t x).run P w = .ok () w := by
  simp [Instr.checkKey, run_underlying hu]
theorem checkKey_ok {kt : TypeId} {kc : KC} (hk : kcOf P kt = some kc) {x : AVal} {v : Value} (hx : VRel ρ x v) (hi : isK kc x = true) (em : Bool) : (Instr.checkKey em 10000 kt v).run P w = .ok () w := by
  rcases kcOf_cases hk with ⟨k, rfl, hu⟩ | ⟨rfl, hu⟩ | ⟨n, e, kk, rfl, hu, he, hT⟩
  · cases x <;> simp only [isK, Bool.false_eq_true] at hi
    simp only [VRel] at hx; subst hx
    exact check1 hu em 9999 _
  · cases x <;> simp only [isK, Bool.false_eq_true] at hi
    simp only [VRel] at hx; subst hx
    exact check2 hu em 9999 _
  · cases x <;> simp only [isK, Bool.false_eq_true] at hi
    rename_i l
    simp only [Bool.and_eq_true] at hi
    have hl := Nat.eq_of_beq_eq_true hi.1
    have hint := isKs_int hi.2
    simp only [VRel] at hx
    obtain ⟨xs, rfl, hxs⟩ := hx
    show (Instr.checkKey em (9998 + 1 + 1) kt _).run P w = _
    rw [Instr.checkKey]
    simp only [Sem.run_bind, run_underlying hu, Result.andThen_ok]
    simp only [Std.Legacy.Range.forIn_eq_forIn_range', Std.Legacy.Range.size, Nat.sub_zero, Nat.add_one_sub_one, Nat.div_one]
    have hT' := ty_of hT
    have key : ∀ (k o : Nat), o + k = n → ((forIn (List.range' o k) PUnit.unit fun i _ => do
        let a ← sizeOf e
        let b ← part e xs (i * a)
        Instr.checkKey em (9998 + 1) e b
        pure (ForInStep.yield PUnit.unit)) : Sem PUnit).run P w = .ok PUnit.unit w := by
      intro k
      induction k with
      | zero => intro o _; simp
      | succ k ih =>
        intro o ho
        have hlt : o < l.length := by omega
        have gl : l[o]? = some l[o] := List.getElem?_eq_getElem hlt
        obtain ⟨k1, a, hxa⟩ := hint l[o] (List.getElem_mem hlt)
        obtain ⟨u, u1, u2⟩ := part_ok (P := P) (w := w) hT' hxs (off := o) (y := l[o]) (by simpa [aPart] using gl)
        rw [hxa] at u2
        simp only [VRel] at u2
        subst u2
        have hc : (Instr.checkKey em (9998 + 1) e (.int k1 a)).run P w = .ok () w := check1 he em 9998 _
        rw [List.range'_succ]
        simp only [List.forIn_cons, Sem.run_bind, hT'.size, Nat.mul_one, Result.andThen_ok, u1, hc, Sem.run_pure]
        exact ih (o + 1) (by omega)
    rw [key n 0 (by omega)]
    rfl
theorem EntriesRel.append : ∀ {es fs : List Ent} {ES FS : List MapEntry}, EntriesRel ρ es ES → EntriesRel ρ fs FS → EntriesRel ρ (es ++ fs) (ES ++ FS)
  | [], _, _, _, h, h' => by simp only [EntriesRel] at h; subst h; simpa using h'
  | x :: l, fs, ES, FS, h, h' => by
    simp only [EntriesRel] at h
    obtain ⟨e, r, rfl, h1, h2⟩ := h
    simp only [List.cons_append, EntriesRel]
    exact ⟨e, r ++ FS, rfl, h1, EntriesRel.append h2 h'⟩
theorem EntriesRel.set : ∀ {es : List Ent} {ES : List MapEntry} (i : Nat) {e' : Ent} {E' : MapEntry}, EntriesRel ρ es ES → EntryRel ρ e' E' → EntriesRel ρ (mSet es i e') (ES.set i E')
  | [], _, _, _, _, h, _ => by simp only [EntriesRel] at h; subst h; simp [mSet, EntriesRel]
  | x :: l, ES, i, e', E', h, h' => by
    simp only [EntriesRel] at h
    obtain ⟨e, r, rfl, h1, h2⟩ := h
    cases i with
    | zero => simp only [mSet, List.set_cons_zero, EntriesRel]; exact ⟨E', r, rfl, h', h2⟩
    | succ i => simp only [mSet, List.set_cons_succ, EntriesRel]; exact ⟨e, _, rfl, h1, EntriesRel.set i h2 h'⟩
theorem modify_set {ES : Array MapEntry} {i : Nat} {E : MapEntry} (h : ES[i]? = some E) (f : MapEntry → MapEntry) : (ES.modify i f).toList = ES.toList.set i (f E) := by
  apply List.ext_getElem?
  intro j
  rw [Array.getElem?_toList, Array.getElem?_modify, List.getElem?_set]
  by_cases e : i = j
  · subst e
    obtain ⟨hlt, hE⟩ := Array.getElem?_eq_some_iff.1 h
    simp [h, hlt, hE]
  · simp [e]
theorem map_at (R : Rel Prot w0 ρ H w) {r : Nat} {mv : Value} (hx : VRel ρ (.map (some r)) mv) {es : List Ent} {c : Nat} (hH : H.get r = some (.map es c)) : ∃ L ES, ρ r 0 = some L ∧ mv = .map (some L.c) ∧ w.heap[L.c]? = some (.map ES c) ∧ EntriesRel ρ es ES.toList := by
  simp only [VRel] at hx
  obtain ⟨L, hL, rfl⟩ := hx
  obtain ⟨x, o, g1, g2, g3⟩ := R.obj _ _ _ hL
  rw [hH] at g1
  simp only [Option.some.injEq] at g1
  subst g1
  simp only [ORel] at g3
  obtain ⟨_, ES, rfl, hE⟩ := g3
  exact ⟨L, ES, hL, rfl, g2, hE⟩
theorem map_turn (R : Rel Prot w0 ρ H w) {r : Nat} {L : Loc} (hL : ρ r 0 = some L) {es : List Ent} {c : Nat} (hH : H.get r = some (.map es c)) {es' : List Ent} {c' : Nat} {ES' : Array MapEntry} (hE : EntriesRel ρ es' ES'.toList) :
    Rel Prot w0 ρ (H.set r (.map es' c')) { w with heap := w.heap.setIfInBounds L.c (.map ES' c') } := by
  have hlt : L.c < w.heap.size := (R.dom _ _ _ hL).2
  refine R.turn (w' := { w with heap := w.heap.setIfInBounds L.c (.map ES' c') }) (y := .map es' c') hL hH rfl ⟨rfl, rfl, rfl, by simp, fun i hi => by simp [Array.getElem?_setIfInBounds, Ne.symm hi]⟩ rfl fun l' L' h' => ?_
  obtain ⟨x, o, k1, k2, k3⟩ := R.obj _ _ _ h'
  rw [hH] at k1
  simp only [Option.some.injEq] at k1
  subst k1
  simp only [ORel] at k3
  obtain ⟨rfl, _⟩ := k3
  rw [hL] at h'
  simp only [Option.some.injEq] at h'
  subst h'
  exact ⟨.map ES' c', by simp [hlt], by simp only [ORel]; exact ⟨trivial, ES', rfl, hE⟩⟩
theorem mkMap_ok (R : Rel Prot w0 ρ H w) (t : TypeId) {y : AVal} (h : aMkMap H [] = some (y, H')) : GoodV P Prot w0 ρ w (Instr.makeMap t none) y H' := by
  simp only [aMkMap, Option.some.injEq, Prod.mk.injEq] at h
  obtain ⟨rfl, rfl⟩ := h
  obtain ⟨h1, h2⟩ := R.push' (w' := w.alloc (.map #[] 0)) rfl rfl rfl (Array.size_push _) (fun i hi => by rw [World.alloc, Array.getElem?_push, if_neg (Nat.ne_of_lt hi)])
    (x := .map [] 0) (o := .map #[] 0) (lim := 0) (n := 0) (cl := false) (by rw [World.alloc, Array.getElem?_push, if_pos rfl]) (by simp only [ORel]; exact ⟨trivial, #[], rfl, by simp [EntriesRel]⟩) rfl
  refine ⟨_, _, _, h1, RowKit.run_makeMap t w, h2, ?_⟩
  simp only [VRel]
  exact ⟨_, upd_same _ _ _ _, rfl⟩
theorem ret_ok (ok : Bool) {x : AVal} {v : Value} (h : VRel ρ x v) (b : Bool) : VRel ρ (mRet ok x b) (if ok = true then .tuple #[v, .bool b] else v) := by
  cases ok with
  | false => simpa [mRet] using h
  | true => simp [mRet, VRel, VRels, h]
theorem mLook_ok (R : Rel Prot w0 ρ H w) {t kt el : TypeId} {kc : KC} (hm : P.underlying t = some (.map kt el)) (hk : kcOf P kt = some kc) {z : AVal} (hz : zeroA P el = some z) {ok : Bool} {m k y : AVal} {mv kv : Value} (hx : VRel ρ m mv) (hy : VRel ρ k kv)
    (h : aMLook kc ok z H [m, k] = some (y, H')) : GoodV P Prot w0 ρ w (Instr.lookup t mv kv ok) y H' := by
  obtain ⟨zv, hz1, hz2⟩ := zeroA_ok hz
  unfold aMLook at h
  split at h <;> first | (simp at h; done) | skip
  · rename_i k' heq
    simp only [List.cons.injEq, and_true] at heq
    obtain ⟨rfl, rfl⟩ := heq
    cases hi : isK kc k with
    | false => rw [hi] at h; simp at h
    | true =>
      rw [hi] at h
      simp only [cond_true, Option.some.injEq, Prod.mk.injEq] at h
      obtain ⟨rfl, rfl⟩ := h
      simp only [VRel] at hx
      subst hx
      obtain ⟨r', q1, q2⟩ := findKey_ok (w := w) hk hy (es := []) (ES := []) (r := none) (by simp [EntriesRel]) rfl
      simp only [Found] at q2
      subst q2
      refine GoodV.pure R (v := if ok = true then .tuple #[zv, .bool false] else zv) ?_ (ret_ok ok (hz2 ρ) false)
      simp [Instr.lookup, run_underlying hm, checkKey_ok (w := w) hk hy hi, q1, hz1, Result.andThen]
  · rename_i r k' heq
    simp only [List.cons.injEq, and_true] at heq
    obtain ⟨rfl, rfl⟩ := heq
    split at h <;> first | (simp at h; done) | skip
    rename_i es c hH
    obtain ⟨L, ES, hL, rfl, hb, hE⟩ := map_at R hx hH
    split at h <;> first | (simp at h; done) | skip
    rename_i v hv
    simp only [Option.some.injEq, Prod.mk.injEq] at h
    obtain ⟨rfl, rfl⟩ := h
    unfold aLookE at hv
    cases hi : isK kc k with
    | false => rw [hi] at hv; simp at hv
    | true =>
      rw [hi] at hv
      simp only [cond_true] at hv
      split at hv <;> first | (simp at hv; done) | skip
      · rename_i j e hf
        simp only [Option.some.injEq] at hv
        subst hv
        obtain ⟨r', q1, q2⟩ := findKey_ok (w := w) hk hy hE hf
        obtain ⟨_, E, rfl, _, _, ⟨_, he2, _⟩, _⟩ := q2
        refine GoodV.pure R (v := if ok = true then .tuple #[E.val, .bool true] else E.val) ?_ (ret_ok ok he2 true)
        simp [Instr.lookup, run_underlying hm, MapKept.run_getObj_map hb, checkKey_ok (w := w) hk hy hi, q1, Result.andThen]
      · rename_i hf
        simp only [Option.some.injEq] at hv
        subst hv
        obtain ⟨r', q1, q2⟩ := findKey_ok (w := w) hk hy hE hf
        simp only [Found] at q2
        subst q2
        refine GoodV.pure R (v := if ok = true then .tuple #[zv, .bool false] else zv) ?_ (ret_ok ok (hz2 ρ) false)
        simp [Instr.lookup, run_underlying hm, MapKept.run_getObj_map hb, checkKey_ok (w := w) hk hy hi, q1, hz1, Result.andThen]
theorem bits_list : ∀ {l : List AVal}, isKs l = true → ∀ {vs : List Value}, VRels ρ l vs → ∀ n, ((vs.zip vs).all fun (x, y) => Instr.sameBits n x y) = true
  | [], _, vs, h, n => by simp only [VRels] at h; subst h; rfl
  | .int k a :: l, hi, vs, h, n => by
    simp only [VRels, VRel] at h
    obtain ⟨v, r, rfl, rfl, h⟩ := h
    have := bits_list (l := l) hi h n
    simp only [List.zip_cons_cons, List.all_cons, this, Bool.and_true]
    cases n <;> simp [Instr.sameBits]
theorem stays_ok {kc : KC} {x : AVal} {v : Value} (hx : VRel ρ x v) (hi : isK kc x = true) : (Instr.keyThatStays v v).run P w = .ok v w := by
  have : Instr.sameBits 10000 v v = true := by
    cases kc with
    | int => cases x <;> simp only [isK, Bool.false_eq_true] at hi; simp only [VRel] at hx; subst hx; show Instr.sameBits (9999 + 1) _ _ = true; simp [Instr.sameBits]
    | str => cases x <;> simp only [isK, Bool.false_eq_true] at hi; simp only [VRel] at hx; subst hx; show Instr.sameBits (9999 + 1) _ _ = true; rw [Instr.sameBits]; exact (MapKept.bytes_beq _ _).2 rfl
    | arr n =>
      cases x <;> simp only [isK, Bool.false_eq_true] at hi
      simp only [Bool.and_eq_true] at hi
      simp only [VRel] at hx
      obtain ⟨xs, rfl, hxs⟩ := hx
      show Instr.sameBits (9999 + 1) _ _ = true
      have := bits_list hi.2 hxs 9999
      simp only [Instr.sameBits, beq_self_eq_true, Bool.true_and]
      exact this
  simp [Instr.keyThatStays, this]
theorem born_ok (n : Nat) : ∀ (es : List Ent) (ES : List MapEntry) (i j : Nat) (e : Ent), EntriesRel ρ es ES → mBorn n es i = some (j, e) → i ≤ j ∧ es[j - i]? = some e ∧ ∃ E, ES[j - i]? = some E ∧ EntryRel ρ e E ∧ ES.findIdx? (fun e => (e.born : Int) == (n : Int)) = some (j - i)
  | [], ES, i, j, e, _, h => by simp [mBorn] at h
  | x :: es, ES, i, j, e, hE, h => by
    simp only [EntriesRel] at hE
    obtain ⟨E, ES', rfl, hEE, hE⟩ := hE
    simp only [mBorn] at h
    have hb : ((E.born : Int) == (n : Int)) = Nat.beq x.2.2 n := by
      rw [hEE.2.2, beq_dec]
      by_cases e : x.2.2 = n
      · simp [e]
      · have : ¬ ((x.2.2 : Int) = (n : Int)) := by omega
        simp [e, this]
    cases hc : Nat.beq x.2.2 n with
    | true =>
      rw [hc] at h hb
      simp only [cond_true, Option.some.injEq, Prod.mk.injEq] at h
      obtain ⟨rfl, rfl⟩ := h
      refine ⟨Nat.le_refl _, by simp, E, by simp, hEE, ?_⟩
      simp [List.findIdx?_cons, hb]
    | false =>
      rw [hc] at h hb
      simp only [cond_false] at h
      obtain ⟨h1, h2, E', h3, h4, h5⟩ := born_ok n es ES' (i + 1) j e hE h
      have e1 : j - i = (j - (i + 1)) + 1 := by omega
      refine ⟨by omega, by rw [e1]; simpa using h2, E', by rw [e1]; simpa using h3, h4, ?_⟩
      rw [List.findIdx?_cons, hb]
      simp only [Bool.false_eq_true, if_false, h5, Option.map_some]
      congr 1; omega
theorem mEntry_ok (R : Rel Prot w0 ρ H w) {t kt el : TypeId} {kc : KC} (hm : P.underlying t = some (.map kt el)) (hk : kcOf P kt = some kc) {z : AVal} (hz : zeroA P el = some z) {m k y : AVal} {mv kv : Value} (hx : VRel ρ m mv) (hy : VRel ρ k kv)
    (h : aMF (.entry kc z) H [m, k] = some (y, H')) : GoodV P Prot w0 ρ w (Instr.mapEntry t mv kv) y H' := by
  obtain ⟨zv, hz1, hz2⟩ := zeroA_ok hz
  unfold aMF at h
  split at h <;> first | (simp at h; done) | skip
  rename_i r l heq
  simp only [List.cons.injEq] at heq
  obtain ⟨rfl, rfl⟩ := heq
  split at h <;> first | (simp at h; done) | skip
  rename_i es c hH
  obtain ⟨L, ES, hL, rfl, hb, hE⟩ := map_at R hx hH
  split at h <;> first | (simp at h; done) | skip
  rename_i v es' c' hv
  simp only [Option.some.injEq, Prod.mk.injEq] at h
  obtain ⟨rfl, rfl⟩ := h
  simp only [aMf] at hv
  cases hi : isK kc k with
  | false => rw [hi] at hv; simp at hv
  | true =>
    rw [hi] at hv
    simp only [cond_true] at hv
    split at hv <;> first | (simp at hv; done) | skip
    · rename_i j e hf
      simp only [Option.some.injEq, Prod.mk.injEq] at hv
      obtain ⟨rfl, rfl, rfl⟩ := hv
      obtain ⟨r', q1, q2⟩ := findKey_ok (w := w) hk hy hE hf
      obtain ⟨_, E, rfl, q3, q4, ⟨he1, he2, he3⟩, q5⟩ := q2
      rw [Nat.sub_zero, Array.getElem?_toList] at q4
      refine ⟨ρ, _, .tuple #[E.val, .int .i64 E.born], Pl.le_refl _, ?_, map_turn R hL hH (ES' := ES.modify j fun e => { e with key := kv }) (by
        rw [modify_set q4]
        exact hE.set j ⟨hy, he2, he3⟩), by simp [VRel, VRels, he2, he3]⟩
      simp [Instr.mapEntry, run_underlying hm, MapKept.run_getObj_map hb, checkKey_ok (w := w) hk hy hi, q1, q4, q5, stays_ok (w := w) hy hi, MapKept.run_setObj_map _ hb, Result.andThen, goInt]
    · rename_i hf
      simp only [Option.some.injEq, Prod.mk.injEq] at hv
      obtain ⟨rfl, rfl, rfl⟩ := hv
      obtain ⟨r', q1, q2⟩ := findKey_ok (w := w) hk hy hE hf
      simp only [Found] at q2
      subst q2
      refine ⟨ρ, _, .tuple #[zv, .int .i64 c], Pl.le_refl _, ?_, map_turn R hL hH (ES' := ES.push { key := kv, val := zv, born := c }) (by
        rw [Array.toList_push]
        refine hE.append ?_
        simp only [EntriesRel]
        exact ⟨_, _, rfl, ⟨hy, hz2 ρ, rfl⟩, rfl⟩), by simp [VRel, VRels, hz2 ρ]⟩
      simp [Instr.mapEntry, run_underlying hm, MapKept.run_getObj_map hb, checkKey_ok (w := w) hk hy hi, q1, hz1, MapKept.run_setObj_map _ hb, Result.andThen, goInt]
theorem aMf_store (es : List Ent) (c : Nat) (n x : AVal) : aMf .store es c [n, x] = match n with
    | .int .i64 (.ofNat b) => match mBorn b es 0 with
      | some (i, e) => some (.tuple [], mSet es i (e.1, x, e.2.2), c)
      | none => none
    | _ => none := by
  cases n with
  | int k z => cases k <;> cases z <;> rfl
  | _ => rfl
theorem mStore_ok (R : Rel Prot w0 ρ H w) (t : TypeId) {m n x y : AVal} {mv nv xv : Value} (hx : VRel ρ m mv) (hn : VRel ρ n nv) (hy : VRel ρ x xv)
    (h : aMF .store H [m, n, x] = some (y, H')) : y = .tuple [] ∧ ∃ w', (Instr.entryStore t mv nv xv).run P w = .ok () w' ∧ Rel Prot w0 ρ H' w' := by
  unfold aMF at h
  split at h <;> first | (simp at h; done) | skip
  rename_i r l heq
  simp only [List.cons.injEq] at heq
  obtain ⟨rfl, rfl⟩ := heq
  split at h <;> first | (simp at h; done) | skip
  rename_i es c hH
  obtain ⟨L, ES, hL, rfl, hb, hE⟩ := map_at R hx hH
  split at h <;> first | (simp at h; done) | skip
  rename_i v es' c' hv
  simp only [Option.some.injEq, Prod.mk.injEq] at h
  obtain ⟨rfl, rfl⟩ := h
  rw [aMf_store] at hv
  split at hv <;> first | (simp at hv; done) | skip
  · rename_i b
    split at hv <;> first | (simp at hv; done) | skip
    rename_i j e hf
    simp only [Option.some.injEq, Prod.mk.injEq] at hv
    obtain ⟨rfl, rfl, rfl⟩ := hv
    obtain ⟨_, q3, E, q4, ⟨he1, he2, he3⟩, q5⟩ := born_ok b es ES.toList 0 j e hE hf
    rw [Nat.sub_zero] at q3 q4 q5
    rw [Array.getElem?_toList] at q4
    simp only [VRel] at hn
    subst hn
    have hidx : ES.findIdx? (fun e => (e.born : Int) == (b : Int)) = some j := by
      rw [← q5]; exact (List.findIdx?_toArray _ ES.toList)
    refine ⟨rfl, _, ?_, map_turn R hL hH (ES' := ES.modify j fun e => { e with val := xv }) (by
      rw [modify_set q4]
      exact hE.set j ⟨he1, hy, he3⟩)⟩
    simp [Instr.entryStore, MapKept.run_getObj_map hb, asInt, asIntOf, hidx, MapKept.run_setObj_map _ hb, Result.andThen]
theorem mUpd_ok (R : Rel Prot w0 ρ H w) {t kt el : TypeId} {kc : KC} (hm : P.underlying t = some (.map kt el)) (hk : kcOf P kt = some kc) {m k x y : AVal} {mv kv xv : Value} (hx : VRel ρ m mv) (hy : VRel ρ k kv) (hv0 : VRel ρ x xv)
    (h : aMF (.upd kc) H [m, k, x] = some (y, H')) : y = .tuple [] ∧ ∃ w', (Instr.mapUpdate t mv kv xv).run P w = .ok () w' ∧ Rel Prot w0 ρ H' w' := by
  unfold aMF at h
  split at h <;> first | (simp at h; done) | skip
  rename_i r l heq
  simp only [List.cons.injEq] at heq
  obtain ⟨rfl, rfl⟩ := heq
  split at h <;> first | (simp at h; done) | skip
  rename_i es c hH
  obtain ⟨L, ES, hL, rfl, hb, hE⟩ := map_at R hx hH
  split at h <;> first | (simp at h; done) | skip
  rename_i v es' c' hv
  simp only [Option.some.injEq, Prod.mk.injEq] at h
  obtain ⟨rfl, rfl⟩ := h
  simp only [aMf] at hv
  cases hi : isK kc k with
  | false => rw [hi] at hv; simp at hv
  | true =>
    rw [hi] at hv
    simp only [cond_true] at hv
    split at hv <;> first | (simp at hv; done) | skip
    · rename_i j e hf
      simp only [Option.some.injEq, Prod.mk.injEq] at hv
      obtain ⟨rfl, rfl, rfl⟩ := hv
      obtain ⟨r', q1, q2⟩ := findKey_ok (w := w) hk hy hE hf
      obtain ⟨_, E, rfl, q3, q4, ⟨he1, he2, he3⟩, q5⟩ := q2
      rw [Nat.sub_zero, Array.getElem?_toList] at q4
      refine ⟨rfl, _, ?_, map_turn R hL hH (ES' := ES.modify j fun e => { e with key := kv, val := xv }) (by
        rw [modify_set q4]
        exact hE.set j ⟨hy, hv0, he3⟩)⟩
      simp [Instr.mapUpdate, run_underlying hm, MapKept.run_getObj_map hb, checkKey_ok (w := w) hk hy hi, q1, q4, q5, stays_ok (w := w) hy hi, MapKept.run_setObj_map _ hb, Result.andThen]
    · rename_i hf
      simp only [Option.some.injEq, Prod.mk.injEq] at hv
      obtain ⟨rfl, rfl, rfl⟩ := hv
      obtain ⟨r', q1, q2⟩ := findKey_ok (w := w) hk hy hE hf
      simp only [Found] at q2
      subst q2
      refine ⟨rfl, _, ?_, map_turn R hL hH (ES' := ES.push { key := kv, val := xv, born := c }) (by
        rw [Array.toList_push]
        refine hE.append ?_
        simp only [EntriesRel]
        exact ⟨_, _, rfl, ⟨hy, hv0, rfl⟩, rfl⟩)⟩
      simp [Instr.mapUpdate, run_underlying hm, MapKept.run_getObj_map hb, checkKey_ok (w := w) hk hy hi, q1, MapKept.run_setObj_map _ hb, Result.andThen]
def eqAOf (P : Program) (t : TypeId) : Option (List (Nat × FK)) := match P.underlying t with
  | some (.array n e) => match P.underlying e, tyOf P e with
    | some (.int _), some (false, 1) => bif P.eqGuardType P.depth t then none else some ((List.range' 0 n).map fun i => (i, FK.int))
    | _, _ => none
  | _ => none
def eqSXOf (P : Program) (t : TypeId) : Option (List (Nat × FK)) := match eqSOf P t with
  | some x => some x
  | none => eqAOf P t
theorem eqItems2 {e : TypeId} {kk : IntKind} (he : P.underlying e = some (.int kk)) (T : Ty P e false 1) {L M : List AVal} {xs ys : Array Value} (hL : VRels ρ L xs.toList) (hM : VRels ρ M ys.toList) (d : Nat) :
    ∀ (k o : Nat) (b : Bool), aEqFs ((List.range' o k).map fun i => (i, FK.int)) L M = some b → (Op.eqItems (d + 1) e 1 xs ys (List.range' o k)).run P w = .ok b w := by
  intro k
  induction k with
  | zero =>
    intro o b h
    simp only [List.range'_zero, List.map_nil, aEqFs, Option.some.injEq] at h
    subst h
    simp [Op.eqItems]
  | succ k ih =>
    intro o b h
    rw [List.range'_succ, List.map_cons] at h
    simp only [aEqFs] at h
    split at h
    · rename_i x y gx gy
      obtain ⟨u, u1, u2⟩ := part_ok (P := P) (w := w) T hL (off := o) (y := x) (by simpa [aPart] using gx)
      obtain ⟨v, v1, v2⟩ := part_ok (P := P) (w := w) T hM (off := o) (y := y) (by simpa [aPart] using gy)
      have hk : fkOf P e = some .int := by simp [fkOf, he]
      rw [List.range'_succ]
      simp only [Op.eqItems, Nat.mul_one, Sem.run_bind, u1, v1, Result.andThen_ok]
      split at h
      · rename_i hb
        rw [fEq_ok hk u2 v2 hb d]
        simp only [Result.andThen_ok, Bool.not_true, Bool.false_eq_true, if_false]
        exact ih (o + 1) b h
      · rename_i hb
        simp only [Option.some.injEq] at h
        subst h
        rw [fEq_ok hk u2 v2 hb d]
        simp
      · simp at h
    · simp at h
theorem eqSX_ok {op : BinOp} (ho : op = .eql ∨ op = .neq) {t : TypeId} {x y : Operand} {ks : List (Nat × FK)} (hk : eqSXOf P t = some ks) {l m : List AVal} {u v : Value} (hp : VRel ρ (.agg l) u) (hq : VRel ρ (.agg m) v) {b : Bool} (h : aEqFs ks l m = some b) :
    (do eqGuard op t x y u v; binOp op t u v : Sem Value).run P w = .ok (.bool (match op with | .eql => b | _ => !b)) w := by
  unfold eqSXOf at hk
  split at hk
  · rename_i z hz
    simp only [Option.some.injEq] at hk
    subst hk
    exact eqS_ok ho hz hp hq h
  · unfold eqAOf at hk
    split at hk
    · rename_i n e hu
      split at hk
      · rename_i kk he hT
        cases hg : P.eqGuardType P.depth t with
        | true => rw [hg] at hk; simp at hk
        | false =>
          rw [hg] at hk
          simp only [cond_false, Option.some.injEq] at hk
          subst hk
          simp only [VRel] at hp hq
          obtain ⟨xs, rfl, hx⟩ := hp
          obtain ⟨ys, rfl, hy⟩ := hq
          obtain ⟨hc1, i0, hi0⟩ := cells_of hT
          have heq : (Op.equalIn 10000 t (.agg xs) (.agg ys)).run P w = .ok b w := by
            show (Op.equalIn (9998 + 1 + 1) t (.agg xs) (.agg ys)).run P w = _
            rw [run_equalIn_array w (9998 + 1) xs ys hu hi0, hc1, List.range_eq_range']
            exact eqItems2 he (ty_of hT) hx hy 9998 n 0 b h
          rcases ho with rfl | rfl
          · simp only [Sem.run_bind, run_eqGuard_agg w _ t x y xs ys hg, Result.andThen_ok, run_eql_struct, heq]
          · simp only [Sem.run_bind, run_eqGuard_agg w _ t x y xs ys hg, Result.andThen_ok, run_neq_struct, heq]
      · simp at hk
    · simp at hk
theorem clr_ok (R : Rel Prot w0 ρ H w) {t e : TypeId} (hu : P.underlying t = some (.slice e)) {z : List AVal} (hz : zeroOf P e = some z) {ty : TypeId} {x y : AVal} {v : Value} (hx : VRel ρ x v) (h : aClr z H [x] = some (y, H')) :
    GoodV P Prot w0 ρ w (Builtin.clear_ #[t] ty #[v]) y H' := by
  unfold aClr at h
  split at h <;> first | (simp at h; done) | skip
  · rename_i n r heq
    simp only [List.cons.injEq, and_true] at heq
    subst heq
    simp only [Option.some.injEq, Prod.mk.injEq] at h
    obtain ⟨rfl, rfl⟩ := h
    simp only [VRel] at hx
    obtain ⟨_, _, rfl⟩ := hx
    refine GoodV.pure R (v := .tuple #[]) ?_ (by simp [VRel, VRels])
    simp [Builtin.clear_, run_underlying hu]
  · rename_i a n r heq
    simp only [List.cons.injEq, and_true] at heq
    subst heq
    obtain ⟨L, off, c, hL, hsh, rfl, hlen, hoff⟩ := slice_off hx
    cases hn : Nat.beq n 0 with
    | true =>
      rw [hn] at h
      simp only [cond_true, Option.some.injEq, Prod.mk.injEq] at h
      obtain ⟨rfl, rfl⟩ := h
      have := Nat.eq_of_beq_eq_true hn
      subst this
      refine GoodV.pure R (v := .tuple #[]) ?_ (by simp [VRel, VRels])
      simp [Builtin.clear_, run_underlying hu]
    | false =>
      rw [hn] at h
      simp only [cond_false] at h
      split at h
      · rename_i H2 hw
        simp only [Option.some.injEq, Prod.mk.injEq] at h
        obtain ⟨rfl, rfl⟩ := h
        have hn0 : n ≠ 0 := fun e => by rw [e] at hn; simp at hn
        rw [hoff (by omega)]
        obtain ⟨zv, hzr, hzl⟩ := zero_of hz
        have hl := VRels.len (hzl ρ)
        simp only [Array.length_toList] at hl
        have hm := made_rel (hzl ρ) n
        obtain ⟨w', h1, h2⟩ := wr_run (P := P) R hw hL hsh hm
        refine ⟨ρ, w', .tuple #[], Pl.le_refl _, ?_, h2, by simp [VRel, VRels]⟩
        have hzc : Builtin.zeroCells zv.cells n = madeOf zv.cells (n * z.length) := by
          rw [hl]; rfl
        simp only [Builtin.clear_, List.getElem?_toArray, List.getElem?_cons_zero, Sem.run_bind, run_underlying hu, Result.andThen_ok, hzr, hzc]
        rw [h1]
        rfl
      · simp at h
theorem cpy_ok (R : Rel Prot w0 ρ H w) {t t2 e : TypeId} (hu : P.underlying t = some (.slice e)) {g : Bool} {n : Nat} (T : Ty P e g n) {ty : TypeId} {s x y : AVal} {u v : Value} (hs : VRel ρ s u) (hx : VRel ρ x v) (h : aCpy n H [s, x] = some (y, H')) :
    GoodV P Prot w0 ρ w (Builtin.copy_ #[t, t2] ty #[u, v]) y H' := by
  unfold aCpy at h
  split at h <;> first | (simp at h; done) | skip
  rename_i so sl sr xo xl xr heq
  simp only [List.cons.injEq, and_true] at heq
  obtain ⟨rfl, rfl⟩ := heq
  have hshape : ∀ {o : Option Ad} {m : Nat} {r : Room} {z : Value}, VRel ρ (.slice o m r) z → ∃ b c, z = .slice b m c := by
    intro o m r z hz
    cases o with
    | none =>
      simp only [VRel] at hz
      obtain ⟨h1, h2, rfl⟩ := hz
      exact ⟨none, 0, by rw [h1]⟩
    | some a =>
      obtain ⟨L, off, c, _, _, rfl, _, _⟩ := slice_off hz
      exact ⟨_, _, rfl⟩
  obtain ⟨sb, sc, rfl⟩ := hshape hs
  obtain ⟨xb, xc, rfl⟩ := hshape hx
  cases hn : Nat.beq (Nat.min xl sl) 0 with
  | true =>
    rw [hn] at h
    simp only [cond_true, Option.some.injEq, Prod.mk.injEq] at h
    obtain ⟨rfl, rfl⟩ := h
    have h0 := Nat.eq_of_beq_eq_true hn
    refine GoodV.pure R (v := .int .i64 0) ?_ (by simp [VRel])
    have hf : (Builtin.firstCells n 0 (.slice xb xl xc)).run P w = .ok #[] w := by
      cases xb with
      | none => rfl
      | some a => simp only [Builtin.firstCells, loadCells, Nat.zero_mul]; rfl
    simp only [Builtin.copy_, List.getElem?_toArray, List.getElem?_cons_zero, List.getElem?_cons_succ, Sem.run_bind, run_underlying hu, Result.andThen_ok, Builtin.lenOf, Sem.run_pure, T.size, h0, hf]
    cases sb <;> rfl
  | false =>
    rw [hn] at h
    simp only [cond_false] at h
    have hn0 : Nat.min xl sl ≠ 0 := fun e => by rw [e] at hn; simp at hn
    have hmx : Nat.min xl sl ≤ xl := Nat.min_le_left _ _
    have hms : Nat.min xl sl ≤ sl := Nat.min_le_right _ _
    cases so with
    | none => simp at h
    | some a =>
    cases xo with
    | none => simp at h
    | some b =>
    simp only at h
    split at h <;> first | (simp at h; done) | skip
    rename_i l hl
    split at h <;> first | (simp at h; done) | skip
    rename_i H2 hw
    simp only [Option.some.injEq, Prod.mk.injEq] at h
    obtain ⟨rfl, rfl⟩ := h
    obtain ⟨L, off, c, hL, hsh, e1, hlen, hoff⟩ := slice_off hs
    obtain ⟨M, moff, mc, hM, msh, e2, mlen, mo⟩ := slice_off hx
    simp only [Value.slice.injEq, true_and] at e1 e2
    obtain ⟨rfl, rfl⟩ := e1
    obtain ⟨rfl, rfl⟩ := e2
    have ho := hoff (by omega)
    have hm := mo (by omega)
    subst ho hm
    obtain ⟨vs, q1, q2, q3⟩ := rd_run (P := P) R hl hM msh
    obtain ⟨w', h1, h2⟩ := wr_run (P := P) R hw hL hsh q2
    refine ⟨ρ, w', .int .i64 (Nat.min xl sl : Nat), Pl.le_refl _, ?_, h2, by simp [VRel]⟩
    have hf : (Builtin.firstCells n (Nat.min xl sl) (.slice (some ⟨M.c, b.o - M.sh, none⟩) xl xc)).run P w = .ok vs w := q1
    simp only [Builtin.copy_, List.getElem?_toArray, List.getElem?_cons_zero, List.getElem?_cons_succ, Sem.run_bind, run_underlying hu, Result.andThen_ok, Builtin.lenOf, Sem.run_pure, T.size, hf]
    rw [h1]
    rfl
end
end Go.Abs
namespace Go.Abs
def BIG : Nat := 1024
inductive Opd where
  | t (i : Nat)
  | c (v : AVal)
  | f (id : FuncId)
inductive AOp where
  | mv (x : Opd)
  | pick (c a b : Opd)
  | new (zero : List AVal)
  | box (x : Opd)
  | build (zero : List AVal) (parts : List (Nat × Nat × Opd))
  | buildSl (len : Nat) (zero : List AVal) (parts : List (Nat × Nat × Opd))
  | load (agg : Bool) (size : Nat) (x : Opd)
  | store (size : Nat) (a x : Opd)
  | nilChk (x : Opd)
  | bin (op : BinOp) (x y : Opd)
  | un (op : UnOp) (x : Opd)
  | conv (k : IntKind) (x : Opd)
  | convSB (x : Opd)
  | convBS (x : Opd)
  | mkFunc (fn : Fn) (first captured : List Opd)
  | mkIface (t : TypeId) (x : Opd)
  | mkSlice (bytes : Nat) (zero : List AVal) (l c : Opd)
  | sl (size : Nat) (x : Opd) (lo hi mx : Option Opd)
  | slStr (x : Opd) (lo hi : Option Opd)
  | fieldA (off : Nat) (x : Opd)
  | field (agg : Bool) (size off : Nat) (x : Opd)
  | idxA (size : Nat) (x i : Opd)
  | idxArr (n size : Nat) (x i : Opd)
  | idx (n size : Nat) (agg : Bool) (x i : Opd)
  | idxS (x i : Opd)
  | extract (i : Nat) (x : Opd)
  | append (size bytes : Nat) (s x : Opd)
  | len (str : Bool) (x : Opd)
  | call (f : FuncId) (args : List Opd)
  | callv (f : Opd) (args : List Opd)
  | pf (f : PF) (xs : List Opd)
  | hf (f : HF) (xs : List Opd)
  | bad
  | claim (b : Nat) (zero : List AVal) (s : Option (Nat × Nat))
  | slA (n size : Nat) (x : Opd) (lo hi mx : Option Opd)
inductive Nx where
  | val (v : AVal)
  | enter (f : FuncId) (args : List AVal)
def undefA : AVal := .tuple []
def ev (T : Tr AVal) : Opd → AVal
  | .t i => match T.get i with
    | some v => v
    | none => undefA
  | .c v => v
  | .f id => .func (.func id) [] []
def evs (T : Tr AVal) : List Opd → List AVal
  | [] => []
  | x :: r => ev T x :: evs T r
def evO (T : Tr AVal) : Option Opd → Option AVal
  | none => none
  | some x => some (ev T x)
def evP (T : Tr AVal) : List (Nat × Nat × Opd) → List (Nat × Nat × AVal)
  | [] => []
  | (o, n, x) :: r => (o, n, ev T x) :: evP T r
def vv (H : AHeap) : Option AVal → Option (Nx × AHeap)
  | some v => some (.val v, H)
  | none => none
def vh : Option (AVal × AHeap) → Option (Nx × AHeap)
  | some (v, H) => some (.val v, H)
  | none => none
def aNilChk : AVal → Option AVal
  | .ptr none => none
  | .nilIface => none
  | .nilFunc => none
  | .func (.method _) _ _ => none
  | .val _ => none
  | x => some x
def aLenK (str : Bool) : AVal → Option AVal
  | .str s => bif str then some (.int .i64 s.length) else none
  | .slice _ n _ => bif str then none else some (.int .i64 n)
  | .val (.slice _ n _) => bif str then none else some (.int .i64 n)
  | _ => none
def aop (tb : FuncId → Bool) (T : Tr AVal) (H : AHeap) : AOp → Option (Nx × AHeap)
  | .mv x => some (.val (ev T x), H)
  | .pick c a b => match ev T c with
    | .bool b' => some (.val (bif b' then ev T a else ev T b), H)
    | _ => none
  | .new z => vh (some (oNew H z))
  | .box x => vh (some (oNew H (ev T x).cells))
  | .build z ps => vv H (aBuild z (evP T ps))
  | .buildSl n z ps => vh (aBuildSl n z H (evP T ps))
  | .load a n x => vv H (oLoad a n H (ev T x))
  | .store n a x => match oStore n H (ev T a) (ev T x) with
    | some H' => some (.val undefA, H')
    | none => none
  | .nilChk x => vv H (aNilChk (ev T x))
  | .bin op x y => vv H (aBin op (ev T x) (ev T y))
  | .un op x => vv H (aUn op (ev T x))
  | .conv k x => vv H (aConv k (ev T x))
  | .convSB x => vh (aSB H (ev T x))
  | .convBS x => vv H (aBS H (ev T x))
  | .mkFunc fn a b => some (.val (.func fn (evs T a) (evs T b)), H)
  | .mkIface t x => some (.val (.iface t (ev T x)), H)
  | .mkSlice b z l c => vh (aMake b z H (ev T l) (ev T c))
  | .sl n x lo hi mx => vv H (aSl n (ev T x) (evO T lo) (evO T hi) (evO T mx))
  | .slStr x lo hi => vv H (aSlStr (ev T x) (evO T lo) (evO T hi))
  | .fieldA o x => vv H (aField o (ev T x))
  | .field a n o x => vv H (aFieldV a n o (ev T x))
  | .idxA n x i => vv H (aIdxA n (ev T x) (ev T i))
  | .idxArr m n x i => vv H (aIdxArr m n (ev T x) (ev T i))
  | .idx m n a x i => vv H (aIdx m n a (ev T x) (ev T i))
  | .idxS x i => vv H (aIdxS (ev T x) (ev T i))
  | .extract i x => vv H (aExtract i (ev T x))
  | .append n b s x => vh (aAppend n b H (ev T s) (ev T x))
  | .len s x => vv H (aLenK s (ev T x))
  | .call f args => bif tb f then some (.enter f (evs T args), H) else none
  | .callv f args => match ev T f with
    | .func (.func f) a b => bif Nat.blt f BIG && tb f then some (.enter f (a ++ evs T args ++ b), H) else none
    | _ => none
  | .pf f xs => vv H (aPf f (evs T xs))
  | .hf f xs => vh (aHf f H (evs T xs))
  | .bad => none
  | .claim b z s => vv H (aClaim H b z s)
  | .slA m n x lo hi mx => vv H (aSlArr m n (ev T x) (evO T lo) (evO T hi) (evO T mx))
section
variable (P : Program)
def cOpd : Operand → Option Opd
  | .tmp t => some (.t t)
  | .const v => match absC v with
    | some x => some (.c x)
    | none => none
  | .global _ => none
  | .func f => some (.f f)
def cOpds : List Operand → Option (List Opd)
  | [] => some []
  | x :: r => match cOpd x, cOpds r with
    | some y, some l => some (y :: l)
    | _, _ => none
def cOpdO : Option Operand → Option (Option Opd)
  | none => some none
  | some x => match cOpd x with
    | some y => some (some y)
    | none => none
def cParts (place : Nat → Option (Nat × Nat)) : List (Nat × Operand) → Option (List (Nat × Nat × Opd))
  | [] => some []
  | (i, x) :: r => match place i, cOpd x, cParts place r with
    | some (o, n), some y, some l => some ((o, n, y) :: l)
    | _, _, _ => none
def hasBody (f : FuncId) : Bool :=
  Nat.blt f BIG && match P.funcs[f]? with
  | some fn => fn.body.isSome && !(fn.name == "runtime.NumGoroutine")
  | none => false
def isTail (t : TypeId) : Bool :=
  match P.underlying t with
  | some (.slice _) => true
  | some .string => true
  | _ => false
def cCall (c : Call) : Option AOp :=
  match c.callee with
  | .value (.func f) => bif Nat.blt f BIG then match cOpds c.args.toList with
      | some l => some (.call f l)
      | none => none
    else none
  | .value x => match cOpd x, cOpds c.args.toList with
    | some y, some l => some (.callv y l)
    | _, _ => none
  | .builtin .append => match c.argTypes.toList, cOpds c.args.toList with
    | [sT, xT], some [s, x] => match P.underlying sT with
      | some (.slice e) => match tyOf P e, elemOf P e with
        | some (_, n), some (n', b) => bif Nat.beq n n' && isTail P xT then some (.append n b s x) else none
        | _, _ => none
      | _ => none
    | _, _ => none
  | .builtin .len => match c.argTypes.toList, cOpds c.args.toList with
    | [T], some [x] => match P.underlying T with
      | some (.slice _) => some (.len false x)
      | some .string => some (.len true x)
      | _ => none
    | _, _ => none
  | _ => none
def cOp0 (o : Op) : Option AOp :=
  match o with
  | .move x => match cOpd x with | some y => some (.mv y) | none => none
  | .assign x => match cOpd x with | some y => some (.mv y) | none => none
  | .pick c a b => match cOpd c, cOpd a, cOpd b with | some c, some a, some b => some (.pick c a b) | _, _, _ => none
  | .alloc e => match zeroOf P e with | some z => some (.new z) | none => none
  | .box _ x => match cOpd x with | some y => some (.box y) | none => none
  | .build t ps => match P.underlying t, zeroOf P t with
    | some (.struct fs), some z => match placesOf P fs.toList with
      | some pl => match cParts (fun i => pl[i]?) ps.toList with
        | some l => some (.build z l)
        | none => none
      | none => none
    | some (.array _ e), some z => match tyOf P e with
      | some (_, n) => match cParts (fun i => some (i * n, n)) ps.toList with
        | some l => some (.build z l)
        | none => none
      | none => none
    | _, _ => none
  | .buildSlice t len ps => match P.underlying t with
    | some (.slice e) => match tyOf P e, zeroOf P e with
      | some (_, n), some z => match cParts (fun i => some (i * n, n)) ps.toList with
        | some l => bif Nat.beq z.length n && Nat.ble (len * n) 16777216 then some (.buildSl len z l) else none
        | none => none
      | _, _ => none
    | _ => none
  | .load t a => match tyOf P t, cOpd a with | some (g, n), some y => some (.load g n y) | _, _ => none
  | .store t a x => match tyOf P t, cOpd a, cOpd x with | some (_, n), some a, some y => some (.store n a y) | _, _, _ => none
  | .nilCheck x => match cOpd x with | some y => some (.nilChk y) | none => none
  | .binOp op _ x y _ => match cOpd x, cOpd y with | some a, some b => some (.bin op a b) | _, _ => none
  | .unOp op _ x => match cOpd x with | some y => some (.un op y) | none => none
  | .convert s d x => match cOpd x with
    | some y => match P.underlying s, P.underlying d with
      | some _, some (.int k) => some (.conv k y)
      | some .string, some (.slice e) => match P.underlying e with
        | some (.int .u8) => some (.convSB y)
        | _ => none
      | some (.slice e), some .string => match P.underlying e with
        | some (.int .u8) => some (.convBS y)
        | _ => none
      | _, _ => none
    | none => none
  | .makeInterface t x => match cOpd x, P.underlying t with
    | some _, some (.interface _) => none
    | some y, some _ => some (.mkIface t y)
    | _, _ => none
  | .makeFunc fn a b => match cOpds a.toList, cOpds b.toList with | some a, some b => some (.mkFunc fn a b) | _, _ => none
  | .makeSlice t l c => match P.underlying t with
    | some (.slice e) => match elemOf P e, zeroOf P e, cOpd l, cOpd c with
      | some (_, b), some z, some l, some c => some (.mkSlice b z l c)
      | _, _, _, _ => none
    | _ => none
  | .slice t x lo hi mx => match P.underlying t, cOpd x, cOpdO lo, cOpdO hi, cOpdO mx with
    | some .string, some x, some lo, some hi, some none => some (.slStr x lo hi)
    | some (.slice e), some x, some lo, some hi, some mx => match tyOf P e with
      | some (_, n) => some (.sl n x lo hi mx)
      | none => none
    | _, _, _, _, _ => none
  | .fieldAddr s x i => match P.underlying s, cOpd x with
    | some (.struct fs), some y => match fs[i]? with
      | some f => match tyOf P f.type with
        | some (_, n) => bif Nat.beq n 0 then none else some (.fieldA f.offset y)
        | none => none
      | none => none
    | _, _ => none
  | .field s x i => match P.underlying s, cOpd x with
    | some (.struct fs), some y => match fs[i]? with
      | some f => match tyOf P f.type with
        | some (g, n) => some (.field g n f.offset y)
        | none => none
      | none => none
    | _, _ => none
  | .indexAddr t x i => match P.underlying t, cOpd x, cOpd i with
    | some (.slice e), some x, some i => match tyOf P e with
      | some (_, n) => some (.idxA n x i)
      | none => none
    | some (.array m e), some x, some i => match tyOf P e with
      | some (_, n) => some (.idxArr m n x i)
      | none => none
    | _, _, _ => none
  | .index t x i => match P.underlying t, cOpd x, cOpd i with
    | some .string, some x, some i => some (.idxS x i)
    | some (.array m e), some x, some i => match tyOf P e with
      | some (g, n) => some (.idx m n g x i)
      | none => none
    | _, _, _ => none
  | .extract x i => match cOpd x with | some y => some (.extract i y) | none => none
  | .call c => cCall P c
  | _ => none
def cOpX (o : Op) : Option AOp :=
  match o with
  | .binOp .eql t x y _ => match cOpd x, cOpd y with
    | some a, some b => match eqKOf P t x y with
      | some k => some (.pf (.eqv false k) [a, b])
      | none => match eqSXOf P t with
        | some fs => some (.pf (.eqS false fs) [a, b])
        | none => none
    | _, _ => none
  | .binOp .neq t x y _ => match cOpd x, cOpd y with
    | some a, some b => match eqKOf P t x y with
      | some k => some (.pf (.eqv true k) [a, b])
      | none => match eqSXOf P t with
        | some fs => some (.pf (.eqS true fs) [a, b])
        | none => none
    | _, _ => none
  | .range t x => match P.underlying t, cOpd x with
    | some .string, some y => some (.hf .strRange [y])
    | _, _ => none
  | .next x true => match cOpd x with
    | some y => some (.hf .strNext [y])
    | none => none
  | .slice t x lo hi mx => match P.underlying t, cOpd x, cOpdO lo, cOpdO hi, cOpdO mx with
    | some (.array m e), some x, some lo, some hi, some mx => match tyOf P e with
      | some (_, n) => some (.slA m n x lo hi mx)
      | none => none
    | _, _, _, _, _ => none
  | .convert s d x => bif Nat.beq s d then (match P.underlying s, cOpd x with
    | some (.slice e), some y => match P.underlying e with
      | some (.int .u8) => some (.hf .mark [y])
      | _ => none
    | _, _ => none) else none
  | .call c => match c.callee with
    | .builtin .max => match cOpds c.args.toList with
      | some l => some (.pf (.mm true) l)
      | none => none
    | .builtin .clear => match c.argTypes.toList, cOpds c.args.toList with
      | [t], some [x] => match P.underlying t with
        | some (.slice e) => match zeroOf P e with
          | some z => some (.hf (.clr z) [x])
          | none => none
        | _ => none
      | _, _ => none
    | .builtin .copy => match c.argTypes.toList, cOpds c.args.toList with
      | [t, _], some [s, x] => match P.underlying t with
        | some (.slice e) => match tyOf P e with
          | some (_, n) => some (.hf (.cpy n) [s, x])
          | none => none
        | _ => none
      | _, _ => none
    | .builtin .min => match cOpds c.args.toList with
      | some l => some (.pf (.mm false) l)
      | none => none
    | .value (.func f) => bif isIbs P f then match cOpds c.args.toList with
        | some l => some (.pf .ibs l)
        | none => none
      else bif isCbs P f then match cOpds c.args.toList with
        | some l => some (.pf .cbs l)
        | none => none
      else none
    | _ => none
  | .indexAddr t (.global g) i => match P.underlying t, cOpd i with
    | some (.array m e), some i => match tyOf P e with
      | some (_, n) => some (.hf (.gIdx g m n) [i])
      | none => none
    | _, _ => none
  | .load t (.global g) => match tyOf P t with
    | some (a, n) => some (.hf (.gLd g a n) [])
    | none => none
  | .fieldAddr s (.global g) i => match P.underlying s with
    | some (.struct fs) => match fs[i]? with
      | some f => match tyOf P f.type with
        | some (_, n) => bif Nat.beq n 0 then none else some (.hf (.gFld g f.offset) [])
        | none => none
      | none => none
    | _ => none
  | .sliceToArrayPointer t x => match P.underlying t, cOpd x with
    | some (.array n _), some y => some (.pf (.s2a n) [y])
    | _, _ => none
  | .makeMap _ none => some (.hf .mkMap [])
  | .lookup t m k ok => match P.underlying t, cOpd m, cOpd k with
    | some (.map kt el), some m, some k => match kcOf P kt, zeroA P el with
      | some kc, some z => some (.hf (.mLook kc ok z) [m, k])
      | _, _ => none
    | _, _, _ => none
  | .mapEntry t m k => match P.underlying t, cOpd m, cOpd k with
    | some (.map kt el), some m, some k => match kcOf P kt, zeroA P el with
      | some kc, some z => some (.hf (.mf (.entry kc z)) [m, k])
      | _, _ => none
    | _, _, _ => none
  | .entryStore _ m n x => match cOpd m, cOpd n, cOpd x with
    | some m, some n, some x => some (.hf (.mf .store) [m, n, x])
    | _, _, _ => none
  | .mapUpdate t m k x => match P.underlying t, cOpd m, cOpd k, cOpd x with
    | some (.map kt _), some m, some k, some x => match kcOf P kt with
      | some kc => some (.hf (.mf (.upd kc)) [m, k, x])
      | none => none
    | _, _, _, _ => none
  | .insert t m k x => match P.underlying t, cOpd m, cOpd k, cOpd x with
    | some (.map kt _), some m, some k, some x => match kcOf P kt with
      | some kc => some (.hf (.mf (.upd kc)) [m, k, x])
      | none => none
    | _, _, _, _ => none
  | .typeAssert x _ t ok => match P.underlying t, zeroA P t, cOpd x with
    | some (.interface _), _, _ => none
    | some _, some z, some y => some (.pf (.tAss t ok z) [y])
    | _, _, _ => none
  | _ => none
def cOp (o : Op) : Option AOp :=
  match cOpX P o with
  | some a => some a
  | none => match cOp0 P o with
    | some a => some a
    | none => some .bad
end
section
variable {P : Program} {Prot : Gh} {w0 : World} {ρ : Pl} {H H' : AHeap} {w : World}
structure TmpsRel (ρ : Pl) (n : Nat) (T : Tr AVal) (tmps : Array Value) : Prop where
  size : tmps.size = n
  at_ : ∀ t, VRel ρ (ev T (.t t)) (tmps.getD t undef)
theorem TmpsRel.mono {ρ ρ' : Pl} {n : Nat} {T : Tr AVal} {tmps : Array Value} (h : ρ.le ρ') (t : TmpsRel ρ n T tmps) : TmpsRel ρ' n T tmps := ⟨t.size, fun i => VRel.mono h _ _ (t.at_ i)⟩
theorem opd_ok {n : Nat} {T : Tr AVal} {a : Act} (h : TmpsRel ρ n T a.tmps) {x : Operand} {y : Opd} (hc : cOpd x = some y) : VRel ρ (ev T y) (a.eval x) := by
  cases x with
  | tmp t => simp only [cOpd, Option.some.injEq] at hc; subst hc; exact h.at_ t
  | const v =>
    simp only [cOpd] at hc
    split at hc
    · rename_i x hx
      simp only [Option.some.injEq] at hc
      subst hc
      exact absC_ok hx
    · simp at hc
  | global g => simp [cOpd] at hc
  | func f =>
    simp only [cOpd, Option.some.injEq] at hc
    subst hc
    simp only [ev, Act.eval, VRel]
    exact ⟨#[], #[], rfl, by simp [VRels], by simp [VRels]⟩
theorem opds_ok {n : Nat} {T : Tr AVal} {a : Act} (h : TmpsRel ρ n T a.tmps) : ∀ {l : List Operand} {m : List Opd}, cOpds l = some m → VRels ρ (evs T m) (l.map a.eval) := by
  intro l
  induction l with
  | nil => intro m hc; simp only [cOpds, Option.some.injEq] at hc; subst hc; simp [evs, VRels]
  | cons x r ih =>
    intro m hc
    simp only [cOpds] at hc
    split at hc
    · rename_i y l' h1 h2
      simp only [Option.some.injEq] at hc
      subst hc
      simp only [evs, List.map_cons, VRels]
      exact ⟨_, _, rfl, opd_ok h h1, ih h2⟩
    · simp at hc
theorem opdO_ok {n : Nat} {T : Tr AVal} {a : Act} (h : TmpsRel ρ n T a.tmps) {x : Option Operand} {y : Option Opd} (hc : cOpdO x = some y) : ORelV ρ (evO T y) (x.map a.eval) := by
  cases x with
  | none => simp only [cOpdO, Option.some.injEq] at hc; subst hc; rfl
  | some x =>
    simp only [cOpdO] at hc
    split at hc
    · rename_i z hz
      simp only [Option.some.injEq] at hc
      subst hc
      exact ⟨_, rfl, opd_ok h hz⟩
    · simp at hc
theorem parts_ok {n : Nat} {T : Tr AVal} {a : Act} (h : TmpsRel ρ n T a.tmps) {place : Nat → Option (Nat × Nat)} : ∀ {l : List (Nat × Operand)} {m : List (Nat × Nat × Opd)}, cParts place l = some m →
    PartsRel ρ place (evP T m) (l.map fun p => (p.1, a.eval p.2)) := by
  intro l
  induction l with
  | nil => intro m hc; simp only [cParts, Option.some.injEq] at hc; subst hc; simp [evP, PartsRel]
  | cons x r ih =>
    intro m hc
    obtain ⟨i, x⟩ := x
    simp only [cParts] at hc
    split at hc
    · rename_i o k y l' h1 h2 h3
      simp only [Option.some.injEq] at hc
      subst hc
      simp only [evP, List.map_cons, PartsRel]
      exact ⟨_, _, _, rfl, h1, opd_ok h h2, ih h3⟩
    · simp at hc
def NxRel (P : Program) (ρ : Pl) : Nx → Next → Prop
  | .val x, .value v => VRel ρ x v
  | .val x, .skip => VRel ρ x undef
  | .enter f l, .enter g vs => g = f ∧ Nat.blt f BIG = true ∧ VRels ρ l vs.toList
  | _, _ => False
def OpSim (P : Program) (Prot : Gh) (w0 : World) (ρ : Pl) (w : World) (s : Sem Next) (nx : Nx) (H' : AHeap) : Prop :=
  ∃ ρ' w' n, ρ.le ρ' ∧ s.run P w = .ok n w' ∧ Rel Prot w0 ρ' H' w' ∧ NxRel P ρ' nx n
theorem OpSim.val (R : Rel Prot w0 ρ H w) {x : AVal} {s : Sem Value} (h : ∃ u, s.run P w = .ok u w ∧ VRel ρ x u) : OpSim P Prot w0 ρ w (do pure (.value (← s))) (.val x) H := by
  obtain ⟨u, h1, h2⟩ := h
  exact ⟨ρ, w, .value u, Pl.le_refl _, by simp only [Sem.run_bind, h1, Result.andThen_ok]; rfl, R, h2⟩
theorem OpSim.good {x : AVal} {s : Sem Value} (h : GoodV P Prot w0 ρ w s x H') : OpSim P Prot w0 ρ w (do pure (.value (← s))) (.val x) H' := by
  obtain ⟨ρ', w', u, h1, h2, h3, h4⟩ := h
  exact ⟨ρ', w', .value u, h1, by simp only [Sem.run_bind, h2, Result.andThen_ok]; rfl, h3, h4⟩
theorem vv_spec {x : Option AVal} {nx : Nx} (h : vv H x = some (nx, H')) : ∃ y, x = some y ∧ nx = .val y ∧ H' = H := by
  unfold vv at h
  split at h
  · simp only [Option.some.injEq, Prod.mk.injEq] at h; exact ⟨_, rfl, h.1.symm, h.2.symm⟩
  · simp at h
theorem vh_spec {x : Option (AVal × AHeap)} {nx : Nx} (h : vh x = some (nx, H')) : ∃ y, x = some (y, H') ∧ nx = .val y := by
  unfold vh at h
  split at h
  · simp only [Option.some.injEq, Prod.mk.injEq] at h; obtain ⟨rfl, rfl⟩ := h; exact ⟨_, rfl, rfl⟩
  · simp at h
theorem nilChk_ok (R : Rel Prot w0 ρ H w) {x y : AVal} {v : Value} (hx : VRel ρ x v) (h : aNilChk x = some y) (o : Oper) {q : Operand} (ev' : Operand → Value) (hv : ev' q = v) :
    OpSim P Prot w0 ρ w (execOp ev' { o with op := .nilCheck q }) (.val y) H := by
  have hy : y = x ∧ (∀ b, execOp ev' { o with op := .nilCheck q } = pure (.value v) ∨ b = true) := by
    cases x with
    | val a => simp [aNilChk] at h
    | ptr a =>
      cases a with
      | none => simp [aNilChk] at h
      | some a =>
        simp only [aNilChk, Option.some.injEq] at h
        simp only [VRel] at hx
        obtain ⟨L, _, _, rfl⟩ := hx
        exact ⟨h.symm, fun _ => .inl (by simp [execOp, hv])⟩
    | nilIface => simp [aNilChk] at h
    | nilFunc => simp [aNilChk] at h
    | func fn a b =>
      cases fn <;> simp only [aNilChk, Option.some.injEq, reduceCtorEq] at h
      all_goals
        simp only [VRel] at hx
        obtain ⟨f, c, rfl, _⟩ := hx
        exact ⟨h.symm, fun _ => .inl (by simp [execOp, hv])⟩
    | slice a n r =>
      simp only [aNilChk, Option.some.injEq] at h
      have : ∃ b m c, v = .slice b m c := by
        cases a with
        | none => simp only [VRel] at hx; exact ⟨_, _, _, hx.2.2⟩
        | some a => obtain ⟨_, _, _, _, _, h3, _⟩ := slice_off hx; exact ⟨_, _, _, h3⟩
      obtain ⟨b, m, c, rfl⟩ := this
      exact ⟨h.symm, fun _ => .inl (by simp [execOp, hv])⟩
    | map a =>
      simp only [aNilChk, Option.some.injEq] at h
      cases a with
      | none => simp only [VRel] at hx; subst hx; exact ⟨h.symm, fun _ => .inl (by simp [execOp, hv])⟩
      | some a => simp only [VRel] at hx; obtain ⟨L, _, rfl⟩ := hx; exact ⟨h.symm, fun _ => .inl (by simp [execOp, hv])⟩
    | bool b => simp only [aNilChk, Option.some.injEq] at h; simp only [VRel] at hx; subst hx; exact ⟨h.symm, fun _ => .inl (by simp [execOp, hv])⟩
    | int b c => simp only [aNilChk, Option.some.injEq] at h; simp only [VRel] at hx; subst hx; exact ⟨h.symm, fun _ => .inl (by simp [execOp, hv])⟩
    | str b => simp only [aNilChk, Option.some.injEq] at h; simp only [VRel] at hx; subst hx; exact ⟨h.symm, fun _ => .inl (by simp [execOp, hv])⟩
    | iface t b => simp only [aNilChk, Option.some.injEq] at h; simp only [VRel] at hx; obtain ⟨_, rfl, _⟩ := hx; exact ⟨h.symm, fun _ => .inl (by simp [execOp, hv])⟩
    | agg l => simp only [aNilChk, Option.some.injEq] at h; simp only [VRel] at hx; obtain ⟨_, rfl, _⟩ := hx; exact ⟨h.symm, fun _ => .inl (by simp [execOp, hv])⟩
    | tuple l => simp only [aNilChk, Option.some.injEq] at h; simp only [VRel] at hx; obtain ⟨_, rfl, _⟩ := hx; exact ⟨h.symm, fun _ => .inl (by simp [execOp, hv])⟩
  obtain ⟨rfl, h2⟩ := hy
  rcases h2 false with h2 | h2
  · exact ⟨ρ, w, .value v, Pl.le_refl _, by rw [h2]; rfl, R, hx⟩
  · simp at h2
end
end Go.Abs
namespace Go.Abs
section
variable {P : Program} {Prot : Gh} {w0 : World} {ρ : Pl} {H H' : AHeap} {w : World}
theorem eqGuard_ok {op : BinOp} {t : TypeId} {x y : Operand} {u v : Value} {p q r : AVal} (hx : VRel ρ p u) (hy : VRel ρ q v) (h : aBin op p q = some r) : (eqGuard op t x y u v).run P w = .ok () w := by
  unfold aBin at h
  split at h
  · simp only [VRel] at hx hy
    subst hx hy
    cases op <;> rfl
  · simp only [VRel] at hx hy
    subst hx hy
    cases op <;> rfl
  · simp at h
theorem asBool_ok {b : Bool} {v : Value} (h : VRel ρ (.bool b) v) : (asBool v).run P w = .ok b w := by
  simp only [VRel] at h; subst h; rfl
theorem callFunc_ok {f : FuncId} (h : hasBody P f = true) (args : Array Value) : (callFunc f args).run P w = .ok (.enter f args) w := by
  unfold hasBody at h
  rw [Bool.and_eq_true] at h
  replace h := h.2
  split at h
  · rename_i fn hf
    simp only [Bool.and_eq_true, Bool.not_eq_true'] at h
    have h1 : fn.body.isNone = false := by
      cases hb : fn.body with
      | none => rw [hb] at h; simp at h
      | some b => rfl
    simp only [callFunc, Sem.run_bind, run_program, Result.andThen_ok, hf, h.2, Bool.false_eq_true, if_false, h1]
    rfl
  · simp at h
theorem tail_of {t : TypeId} (h : isTail P t = true) : Tail P t := by
  unfold isTail at h
  split at h
  · rename_i e he; exact .inl ⟨e, he⟩
  · rename_i he; exact .inr he
  · simp at h
theorem two_arr {α : Type} {x y : α} {arr : Array α} (h : arr.toList = [x, y]) : arr = #[x, y] := Array.toList_inj.1 (by simpa using h)
theorem opds_two {x y : Opd} {l : List Operand} (h : cOpds l = some [x, y]) : ∃ p q, l = [p, q] ∧ cOpd p = some x ∧ cOpd q = some y := by
  cases l with
  | nil => simp [cOpds] at h
  | cons p l =>
    cases l with
    | nil =>
      simp only [cOpds] at h
      split at h
      · rename_i a b h1 h2
        simp only [Option.some.injEq, List.cons.injEq] at h h2
        rw [← h2] at h
        simp at h
      · simp at h
    | cons q l =>
      cases l with
      | nil =>
        simp only [cOpds] at h
        split at h
        · rename_i a b h1 h2
          split at h2
          · rename_i c d h3 h4
            simp only [Option.some.injEq] at h4 h2
            subst h4
            subst h2
            simp only [Option.some.injEq, List.cons.injEq, and_true] at h
            obtain ⟨rfl, rfl⟩ := h
            exact ⟨p, q, rfl, h1, h3⟩
          · simp at h2
        · simp at h
      | cons r l =>
        simp only [cOpds] at h
        split at h
        · rename_i a b h1 h2
          split at h2
          · rename_i c d h3 h4
            split at h4
            · rename_i e f h5 h6
              simp only [Option.some.injEq] at h4 h2
              subst h4
              subst h2
              simp at h
            · simp at h4
          · simp at h2
        · simp at h
theorem opds_one {x : Opd} {l : List Operand} (h : cOpds l = some [x]) : ∃ p, l = [p] ∧ cOpd p = some x := by
  cases l with
  | nil => simp [cOpds] at h
  | cons p l =>
    cases l with
    | nil =>
      simp only [cOpds] at h
      split at h
      · rename_i a b h1 h2
        simp only [Option.some.injEq, List.cons.injEq] at h h2
        subst h2
        obtain ⟨rfl, _⟩ := h
        exact ⟨p, rfl, h1⟩
      · simp at h
    | cons q l =>
      simp only [cOpds] at h
      split at h
      · rename_i a b h1 h2
        split at h2
        · rename_i c d h3 h4
          simp only [Option.some.injEq] at h2
          subst h2
          simp at h
        · simp at h2
      · simp at h
theorem call_sim {tb : FuncId → Bool} (htb : ∀ f, Nat.blt f BIG = true → tb f = true → hasBody P f = true) (R : Rel Prot w0 ρ H w) {n : Nat} {T : Tr AVal} {a : Act} (ht : TmpsRel ρ n T a.tmps) (o : Oper) (c : Call) {ao : AOp} (hc : cCall P c = some ao)
    {nx : Nx} (h : aop tb T H ao = some (nx, H')) : OpSim P Prot w0 ρ w (execOp a.eval { o with op := .call c }) nx H' := by
  obtain ⟨callee, args, argTypes⟩ := c
  unfold cCall at hc
  split at hc
  · -- a function
    rename_i f heq
    simp only at heq
    subst heq
    cases hbig : Nat.blt f BIG with
    | false => rw [hbig] at hc; simp at hc
    | true =>
    rw [hbig] at hc
    simp only [cond_true] at hc
    split at hc
    · rename_i l hl
      simp only [Option.some.injEq] at hc
      subst hc
      simp only [aop] at h
      cases hb : tb f with
      | false => rw [hb] at h; simp at h
      | true =>
        rw [hb] at h
        simp only [cond_true, Option.some.injEq, Prod.mk.injEq] at h
        obtain ⟨rfl, rfl⟩ := h
        refine ⟨ρ, w, .enter f (args.map a.eval), Pl.le_refl _, ?_, R, rfl, hbig, ?_⟩
        · have := callFunc_ok (P := P) (w := w) (htb f hbig hb) (args.map a.eval)
          simp [execOp, resolve, Act.eval, Deferred.ofValue, invoke, this]
        · simpa using opds_ok ht hl
    · simp at hc
  · rename_i x _ heq
    simp only at heq
    subst heq
    split at hc
    · rename_i y l hy hl
      simp only [Option.some.injEq] at hc
      subst hc
      simp only [aop] at h
      split at h
      · rename_i f fs cs hev
        cases hb' : (Nat.blt f BIG && tb f) with
        | false => rw [hb'] at h; simp at h
        | true =>
          rw [hb'] at h
          simp only [Bool.and_eq_true] at hb'
          obtain ⟨hbig, hb⟩ := hb'
          simp only [cond_true, Option.some.injEq, Prod.mk.injEq] at h
          obtain ⟨rfl, rfl⟩ := h
          have hv := opd_ok ht hy
          rw [hev] at hv
          simp only [VRel] at hv
          obtain ⟨fv, cv, hfv, h1, h2⟩ := hv
          refine ⟨ρ, w, .enter f (fv ++ args.map a.eval ++ cv), Pl.le_refl _, ?_, R, rfl, hbig, ?_⟩
          · have := callFunc_ok (P := P) (w := w) (htb f hbig hb) (fv ++ args.map a.eval ++ cv)
            simp only [Array.append_assoc] at this
            simp [execOp, resolve, hfv, Deferred.ofValue, invoke, this]
          · simpa using VRels.append (VRels.append h1 (opds_ok ht hl)) h2
      · simp at h
    · simp at hc
  · -- append
    rename_i heq
    simp only at heq
    subst heq
    split at hc
    · rename_i sT xT s x hT hO
      simp only at hT hO
      obtain ⟨p, q, hpq, hp, hq⟩ := opds_two hO
      have ha := two_arr hT
      have hb := two_arr hpq
      subst ha hb
      split at hc
      · rename_i e he
        split at hc
        · rename_i g m m' b h1 h2
          cases hg : (Nat.beq m m' && isTail P xT) with
          | false => rw [hg] at hc; simp at hc
          | true =>
            rw [hg] at hc
            simp only [Bool.and_eq_true] at hg
            simp only [cond_true, Option.some.injEq] at hc
            subst hc
            have := Nat.eq_of_beq_eq_true hg.1
            subst this
            simp only [aop] at h
            obtain ⟨y, hy, rfl⟩ := vh_spec h
            have := OpSim.good (append_ok (P := P) (t := o.type) R he (ty_of h1) (elem_of h2) (tail_of hg.2) (opd_ok ht hp) (opd_ok ht hq) hy)
            simpa [execOp, resolve, invoke, builtin] using this
        · simp at hc
      · simp at hc
    · simp at hc
  · -- len
    rename_i heq
    simp only at heq
    subst heq
    split at hc
    · rename_i T1 x hT hO
      simp only at hT hO
      obtain ⟨p, hpq, hp⟩ := opds_one hO
      have ha : argTypes = #[T1] := Array.toList_inj.1 (by simpa using hT)
      have hb : args = #[p] := Array.toList_inj.1 (by simpa using hpq)
      subst ha hb
      split at hc
      · rename_i e he
        simp only [Option.some.injEq] at hc
        subst hc
        simp only [aop] at h
        obtain ⟨y, hy, rfl, rfl⟩ := vv_spec h
        have hx := opd_ok ht hp
        unfold aLenK at hy
        split at hy
        · simp at hy
        · rename_i a1 n1 r1 hev
          simp only [cond_false, Option.some.injEq] at hy
          have := OpSim.val R (len_ok (P := P) (w := w) (t := o.type) (.inl ⟨e, he⟩) hx (by rw [hev]; simp only [aLen, Option.some.injEq]; exact hy) (.inr (.inl ⟨a1, n1, r1, e, hev, he⟩)))
          simpa [execOp, resolve, invoke, builtin] using this
        · rename_i a1 n1 c1 hev
          simp only [cond_false, Option.some.injEq] at hy
          have := OpSim.val R (len_ok (P := P) (w := w) (t := o.type) (.inl ⟨e, he⟩) hx (by rw [hev]; simp only [aLen, Option.some.injEq]; exact hy) (.inr (.inr ⟨a1, n1, c1, e, hev, he⟩)))
          simpa [execOp, resolve, invoke, builtin] using this
        · simp at hy
      · rename_i he
        simp only [Option.some.injEq] at hc
        subst hc
        simp only [aop] at h
        obtain ⟨y, hy, rfl, rfl⟩ := vv_spec h
        have hx := opd_ok ht hp
        unfold aLenK at hy
        split at hy
        · rename_i s1 hev
          simp only [cond_true, Option.some.injEq] at hy
          have := OpSim.val R (len_ok (P := P) (w := w) (t := o.type) (.inr he) hx (by rw [hev]; simp only [aLen, Option.some.injEq]; exact hy) (.inl ⟨s1, hev, he⟩))
          simpa [execOp, resolve, invoke, builtin] using this
        · simp at hy
        · simp at hy
        · simp at hy
      · simp at hc
    · simp at hc
  · simp at hc
theorem op_sim0 {tb : FuncId → Bool} (htb : ∀ f, Nat.blt f BIG = true → tb f = true → hasBody P f = true) (R : Rel Prot w0 ρ H w) {n : Nat} {T : Tr AVal} {a : Act} (ht : TmpsRel ρ n T a.tmps) (o : Oper) {ao : AOp} (hc : cOp0 P o.op = some ao)
    {nx : Nx} (h : aop tb T H ao = some (nx, H')) : OpSim P Prot w0 ρ w (execOp a.eval o) nx H' := by
  obtain ⟨dst, op, type, pos, after, guard⟩ := o
  simp only at hc
  cases op <;> simp only [cOp0, reduceCtorEq] at hc
  case move x =>
    split at hc
    · rename_i y hy
      simp only [Option.some.injEq] at hc; subst hc
      simp only [aop, Option.some.injEq, Prod.mk.injEq] at h
      obtain ⟨rfl, rfl⟩ := h
      exact ⟨ρ, w, _, Pl.le_refl _, rfl, R, opd_ok ht hy⟩
    · simp at hc
  case assign x =>
    split at hc
    · rename_i y hy
      simp only [Option.some.injEq] at hc; subst hc
      simp only [aop, Option.some.injEq, Prod.mk.injEq] at h
      obtain ⟨rfl, rfl⟩ := h
      exact ⟨ρ, w, _, Pl.le_refl _, rfl, R, opd_ok ht hy⟩
    · simp at hc
  case pick c x y =>
    split at hc
    · rename_i c' x' y' h1 h2 h3
      simp only [Option.some.injEq] at hc; subst hc
      simp only [aop] at h
      split at h
      · rename_i b hb
        simp only [Option.some.injEq, Prod.mk.injEq] at h
        obtain ⟨rfl, rfl⟩ := h
        have hcv := opd_ok ht h1
        rw [hb] at hcv
        refine ⟨ρ, w, .value (if b then a.eval x else a.eval y), Pl.le_refl _, ?_, R, ?_⟩
        · simp only [execOp, Sem.run_bind, asBool_ok hcv, Result.andThen_ok]; rfl
        · cases b
          · exact opd_ok ht h3
          · exact opd_ok ht h2
      · simp at h
    · simp at hc
  case alloc e =>
    split at hc
    · rename_i z hz
      simp only [Option.some.injEq] at hc; subst hc
      simp only [aop] at h
      obtain ⟨y, hy, rfl⟩ := vh_spec h
      simp only [Option.some.injEq] at hy
      have := OpSim.good (alloc_ok (P := P) R hz)
      rw [hy] at this
      exact this
    · simp at hc
  case box e x =>
    split at hc
    · rename_i y hy
      simp only [Option.some.injEq] at hc; subst hc
      simp only [aop] at h
      obtain ⟨z, hz, rfl⟩ := vh_spec h
      simp only [Option.some.injEq] at hz
      have := OpSim.good (new_ok (P := P) R e (opd_ok ht hy))
      rw [hz] at this
      exact this
    · simp at hc
  case build t ps =>
    split at hc
    · rename_i fs z hu hz
      split at hc
      · rename_i pl hpl
        split at hc
        · rename_i l hl
          simp only [Option.some.injEq] at hc; subst hc
          simp only [aop] at h
          obtain ⟨y, hy, rfl, rfl⟩ := vv_spec h
          have := OpSim.val R (buildStr_ok (P := P) (w := w) (qs := ps.map fun p => (p.1, a.eval p.2)) hu hpl hz (by simpa using parts_ok ht hl) hy)
          simpa [execOp] using this
        · simp at hc
      · simp at hc
    · rename_i m e z hu hz
      split at hc
      · rename_i g k hk
        split at hc
        · rename_i l hl
          simp only [Option.some.injEq] at hc; subst hc
          simp only [aop] at h
          obtain ⟨y, hy, rfl, rfl⟩ := vv_spec h
          have := OpSim.val R (buildArr_ok (P := P) (w := w) (qs := ps.map fun p => (p.1, a.eval p.2)) hu (ty_of hk) hz (by simpa using parts_ok ht hl) hy)
          simpa [execOp] using this
        · simp at hc
      · simp at hc
    · simp at hc
  case buildSlice t len ps =>
    split at hc
    · rename_i e hu
      split at hc
      · rename_i g k z hk hz
        split at hc
        · rename_i l hl
          cases hg : (Nat.beq z.length k && Nat.ble (len * k) 16777216) with
          | false => rw [hg] at hc; simp at hc
          | true =>
            rw [hg] at hc
            simp only [Bool.and_eq_true, Nat.ble_eq] at hg
            simp only [cond_true, Option.some.injEq] at hc; subst hc
            simp only [aop] at h
            obtain ⟨y, hy, rfl⟩ := vh_spec h
            have := OpSim.good (buildSl_ok (P := P) (qs := ps.map fun p => (p.1, a.eval p.2)) R hu (ty_of hk) hz (Nat.eq_of_beq_eq_true hg.1) hg.2 (by simpa using parts_ok ht hl) hy)
            simpa [execOp] using this
        · simp at hc
      · simp at hc
    · simp at hc
  case load t x =>
    split at hc
    · rename_i g k y hk hy
      simp only [Option.some.injEq] at hc; subst hc
      simp only [aop] at h
      obtain ⟨z, hz, rfl, rfl⟩ := vv_spec h
      exact OpSim.val R (load_ok (P := P) R (ty_of hk) (opd_ok ht hy) hz)
    · simp at hc
  case store t x y =>
    split at hc
    · rename_i g k x' y' hk hx hy
      simp only [Option.some.injEq] at hc; subst hc
      simp only [aop] at h
      split at h
      · rename_i H1 h1
        simp only [Option.some.injEq, Prod.mk.injEq] at h
        obtain ⟨rfl, rfl⟩ := h
        obtain ⟨w', q1, q2⟩ := store_ok (P := P) R (ty_of hk) (opd_ok ht hx) (opd_ok ht hy) h1
        refine ⟨ρ, w', .skip, Pl.le_refl _, ?_, q2, ?_⟩
        · simp only [execOp, Sem.run_bind, q1, Result.andThen_ok]; rfl
        · simp only [NxRel, undefA, VRel, undef]; exact ⟨#[], rfl, by simp [VRels]⟩
      · simp at h
    · simp at hc
  case nilCheck x =>
    split at hc
    · rename_i y hy
      simp only [Option.some.injEq] at hc; subst hc
      simp only [aop] at h
      obtain ⟨z, hz, rfl, rfl⟩ := vv_spec h
      exact nilChk_ok R (opd_ok ht hy) hz ⟨dst, .nilCheck x, type, pos, after, guard⟩ a.eval rfl
    · simp at hc
  case binOp op t x y yt =>
    split at hc
    · rename_i x' y' hx hy
      simp only [Option.some.injEq] at hc; subst hc
      simp only [aop] at h
      obtain ⟨z, hz, rfl, rfl⟩ := vv_spec h
      obtain ⟨u, h1, h2⟩ := bin_ok (P := P) (t := t) (opd_ok ht hx) (opd_ok ht hy) hz w
      refine OpSim.val R ⟨u, ?_, h2⟩
      simp only [Sem.run_bind, eqGuard_ok (opd_ok ht hx) (opd_ok ht hy) hz, Result.andThen_ok, h1]
    · simp at hc
  case unOp op t x =>
    split at hc
    · rename_i y hy
      simp only [Option.some.injEq] at hc; subst hc
      simp only [aop] at h
      obtain ⟨z, hz, rfl, rfl⟩ := vv_spec h
      exact OpSim.val R (un_ok (P := P) (opd_ok ht hy) hz w)
    · simp at hc
  case convert s d x =>
    split at hc
    · rename_i y hy
      split at hc
      · rename_i d1 k h1 h2
        simp only [Option.some.injEq] at hc; subst hc
        simp only [aop] at h
        obtain ⟨z, hz, rfl, rfl⟩ := vv_spec h
        exact OpSim.val R (conv_ok (P := P) h1 h2 (opd_ok ht hy) hz w)
      · rename_i e _ h1 h2
        split at hc
        · rename_i he
          simp only [Option.some.injEq] at hc; subst hc
          simp only [aop] at h
          obtain ⟨z, hz, rfl⟩ := vh_spec h
          exact OpSim.good (sb_ok (P := P) R h1 h2 he (opd_ok ht hy) hz)
        · simp at hc
      · rename_i e _ h1 h2
        split at hc
        · rename_i he
          simp only [Option.some.injEq] at hc; subst hc
          simp only [aop] at h
          obtain ⟨z, hz, rfl, rfl⟩ := vv_spec h
          exact OpSim.val R (bs_ok (P := P) R h1 he h2 (opd_ok ht hy) hz)
        · simp at hc
      · simp at hc
    · simp at hc
  case makeInterface t x =>
    split at hc
    · simp at hc
    · rename_i y d hno hy hu
      simp only [Option.some.injEq] at hc; subst hc
      simp only [aop, Option.some.injEq, Prod.mk.injEq] at h
      obtain ⟨rfl, rfl⟩ := h
      refine OpSim.val R ⟨.iface t (a.eval x), ?_, by simp only [VRel]; exact ⟨_, rfl, opd_ok ht (by assumption)⟩⟩
      cases d <;> first
        | exact (hno _ rfl).elim
        | (simp only [Instr.makeInterface, Sem.run_bind, run_underlying hu, Result.andThen_ok]; rfl)
    · simp at hc
  case makeFunc fn x y =>
    split at hc
    · rename_i x' y' hx hy
      simp only [Option.some.injEq] at hc; subst hc
      simp only [aop, Option.some.injEq, Prod.mk.injEq] at h
      obtain ⟨rfl, rfl⟩ := h
      refine OpSim.val R ⟨.func fn (x.map a.eval) (y.map a.eval), rfl, ?_⟩
      simp only [VRel]
      exact ⟨_, _, rfl, by simpa using opds_ok ht hx, by simpa using opds_ok ht hy⟩
    · simp at hc
  case makeSlice t l c =>
    split at hc
    · rename_i e hu
      split at hc
      · rename_i m b z l' c' h1 h2 h3 h4
        simp only [Option.some.injEq] at hc; subst hc
        simp only [aop] at h
        obtain ⟨y, hy, rfl⟩ := vh_spec h
        exact OpSim.good (make_ok (P := P) R hu (elem_of h1) h2 (opd_ok ht h3) (opd_ok ht h4) hy)
      · simp at hc
    · simp at hc
  case slice t x lo hi mx =>
    split at hc
    · rename_i x' lo' hi' hu hx hlo hhi hmx
      simp only [Option.some.injEq] at hc; subst hc
      simp only [aop] at h
      obtain ⟨y, hy, rfl, rfl⟩ := vv_spec h
      have hmn : mx = none := by
        cases mx with
        | none => rfl
        | some m => simp only [cOpdO] at hmx; split at hmx <;> simp at hmx
      subst hmn
      obtain ⟨u, q1, q2⟩ := slStr_ok (P := P) (w := w) hu (opd_ok ht hx) (opdO_ok ht hlo) (opdO_ok ht hhi) hy
      refine OpSim.val R ⟨u, ?_, q2⟩
      simp only [Instr.sliceAt, Sem.run_bind, run_underlying hu, Result.andThen_ok]
      exact q1
    · rename_i e x' lo' hi' mx' hu hx hlo hhi hmx
      split at hc
      · rename_i g k hk
        simp only [Option.some.injEq] at hc; subst hc
        simp only [aop] at h
        obtain ⟨y, hy, rfl, rfl⟩ := vv_spec h
        obtain ⟨u, q1, q2⟩ := sl_ok (P := P) (w := w) hu (ty_of hk) (opd_ok ht hx) (opdO_ok ht hlo) (opdO_ok ht hhi) (opdO_ok ht hmx) hy
        refine OpSim.val R ⟨u, ?_, q2⟩
        simp only [Instr.sliceAt, Sem.run_bind, run_underlying hu, Result.andThen_ok]
        exact q1
      · simp at hc
    · simp at hc
  case fieldAddr s x i =>
    split at hc
    · rename_i fs y hu hy
      split at hc
      · rename_i f hf
        split at hc
        · rename_i g k hk
          cases hg : Nat.beq k 0 with
          | true => rw [hg] at hc; simp at hc
          | false =>
            rw [hg] at hc
            simp only [cond_false, Option.some.injEq] at hc; subst hc
            simp only [aop] at h
            obtain ⟨z, hz, rfl, rfl⟩ := vv_spec h
            exact OpSim.val R (fieldA_ok (P := P) (w := w) hu hf (ty_of hk) (fun e => by rw [e] at hg; simp at hg) (opd_ok ht hy) hz)
        · simp at hc
      · simp at hc
    · simp at hc
  case field s x i =>
    split at hc
    · rename_i fs y hu hy
      split at hc
      · rename_i f hf
        split at hc
        · rename_i g k hk
          simp only [Option.some.injEq] at hc; subst hc
          simp only [aop] at h
          obtain ⟨z, hz, rfl, rfl⟩ := vv_spec h
          exact OpSim.val R (fieldV_ok (P := P) (w := w) hu hf (ty_of hk) (opd_ok ht hy) hz)
        · simp at hc
      · simp at hc
    · simp at hc
  case indexAddr t x i =>
    split at hc
    · rename_i e x' i' hu hx hi
      split at hc
      · rename_i g k hk
        simp only [Option.some.injEq] at hc; subst hc
        simp only [aop] at h
        obtain ⟨z, hz, rfl, rfl⟩ := vv_spec h
        exact OpSim.val R (idxA_ok (P := P) (w := w) hu (ty_of hk) (opd_ok ht hx) (opd_ok ht hi) hz)
      · simp at hc
    · rename_i m e x' i' hu hx hi
      split at hc
      · rename_i g k hk
        simp only [Option.some.injEq] at hc; subst hc
        simp only [aop] at h
        obtain ⟨z, hz, rfl, rfl⟩ := vv_spec h
        exact OpSim.val R (idxArr_ok (P := P) (w := w) hu (ty_of hk) (opd_ok ht hx) (opd_ok ht hi) hz)
      · simp at hc
    · simp at hc
  case index t x i =>
    split at hc
    · rename_i x' i' hu hx hi
      simp only [Option.some.injEq] at hc; subst hc
      simp only [aop] at h
      obtain ⟨z, hz, rfl, rfl⟩ := vv_spec h
      exact OpSim.val R (idxS_ok (P := P) (w := w) hu (opd_ok ht hx) (opd_ok ht hi) hz)
    · rename_i m e x' i' hu hx hi
      split at hc
      · rename_i g k hk
        simp only [Option.some.injEq] at hc; subst hc
        simp only [aop] at h
        obtain ⟨z, hz, rfl, rfl⟩ := vv_spec h
        exact OpSim.val R (idx_ok (P := P) (w := w) hu (ty_of hk) (opd_ok ht hx) (opd_ok ht hi) hz)
      · simp at hc
    · simp at hc
  case extract x i =>
    split at hc
    · rename_i y hy
      simp only [Option.some.injEq] at hc; subst hc
      simp only [aop] at h
      obtain ⟨z, hz, rfl, rfl⟩ := vv_spec h
      exact OpSim.val R (extract_ok (P := P) (w := w) (opd_ok ht hy) hz)
    · simp at hc
  case call c => exact call_sim htb R ht ⟨dst, .call c, type, pos, after, guard⟩ c hc h
theorem OpSim.skip {s : Sem Unit} {w' : World} (hr : s.run P w = .ok () w') (hR : Rel Prot w0 ρ H' w') : OpSim P Prot w0 ρ w (do s; pure .skip) (.val (.tuple [])) H' :=
  ⟨ρ, w', .skip, Pl.le_refl _, by simp only [Sem.run_bind, hr, Result.andThen_ok]; rfl, hR, by simp only [NxRel, VRel, undef]; exact ⟨#[], rfl, by simp [VRels]⟩⟩
theorem op_simX {tb : FuncId → Bool} (R : Rel Prot w0 ρ H w) {n : Nat} {T : Tr AVal} {a : Act} (ht : TmpsRel ρ n T a.tmps) (o : Oper) {ao : AOp} (hc : cOpX P o.op = some ao)
    {nx : Nx} (h : aop tb T H ao = some (nx, H')) : OpSim P Prot w0 ρ w (execOp a.eval o) nx H' := by
  obtain ⟨dst, op, type, pos, after, guard⟩ := o
  simp only at hc
  unfold cOpX at hc
  split at hc
  · rename_i t x y yt
    split at hc
    · rename_i x' y' hx hy
      split at hc
      · rename_i k hk
        simp only [Option.some.injEq] at hc; subst hc
        simp only [aop] at h
        obtain ⟨z, hz, rfl, rfl⟩ := vv_spec h
        simp only [aPf, evs, aEqs] at hz
        split at hz
        · rename_i b hb
          simp only [cond_false, Option.some.injEq] at hz
          subst hz
          exact OpSim.val R ⟨_, eqv_ok (op := .eql) (.inl rfl) hk (opd_ok ht hx) (opd_ok ht hy) hb, rfl⟩
        · simp at hz
      · split at hc
        · rename_i fs hk
          simp only [Option.some.injEq] at hc; subst hc
          simp only [aop] at h
          obtain ⟨z, hz, rfl, rfl⟩ := vv_spec h
          simp only [aPf, evs] at hz
          unfold aEqSs at hz
          split at hz
          · rename_i l m hlm
            simp only [List.cons.injEq, and_true] at hlm
            obtain ⟨e1, e2⟩ := hlm
            have p1 := opd_ok ht hx
            have p2 := opd_ok ht hy
            rw [e1] at p1
            rw [e2] at p2
            split at hz
            · rename_i b hb
              simp only [cond_false, Option.some.injEq] at hz
              subst hz
              exact OpSim.val R ⟨_, eqSX_ok (op := .eql) (.inl rfl) hk p1 p2 hb, rfl⟩
            · simp at hz
          · simp at hz
        · simp at hc
    · simp at hc
  · rename_i t x y yt
    split at hc
    · rename_i x' y' hx hy
      split at hc
      · rename_i k hk
        simp only [Option.some.injEq] at hc; subst hc
        simp only [aop] at h
        obtain ⟨z, hz, rfl, rfl⟩ := vv_spec h
        simp only [aPf, evs, aEqs] at hz
        split at hz
        · rename_i b hb
          simp only [cond_true, Option.some.injEq] at hz
          subst hz
          exact OpSim.val R ⟨_, eqv_ok (op := .neq) (.inr rfl) hk (opd_ok ht hx) (opd_ok ht hy) hb, rfl⟩
        · simp at hz
      · split at hc
        · rename_i fs hk
          simp only [Option.some.injEq] at hc; subst hc
          simp only [aop] at h
          obtain ⟨z, hz, rfl, rfl⟩ := vv_spec h
          simp only [aPf, evs] at hz
          unfold aEqSs at hz
          split at hz
          · rename_i l m hlm
            simp only [List.cons.injEq, and_true] at hlm
            obtain ⟨e1, e2⟩ := hlm
            have p1 := opd_ok ht hx
            have p2 := opd_ok ht hy
            rw [e1] at p1
            rw [e2] at p2
            split at hz
            · rename_i b hb
              simp only [cond_true, Option.some.injEq] at hz
              subst hz
              exact OpSim.val R ⟨_, eqSX_ok (op := .neq) (.inr rfl) hk p1 p2 hb, rfl⟩
            · simp at hz
          · simp at hz
        · simp at hc
    · simp at hc
  · rename_i t x
    split at hc
    · rename_i y hu hy
      simp only [Option.some.injEq] at hc; subst hc
      simp only [aop] at h
      obtain ⟨z, hz, rfl⟩ := vh_spec h
      exact OpSim.good (range_ok (P := P) R hu (opd_ok ht hy) hz)
    · simp at hc
  · rename_i x
    split at hc
    · rename_i y hy
      simp only [Option.some.injEq] at hc; subst hc
      simp only [aop] at h
      obtain ⟨z, hz, rfl⟩ := vh_spec h
      exact OpSim.good (next_ok (P := P) (t := type) R (opd_ok ht hy) hz)
    · simp at hc
  · rename_i t x lo hi mx
    split at hc
    · rename_i m e x' lo' hi' mx' hu hx hlo hhi hmx
      split at hc
      · rename_i g k hk
        simp only [Option.some.injEq] at hc; subst hc
        simp only [aop] at h
        obtain ⟨y, hy, rfl, rfl⟩ := vv_spec h
        exact OpSim.val R (slArr_ok (P := P) (w := w) hu (ty_of hk) (opd_ok ht hx) (opdO_ok ht hlo) (opdO_ok ht hhi) (opdO_ok ht hmx) hy)
      · simp at hc
    · simp at hc
  · rename_i s d x
    cases hb : Nat.beq s d with
    | false => rw [hb] at hc; simp at hc
    | true =>
      rw [hb] at hc
      have := Nat.eq_of_beq_eq_true hb
      subst this
      simp only [cond_true] at hc
      split at hc
      · rename_i e y hu hy
        split at hc
        · rename_i he
          simp only [Option.some.injEq] at hc; subst hc
          simp only [aop] at h
          obtain ⟨z, hz, rfl⟩ := vh_spec h
          exact OpSim.good (mark_ok (P := P) R hu he (opd_ok ht hy) hz)
        · simp at hc
      · simp at hc
  · rename_i c
    obtain ⟨callee, args, argTypes⟩ := c
    split at hc
    · rename_i heq
      simp only at heq
      subst heq
      split at hc
      · rename_i l hl
        simp only [Option.some.injEq] at hc; subst hc
        simp only [aop] at h
        obtain ⟨z, hz, rfl, rfl⟩ := vv_spec h
        have hv := opds_ok ht hl
        simp only [aPf] at hz
        cases hl' : evs T l with
        | nil => rw [hl'] at hz; simp [aMMs] at hz
        | cons x r =>
          rw [hl'] at hz hv
          simp only [VRels] at hv
          obtain ⟨v, vs, e, hx, hr⟩ := hv
          obtain ⟨q, hq, hrun⟩ := mm_ok (P := P) (w := w) (g := true) hx hr hz
          refine OpSim.val R (s := Builtin.max_ argTypes type (args.map a.eval)) ⟨q, ?_, hq⟩
          unfold Builtin.max_
          simp only [Array.toList_map, e]
          exact hrun
      · simp at hc
    · rename_i heq
      simp only at heq
      subst heq
      split at hc
      · rename_i T1 x hT hO
        simp only at hT hO
        obtain ⟨p, hpq, hp⟩ := opds_one hO
        have ha : argTypes = #[T1] := Array.toList_inj.1 (by simpa using hT)
        have hb : args = #[p] := Array.toList_inj.1 (by simpa using hpq)
        subst ha hb
        split at hc
        · rename_i e he
          split at hc
          · rename_i zz hzz
            simp only [Option.some.injEq] at hc
            subst hc
            simp only [aop] at h
            obtain ⟨y, hy, rfl⟩ := vh_spec h
            simp only [aHf, evs] at hy
            have := OpSim.good (clr_ok (P := P) R he hzz (ty := type) (opd_ok ht hp) hy)
            simpa [execOp, resolve, invoke, builtin] using this
          · simp at hc
        · simp at hc
      · simp at hc
    · rename_i heq
      simp only at heq
      subst heq
      split at hc
      · rename_i T1 T2 x1 x2 hT hO
        simp only at hT hO
        obtain ⟨p, q, hpq, hp, hq⟩ := opds_two hO
        have ha : argTypes = #[T1, T2] := Array.toList_inj.1 (by simpa using hT)
        have hb : args = #[p, q] := Array.toList_inj.1 (by simpa using hpq)
        subst ha hb
        split at hc
        · rename_i e he
          split at hc
          · rename_i gg nn hzz
            simp only [Option.some.injEq] at hc
            subst hc
            simp only [aop] at h
            obtain ⟨y, hy, rfl⟩ := vh_spec h
            simp only [aHf, evs] at hy
            have := OpSim.good (cpy_ok (P := P) R he (t2 := T2) (ty_of hzz) (ty := type) (opd_ok ht hp) (opd_ok ht hq) hy)
            simpa [execOp, resolve, invoke, builtin] using this
          · simp at hc
        · simp at hc
      · simp at hc
    · rename_i heq
      simp only at heq
      subst heq
      split at hc
      · rename_i l hl
        simp only [Option.some.injEq] at hc; subst hc
        simp only [aop] at h
        obtain ⟨z, hz, rfl, rfl⟩ := vv_spec h
        have hv := opds_ok ht hl
        simp only [aPf] at hz
        cases hl' : evs T l with
        | nil => rw [hl'] at hz; simp [aMMs] at hz
        | cons x r =>
          rw [hl'] at hz hv
          simp only [VRels] at hv
          obtain ⟨v, vs, e, hx, hr⟩ := hv
          obtain ⟨q, hq, hrun⟩ := mm_ok (P := P) (w := w) (g := false) hx hr hz
          refine OpSim.val R (s := Builtin.min_ argTypes type (args.map a.eval)) ⟨q, ?_, hq⟩
          unfold Builtin.min_
          simp only [Array.toList_map, e]
          exact hrun
      · simp at hc
    · rename_i f heq
      simp only at heq
      subst heq
      cases hf : isIbs P f with
      | false =>
        rw [hf] at hc
        simp only [cond_false] at hc
        cases hf2 : isCbs P f with
        | false => rw [hf2] at hc; simp at hc
        | true =>
          rw [hf2] at hc
          simp only [cond_true] at hc
          split at hc
          · rename_i l hl
            simp only [Option.some.injEq] at hc; subst hc
            simp only [aop] at h
            obtain ⟨z, hz, rfl, rfl⟩ := vv_spec h
            simp only [aPf] at hz
            obtain ⟨q, hq, hrun⟩ := cbs_ok (P := P) (w := w) hf2 hz (vs := args.map a.eval) (by simpa using opds_ok ht hl)
            exact ⟨ρ, w, .value q, Pl.le_refl _, by simpa [execOp, resolve, Act.eval, Deferred.ofValue, invoke] using hrun, R, hq⟩
          · simp at hc
      | true =>
        rw [hf] at hc
        simp only [cond_true] at hc
        split at hc
        · rename_i l hl
          simp only [Option.some.injEq] at hc; subst hc
          simp only [aop] at h
          obtain ⟨z, hz, rfl, rfl⟩ := vv_spec h
          simp only [aPf] at hz
          obtain ⟨q, hq, hrun⟩ := ibs_ok (P := P) (w := w) hf hz (vs := args.map a.eval) (by simpa using opds_ok ht hl)
          exact ⟨ρ, w, .value q, Pl.le_refl _, by simpa [execOp, resolve, Act.eval, Deferred.ofValue, invoke] using hrun, R, hq⟩
        · simp at hc
    · simp at hc
  · rename_i t g i
    split at hc
    · rename_i m e i' hu hi
      split at hc
      · rename_i gg k hk
        simp only [Option.some.injEq] at hc; subst hc
        simp only [aop] at h
        obtain ⟨z, hz, rfl⟩ := vh_spec h
        simp only [aHf, evs, aGIdx] at hz
        split at hz
        · rename_i p hp
          split at hz
          · rename_i v hv
            simp only [Option.some.injEq, Prod.mk.injEq] at hz
            obtain ⟨rfl, rfl⟩ := hz
            exact OpSim.val R (idxArr_ok (P := P) (w := w) hu (ty_of hk) (gPtr_rel R hp) (opd_ok ht hi) hv)
          · simp at hz
        · simp at hz
      · simp at hc
    · simp at hc
  · rename_i t g
    split at hc
    · rename_i gg k hk
      simp only [Option.some.injEq] at hc; subst hc
      simp only [aop] at h
      obtain ⟨z, hz, rfl⟩ := vh_spec h
      simp only [aHf, evs, aGLd] at hz
      split at hz
      · rename_i p hp
        split at hz
        · rename_i v hv
          simp only [Option.some.injEq, Prod.mk.injEq] at hz
          obtain ⟨rfl, rfl⟩ := hz
          exact OpSim.val R (load_ok (P := P) R (ty_of hk) (gPtr_rel R hp) hv)
        · simp at hz
      · simp at hz
    · simp at hc
  · rename_i s g i
    split at hc
    · rename_i fs hu
      split at hc
      · rename_i f hf
        split at hc
        · rename_i gg k hk
          cases hb : Nat.beq k 0 with
          | true => rw [hb] at hc; simp at hc
          | false =>
            rw [hb] at hc
            simp only [cond_false, Option.some.injEq] at hc; subst hc
            simp only [aop] at h
            obtain ⟨z, hz, rfl⟩ := vh_spec h
            simp only [aHf, evs, aGFld] at hz
            split at hz
            · rename_i p hp
              split at hz
              · rename_i v hv
                simp only [Option.some.injEq, Prod.mk.injEq] at hz
                obtain ⟨rfl, rfl⟩ := hz
                exact OpSim.val R (fieldA_ok (P := P) (w := w) hu hf (ty_of hk) (fun e => by rw [e] at hb; simp at hb) (gPtr_rel R hp) hv)
              · simp at hz
            · simp at hz
        · simp at hc
      · simp at hc
    · simp at hc
  · rename_i t x
    split at hc
    · rename_i n e y hu hx
      simp only [Option.some.injEq] at hc; subst hc
      simp only [aop] at h
      obtain ⟨z, hz, rfl, rfl⟩ := vv_spec h
      exact OpSim.val R (s2a_ok (P := P) (w := w) hu (opd_ok ht hx) hz)
    · simp at hc
  · rename_i t
    simp only [Option.some.injEq] at hc; subst hc
    simp only [aop] at h
    obtain ⟨z, hz, rfl⟩ := vh_spec h
    exact OpSim.good (mkMap_ok (P := P) R t hz)
  · rename_i t m k ok
    split at hc
    · rename_i kt el m' k' hu hm hk
      split at hc
      · rename_i kc z0 hkc hz0
        simp only [Option.some.injEq] at hc; subst hc
        simp only [aop] at h
        obtain ⟨z, hz, rfl⟩ := vh_spec h
        exact OpSim.good (mLook_ok (P := P) R hu hkc hz0 (opd_ok ht hm) (opd_ok ht hk) hz)
      · simp at hc
    · simp at hc
  · rename_i t m k
    split at hc
    · rename_i kt el m' k' hu hm hk
      split at hc
      · rename_i kc z0 hkc hz0
        simp only [Option.some.injEq] at hc; subst hc
        simp only [aop] at h
        obtain ⟨z, hz, rfl⟩ := vh_spec h
        exact OpSim.good (mEntry_ok (P := P) R hu hkc hz0 (opd_ok ht hm) (opd_ok ht hk) hz)
      · simp at hc
    · simp at hc
  · rename_i t m n x
    split at hc
    · rename_i m' n' x' hm hn hx
      simp only [Option.some.injEq] at hc; subst hc
      simp only [aop] at h
      obtain ⟨z, hz, rfl⟩ := vh_spec h
      obtain ⟨rfl, w', hr, hR⟩ := mStore_ok (P := P) R t (opd_ok ht hm) (opd_ok ht hn) (opd_ok ht hx) hz
      exact OpSim.skip hr hR
    · simp at hc
  · rename_i t m k x
    split at hc
    · rename_i kt el m' k' x' hu hm hk hx
      split at hc
      · rename_i kc hkc
        simp only [Option.some.injEq] at hc; subst hc
        simp only [aop] at h
        obtain ⟨z, hz, rfl⟩ := vh_spec h
        obtain ⟨rfl, w', hr, hR⟩ := mUpd_ok (P := P) R hu hkc (opd_ok ht hm) (opd_ok ht hk) (opd_ok ht hx) hz
        exact OpSim.skip hr hR
      · simp at hc
    · simp at hc
  · rename_i t m k x
    split at hc
    · rename_i kt el m' k' x' hu hm hk hx
      split at hc
      · rename_i kc hkc
        simp only [Option.some.injEq] at hc; subst hc
        simp only [aop] at h
        obtain ⟨z, hz, rfl⟩ := vh_spec h
        obtain ⟨rfl, w', hr, hR⟩ := mUpd_ok (P := P) R hu hkc (opd_ok ht hm) (opd_ok ht hk) (opd_ok ht hx) hz
        exact OpSim.skip hr hR
      · simp at hc
    · simp at hc
  · rename_i x xt t ok
    split at hc
    · simp at hc
    · rename_i d z y hni hu hz hy
      simp only [Option.some.injEq] at hc; subst hc
      simp only [aop] at h
      obtain ⟨r, hr, rfl, rfl⟩ := vv_spec h
      obtain ⟨zv, hz1, hz2⟩ := zeroA_ok hz
      have hx := opd_ok ht hy
      simp only [aPf, evs] at hr
      generalize ev T y = q at hr hx
      unfold aTAss at hr
      split at hr
      · rename_i heq
        simp only [List.cons.injEq, and_true] at heq
        subst heq
        cases ok with
        | false => simp at hr
        | true =>
          simp only [cond_true, Option.some.injEq] at hr
          subst hr
          simp only [VRel] at hx
          refine OpSim.val R ⟨.tuple #[zv, .bool false], ?_, ?_⟩
          · show (Instr.typeAssert (a.eval x) xt t true).run P w = _
            rw [hx]
            cases d <;> simp_all [Instr.typeAssert, run_underlying hu]
          · simp only [VRel, VRels]
            exact ⟨_, rfl, _, _, rfl, hz2 ρ, _, _, rfl, rfl, rfl⟩
      · rename_i u v heq
        simp only [List.cons.injEq, and_true] at heq
        subst heq
        simp only [VRel] at hx
        obtain ⟨yv, hx1, hx2⟩ := hx
        cases hb : Nat.beq u t with
        | true =>
          have := Nat.eq_of_beq_eq_true hb
          subst this
          rw [hb] at hr
          simp only [cond_true] at hr
          cases ok with
          | false =>
            simp only [cond_false, Option.some.injEq] at hr
            subst hr
            refine OpSim.val R ⟨yv, ?_, hx2⟩
            show (Instr.typeAssert (a.eval x) xt u false).run P w = _
            rw [hx1]
            cases d <;> simp_all [Instr.typeAssert, run_underlying hu]
          | true =>
            simp only [cond_true, Option.some.injEq] at hr
            subst hr
            refine OpSim.val R ⟨.tuple #[yv, .bool true], ?_, ?_⟩
            · show (Instr.typeAssert (a.eval x) xt u true).run P w = _
              rw [hx1]
              cases d <;> simp_all [Instr.typeAssert, run_underlying hu]
            · simp only [VRel, VRels]
              exact ⟨_, rfl, _, _, rfl, hx2, _, _, rfl, rfl, rfl⟩
        | false =>
          have hne : ¬ u = t := fun e => by rw [e, Nat.beq_refl] at hb; simp at hb
          rw [hb] at hr
          simp only [cond_false] at hr
          cases ok with
          | false => simp at hr
          | true =>
            simp only [cond_true, Option.some.injEq] at hr
            subst hr
            refine OpSim.val R ⟨.tuple #[zv, .bool false], ?_, ?_⟩
            · show (Instr.typeAssert (a.eval x) xt t true).run P w = _
              rw [hx1]
              cases d <;> simp_all [Instr.typeAssert, run_underlying hu]
            · simp only [VRel, VRels]
              exact ⟨_, rfl, _, _, rfl, hz2 ρ, _, _, rfl, rfl, rfl⟩
      · simp at hr
    · simp at hc
  · simp at hc
theorem op_sim {tb : FuncId → Bool} (htb : ∀ f, Nat.blt f BIG = true → tb f = true → hasBody P f = true) (R : Rel Prot w0 ρ H w) {n : Nat} {T : Tr AVal} {a : Act} (ht : TmpsRel ρ n T a.tmps) (o : Oper) {ao : AOp} (hc : cOp P o.op = some ao)
    {nx : Nx} (h : aop tb T H ao = some (nx, H')) : OpSim P Prot w0 ρ w (execOp a.eval o) nx H' := by
  unfold cOp at hc
  split at hc
  · rename_i x hx
    simp only [Option.some.injEq] at hc; subst hc
    exact op_simX R ht o hx h
  · split at hc
    · rename_i x hx
      simp only [Option.some.injEq] at hc; subst hc
      exact op_sim0 htb R ht o hx h
    · simp only [Option.some.injEq] at hc; subst hc
      simp [aop] at h
theorem alloc_claim (R : Rel Prot w0 ρ H w) {t : TypeId} {l : List AVal} (h : zeroOf P t = some l) {b : Nat} (hd : Prot.dead b) (hx : H.get b = some (.cells l 0 false)) :
    ∃ ρ' w' u, ρ.le ρ' ∧ (Instr.alloc t true (.tuple #[])).run P w = .ok u w' ∧ Rel ⟨Prot.prot, fun d => Prot.dead d ∧ d ≠ b⟩ w0 ρ' H w' ∧ VRel ρ' (.ptr (some ⟨b, l.length, 0⟩)) u := by
  obtain ⟨z, h1, h2⟩ := zero_of h
  have hnone := (R.dead b hd).2
  have hv := h2 ρ
  have hlen : l.length = z.cells.size := by have := VRels.len hv; simpa using this
  obtain ⟨q1, q2⟩ := R.claim' hd (w' := w.alloc (.cells z.cells t)) rfl rfl rfl (by simp) (fun i hi => RowKit.Below.heap_alloc _ _ _ hi) hx (o := .cells z.cells t) (lim := l.length) (n := z.cells.size) (cl := true) (by show (w.heap.push _)[w.heap.size]? = _; simp) (by
    simp only [ORel]
    refine ⟨z.cells, t, 0, 0, rfl, rfl, fun _ => ⟨fun i _ => by omega, Nat.le_refl _⟩, Nat.le_refl _, fun _ i i1 i2 => ?_⟩
    have hx : l[i]? = some l[i] := List.getElem?_eq_getElem i2
    obtain ⟨v, u1, u2⟩ := hv.nth _ _ hx
    refine ⟨_, v, hx, ?_, VRel.mono (upd_le fun L' h' => by rw [hnone] at h'; simp at h') _ _ u2⟩
    simpa using u1)
  refine ⟨_, _, .pointer (some ⟨w.heap.size, 0, none⟩), q1, ?_, q2, ?_⟩
  · simp only [Instr.alloc, Sem.run_bind, h1, Result.andThen_ok, newVar]; rfl
  · simp only [VRel]; exact ⟨_, upd_same _ _ _ _, Nat.zero_le _, rfl⟩
theorem row_claim (R : Rel Prot w0 ρ H w) {l : List AVal} {C : Array Value} (t : TypeId) (hv : VRels ρ l C.toList) {b : Nat} (hd : Prot.dead b) (hx : H.get b = some (.cells l 0 false)) :
    ∃ ρ', ρ.le ρ' ∧ Rel ⟨Prot.prot, fun d => Prot.dead d ∧ d ≠ b⟩ w0 ρ' H (w.alloc (.cells C t)) ∧ ρ' b l.length = some ⟨w.heap.size, 0, C.size, true⟩ := by
  have hnone := (R.dead b hd).2
  have hlen : l.length = C.size := by have := VRels.len hv; simpa using this
  obtain ⟨q1, q2⟩ := R.claim' hd (w' := w.alloc (.cells C t)) rfl rfl rfl (by simp) (fun i hi => RowKit.Below.heap_alloc _ _ _ hi) hx (o := .cells C t) (lim := l.length) (n := C.size) (cl := true) (by show (w.heap.push _)[w.heap.size]? = _; simp) (by
    simp only [ORel]
    refine ⟨C, t, 0, 0, rfl, rfl, fun _ => ⟨fun i _ => by omega, Nat.le_refl _⟩, Nat.le_refl _, fun _ i i1 i2 => ?_⟩
    have hx : l[i]? = some l[i] := List.getElem?_eq_getElem i2
    obtain ⟨v, u1, u2⟩ := hv.nth _ _ hx
    refine ⟨_, v, hx, ?_, VRel.mono (upd_le fun L' h' => by rw [hnone] at h'; simp at h') _ _ u2⟩
    simpa using u1)
  exact ⟨_, q1, q2, upd_same _ _ _ _⟩
theorem make_claim (R : Rel Prot w0 ρ H w) {sT elem : TypeId} {size bytes : Nat} {z : List AVal} (hu : P.underlying sT = some (.slice elem)) (E : Elem P elem size bytes) (hz : zeroOf P elem = some z)
    {l c : AVal} {lv cv : Value} (hl : VRel ρ l lv) (hc : VRel ρ c cv) {ln cn : Nat} (hln : natOf l = some ln) (hcn : natOf c = some cn) (hg : ln ≤ cn ∧ bytes * cn ≤ 281474976710656) {b : Nat} (hd : Prot.dead b) (hx : H.get b = some (.cells (rep z cn) 0 false)) :
    ∃ ρ' w' u, ρ.le ρ' ∧ (Instr.makeSlice sT lv cv).run P w = .ok u w' ∧ Rel ⟨Prot.prot, fun d => Prot.dead d ∧ d ≠ b⟩ w0 ρ' H w' ∧ VRel ρ' (.slice (some ⟨b, (rep z cn).length, 0⟩) ln (.known cn)) u := by
  obtain ⟨rfl, b1⟩ := natOf_ok hln
  obtain ⟨rfl, b2⟩ := natOf_ok hcn
  simp only [VRel] at hl hc
  subst hl hc
  obtain ⟨i, zv, hi, rfl, rfl, hzero, hzs⟩ := E.ex
  obtain ⟨zv', hzr, hzl⟩ := zero_of hz
  have hzv : zv' = zv := by
    have := hzr w
    simp [zeroValue, run_typeInfo w hi, hzero] at this
    exact this.symm
  subst hzv
  have hlen := VRels.len (hzl ρ)
  simp only [Array.length_toList, hzs] at hlen
  obtain ⟨ρ', q1, q3, q4⟩ := row_claim R elem (made_rel (hzl ρ) cn) hd hx
  have q2 : (newRow elem (madeOf zv'.cells (cn * z.length))).run P w = .ok ⟨w.heap.size, 0, none⟩ (w.alloc (.cells (madeOf zv'.cells (cn * z.length)) elem)) := rfl
  have hnb : ¬ ((281474976710656 : Int) < (i.bytes : Int) * (cn : Int)) := by
    have : (i.bytes * cn : Nat) ≤ 281474976710656 := hg.2
    rw [← Int.natCast_mul]; omega
  have hcells : madeOf zv'.cells (cn * i.size) = madeOf zv'.cells (cn * z.length) := by rw [hlen]
  refine ⟨ρ', _, .slice (some ⟨w.heap.size, 0, none⟩) ln cn, q1, ?_, q3, ?_⟩
  · have hsz : ∀ W, (sizeOf elem).run P W = .ok i.size W := fun W => by simp [sizeOf, run_typeInfo W hi]
    have e1 : ¬ ((cn : Int) < 0) := by omega
    have e2 : ¬ ((ln : Int) < 0) := by omega
    have e3 : ¬ ((cn : Int) < (ln : Int)) := by omega
    by_cases hn : cn * i.size = 0
    · have hm : madeOf zv'.cells (cn * z.length) = #[] := by rw [← hcells, hn]; simp [madeOf]
      rw [hm] at q2 ⊢
      simp only [Instr.makeSlice, Sem.run_bind, run_underlying hu, Result.andThen_ok, asInt, asIntOf, Sem.run_pure, run_typeInfo _ hi, wrap_nat b1, wrap_nat b2]
      simp [e1, e2, e3, hnb, hsz, hn, show Array.range 0 = #[] by simp, q2]
    · simp only [Instr.makeSlice, Sem.run_bind, run_underlying hu, Result.andThen_ok, asInt, asIntOf, Sem.run_pure, run_typeInfo _ hi, wrap_nat b1, wrap_nat b2]
      rw [← hcells] at q2 ⊢
      unfold madeOf at q2 ⊢
      simp [e1, e2, e3, hnb, hsz, hn, hzr, q2]
  · simp only [VRel]
    exact ⟨_, q4, Nat.zero_le _, hg.1, rfl⟩
end
end Go.Abs
