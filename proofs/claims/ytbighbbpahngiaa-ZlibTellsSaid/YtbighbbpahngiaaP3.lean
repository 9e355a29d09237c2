/- Part of a proof (A8f A8g A9); no condition. -/
import Derived.ChangeKeysEq
import Derived.Laws.Sem
import Derived.MapKept
import Derived.Carry
import Derived.Recover
import Derived.Test.YtbighbbpahngiaaP2
set_option linter.unusedSimpArgs false
set_option linter.unusedVariables false
set_option linter.unnecessarySimpa false
namespace Go.Abs
section
variable {P : Program} {Prot : Gh} {w0 : World} {ρ : Pl} {H H' : AHeap} {w : World}
def kcOf (P : Program) (t : TypeId) : Option KC := match P.underlying t with
  | some (.int _) => some .int
  | some .string => some .str
  | some (.array n e) => match P.underlying e, tyOf P e with
    | some (.int _), some (false, 1) => some (.arr n)
    | _, _ => none
  | _ => none
def zeroA (P : Program) (t : TypeId) : Option AVal := match P.info? t with
  | some i => match i.zero with
    | some z => absC z
    | none => none
  | none => none
theorem zeroA_ok {t : TypeId} {x : AVal} (h : zeroA P t = some x) : ∃ z, (∀ W, (zeroValue t).run P W = .ok z W) ∧ ∀ ρ, VRel ρ x z := by
  unfold zeroA at h
  split at h
  · rename_i i hi
    split at h
    · rename_i z hz
      exact ⟨z, fun W => by simp [zeroValue, run_typeInfo W hi, hz], fun ρ => absC_ok h⟩
    · simp at h
  · simp at h
theorem kEqs_ok : ∀ {l m : List AVal}, kEqs l m = some true → ∀ {vs us : List Value}, VRels ρ l vs → VRels ρ m us → vs = us
  | [], [], _, vs, us, hv, hu => by
    simp only [VRels] at hv hu
    subst hv hu; rfl
  | .int k a :: l, .int k' c :: m, h, vs, us, hv, hu => by
    simp only [VRels, VRel] at hv hu
    obtain ⟨v, r, rfl, rfl, hv⟩ := hv
    obtain ⟨u, s, rfl, rfl, hu⟩ := hu
    simp only [kEqs] at h
    split at h
    · rename_i hk
      subst hk
      rw [eqF_eq] at h
      by_cases e : a = c
      · subst e
        simp only [beq_self_eq_true, cond_true] at h
        rw [kEqs_ok h hv hu]
      · have : (a == c) = false := by simpa using e
        rw [this] at h
        simp at h
    · simp at h
theorem kEq_int {x y : AVal} {b : Bool} (h : kEq .int x y = some b) : ∃ k a c, x = .int k a ∧ y = .int k c ∧ b = (a == c) := by
  cases x <;> simp only [kEq, reduceCtorEq] at h
  rename_i k a
  cases y <;> simp only [kEq, reduceCtorEq] at h
  rename_i k' c
  split at h
  · rename_i hk
    subst hk
    simp only [Option.some.injEq] at h
    exact ⟨k, a, c, rfl, rfl, by rw [← h, eqF_eq]⟩
  · simp at h
theorem kEq_str {x y : AVal} {b : Bool} (h : kEq .str x y = some b) : ∃ a c, x = .str a ∧ y = .str c ∧ b = (a == c) := by
  cases x <;> simp only [kEq, reduceCtorEq] at h
  rename_i a
  cases y <;> simp only [kEq, reduceCtorEq] at h
  rename_i c
  simp only [Option.some.injEq] at h
  exact ⟨a, c, rfl, rfl, h.symm⟩
theorem kEq_arr {n : Nat} {x y : AVal} {b : Bool} (h : kEq (.arr n) x y = some b) : ∃ l m, x = .agg l ∧ y = .agg m ∧ l.length = n ∧ m.length = n ∧ kEqs l m = some b := by
  cases x <;> simp only [kEq, reduceCtorEq] at h
  rename_i l
  cases y <;> simp only [kEq, reduceCtorEq] at h
  rename_i m
  cases hg : (Nat.beq l.length n && Nat.beq m.length n) with
  | false => rw [hg] at h; simp at h
  | true =>
    rw [hg] at h
    simp only [cond_true] at h
    simp only [Bool.and_eq_true] at hg
    exact ⟨l, m, rfl, rfl, Nat.eq_of_beq_eq_true hg.1, Nat.eq_of_beq_eq_true hg.2, h⟩
theorem cells_of {t : TypeId} {a : Bool} {n : Nat} (h : tyOf P t = some (a, n)) : P.cellsOf t = n ∧ ∃ i, P.info? t = some i := by
  unfold tyOf at h
  split at h <;> simp only [Option.some.injEq, Prod.mk.injEq, reduceCtorEq] at h
  all_goals
    rename_i hi
    exact ⟨by simp [Program.cellsOf, hi, h.2], _, hi⟩
theorem eqItems_ok {e : TypeId} {kk : IntKind} (he : P.underlying e = some (.int kk)) (T : Ty P e false 1) {L M : List AVal} {xs ys : Array Value} (hL : VRels ρ L xs.toList) (hM : VRels ρ M ys.toList) (d : Nat) :
    ∀ (k o : Nat) (b : Bool), L.length = o + k → M.length = o + k → kEqs (L.drop o) (M.drop o) = some b → (Op.eqItems (d + 1) e 1 xs ys (List.range' o k)).run P w = .ok b w := by
  intro k
  induction k with
  | zero =>
    intro o b h1 h2 h
    rw [List.drop_eq_nil_of_le (by omega), List.drop_eq_nil_of_le (by omega)] at h
    simp only [kEqs, Option.some.injEq] at h
    subst h
    simp [Op.eqItems]
  | succ k ih =>
    intro o b h1 h2 h
    have hl : o < L.length := by omega
    have hm : o < M.length := by omega
    rw [List.drop_eq_getElem_cons hl, List.drop_eq_getElem_cons hm] at h
    have gl : L[o]? = some L[o] := List.getElem?_eq_getElem hl
    have gm : M[o]? = some M[o] := List.getElem?_eq_getElem hm
    generalize L[o] = x at *
    generalize M[o] = y at *
    obtain ⟨u, u1, u2⟩ := part_ok (P := P) (w := w) T hL (off := o) (y := x) (by simpa [aPart] using gl)
    obtain ⟨v, v1, v2⟩ := part_ok (P := P) (w := w) T hM (off := o) (y := y) (by simpa [aPart] using gm)
    unfold kEqs at h
    split at h
    · rename_i heq _; simp at heq
    · rename_i k1 a l k2 c m e1 e2
      simp only [List.cons.injEq] at e1 e2
      obtain ⟨rfl, rfl⟩ := e1
      obtain ⟨rfl, rfl⟩ := e2
      simp only [VRel] at u2 v2
      subst u2 v2
      split at h
      · rename_i hk
        subst hk
        rw [eqF_eq] at h
        rw [List.range'_succ]
        simp only [Op.eqItems, Nat.mul_one, Sem.run_bind, u1, v1, Result.andThen_ok]
        have hq : (Op.equalIn (d + 1) e (.int k1 a) (.int k1 c)).run P w = .ok (a == c) w := by
          simp [Op.equalIn, run_underlying he]
        rw [hq]
        cases hac : (a == c) with
        | true =>
          rw [hac] at h
          simp only [Result.andThen_ok, Bool.not_true, Bool.false_eq_true, if_false]
          exact ih (o + 1) b (by omega) (by omega) h
        | false =>
          rw [hac] at h
          simp only [cond_false, Option.some.injEq] at h
          subst h
          simp
      · simp at h
    · simp at h
def Found (ρ : Pl) (v : Value) (es : List Ent) (ES : List MapEntry) (i : Nat) : Option (Nat × Ent) → Option (Nat × Value) → Prop
  | none, r => r = none
  | some (j, e), r => i ≤ j ∧ ∃ E, r = some (j, E.val) ∧ es[j - i]? = some e ∧ ES[j - i]? = some E ∧ EntryRel ρ e E ∧ E.key = v
theorem Found.step {v : Value} {e : Ent} {es : List Ent} {E : MapEntry} {ES : List MapEntry} {i : Nat} {r : Option (Nat × Ent)} {r' : Option (Nat × Value)} (h : Found ρ v es ES (i + 1) r r') : Found ρ v (e :: es) (E :: ES) i r r' := by
  cases r with
  | none => exact h
  | some p =>
    obtain ⟨j, x⟩ := p
    obtain ⟨h1, E', h2, h3, h4, h5⟩ := h
    refine ⟨by omega, E', h2, ?_, ?_, h5⟩
    · rw [show j - i = (j - (i + 1)) + 1 by omega]; simpa using h3
    · rw [show j - i = (j - (i + 1)) + 1 by omega]; simpa using h4
theorem now_ok {kc : KC} {d : TypeDesc} (hd : (kc = .int ∧ ∃ k, d = .int k) ∨ (kc = .str ∧ d = .string)) {x : AVal} {v : Value} (hx : VRel ρ x v) : ∀ (es : List Ent) (ES : List MapEntry) (i : Nat) (r : Option (Nat × Ent)), EntriesRel ρ es ES → mFind kc x es i = some r →
    ∃ r', Instr.findNow d v ES i = some r' ∧ Found ρ v es ES i r r' := by
  intro es
  induction es with
  | nil =>
    intro ES i r hE h
    simp only [mFind, Option.some.injEq] at h
    simp only [EntriesRel] at hE
    subst h hE
    exact ⟨none, rfl, rfl⟩
  | cons e es ih =>
    intro ES i r hE h
    simp only [EntriesRel] at hE
    obtain ⟨E, ES', rfl, hEE, hE⟩ := hE
    obtain ⟨he1, he2, he3⟩ := hEE
    have key : ∀ b, kEq kc x e.1 = some b → Instr.sameNow d v E.key = some b ∧ (b = true → E.key = v) := by
      intro b hb
      rcases hd with ⟨rfl, k, rfl⟩ | ⟨rfl, rfl⟩
      · obtain ⟨k1, a, c, hx1, hx2, rfl⟩ := kEq_int hb
        rw [hx1] at hx
        rw [hx2] at he1
        simp only [VRel] at hx he1
        rw [hx, he1]
        refine ⟨by simp [Instr.sameNow], fun ht => ?_⟩
        have : a = c := by simpa using ht
        rw [this]
      · obtain ⟨a, c, hx1, hx2, rfl⟩ := kEq_str hb
        rw [hx1] at hx
        rw [hx2] at he1
        simp only [VRel] at hx he1
        rw [hx, he1]
        have hs : (strOf a == strOf c) = (a == c) := by
          rw [Bool.eq_iff_iff, MapKept.bytes_beq]
          simp only [beq_iff_eq]
          exact ⟨fun q => by simpa [strOf] using congrArg (fun s : ByteArray => s.data.toList) q, fun q => by rw [q]⟩
        refine ⟨by simp only [Instr.sameNow, hs], fun ht => ?_⟩
        have : a = c := by simpa using ht
        rw [this]
    simp only [mFind] at h
    split at h
    · rename_i hb
      simp only [Option.some.injEq] at h
      subst h
      obtain ⟨k1, k2⟩ := key _ hb
      exact ⟨some (i, E.val), by simp [Instr.findNow, k1], Nat.le_refl _, E, rfl, by simp, by simp, ⟨he1, he2, he3⟩, k2 rfl⟩
    · rename_i hb
      obtain ⟨k1, k2⟩ := key _ hb
      obtain ⟨r', q1, q2⟩ := ih ES' (i + 1) r hE h
      exact ⟨r', by simp [Instr.findNow, k1, q1], q2.step⟩
    · simp at h
theorem asking_ok {kt e : TypeId} {n : Nat} {kk : IntKind} (hu : P.underlying kt = some (.array n e)) (he : P.underlying e = some (.int kk)) (hT : tyOf P e = some (false, 1)) {x : AVal} {v : Value} (hx : VRel ρ x v) : ∀ (es : List Ent) (ES : List MapEntry) (i : Nat) (r : Option (Nat × Ent)), EntriesRel ρ es ES → mFind (.arr n) x es i = some r →
    ∃ r', (Instr.findAsking kt v ES i).run P w = .ok r' w ∧ Found ρ v es ES i r r' := by
  intro es
  induction es with
  | nil =>
    intro ES i r hE h
    simp only [mFind, Option.some.injEq] at h
    simp only [EntriesRel] at hE
    subst h hE
    exact ⟨none, rfl, rfl⟩
  | cons e0 es ih =>
    intro ES i r hE h
    simp only [EntriesRel] at hE
    obtain ⟨E, ES', rfl, hEE, hE⟩ := hE
    obtain ⟨he1, he2, he3⟩ := hEE
    have key : ∀ b, kEq (.arr n) x e0.1 = some b → (Op.equal kt v E.key).run P w = .ok b w ∧ (b = true → E.key = v) := by
      intro b hb
      obtain ⟨l, m, hx1, hx2, h1, h2, hb⟩ := kEq_arr hb
      rw [hx1] at hx
      rw [hx2] at he1
      simp only [VRel] at hx he1
      obtain ⟨xs, rfl, hxs⟩ := hx
      obtain ⟨ys, hy, hys⟩ := he1
      obtain ⟨hc1, i0, hi0⟩ := cells_of hT
      rw [hy]
      constructor
      · show (Op.equalIn (9998 + 1 + 1) kt (.agg xs) (.agg ys)).run P w = _
        rw [run_equalIn_array w (9998 + 1) xs ys hu hi0, hc1, List.range_eq_range']
        exact eqItems_ok he (ty_of hT) hxs hys 9998 n 0 b (by omega) (by omega) (by simpa using hb)
      · intro ht
        subst ht
        rw [Array.toList_inj.1 (kEqs_ok hb hxs hys)]
    simp only [mFind] at h
    split at h
    · rename_i hb
      simp only [Option.some.injEq] at h
      subst h
      obtain ⟨k1, k2⟩ := key _ hb
      exact ⟨some (i, E.val), by simp [Instr.findAsking, k1], Nat.le_refl _, E, rfl, by simp, by simp, ⟨he1, he2, he3⟩, k2 rfl⟩
    · rename_i hb
      obtain ⟨k1, k2⟩ := key _ hb
      obtain ⟨r', q1, q2⟩ := ih ES' (i + 1) r hE h
      exact ⟨r', by simp [Instr.findAsking, k1, q1], q2.step⟩
    · simp at h
theorem kcOf_cases {kt : TypeId} {kc : KC} (h : kcOf P kt = some kc) : (∃ k, kc = .int ∧ P.underlying kt = some (.int k)) ∨ (kc = .str ∧ P.underlying kt = some .string) ∨ ∃ n e kk, kc = .arr n ∧ P.underlying kt = some (.array n e) ∧ P.underlying e = some (.int kk) ∧ tyOf P e = some (false, 1) := by
  unfold kcOf at h
  split at h
  · rename_i k hu
    simp only [Option.some.injEq] at h
    exact .inl ⟨k, h.symm, hu⟩
  · rename_i hu
    simp only [Option.some.injEq] at h
    exact .inr (.inl ⟨h.symm, hu⟩)
  · rename_i n e hu
    split at h
    · rename_i kk he hT
      simp only [Option.some.injEq] at h
      exact .inr (.inr ⟨n, e, kk, h.symm, hu, he, hT⟩)
    · simp at h
  · simp at h
theorem findKey_ok {kt : TypeId} {kc : KC} (hk : kcOf P kt = some kc) {x : AVal} {v : Value} (hx : VRel ρ x v) {es : List Ent} {ES : List MapEntry} {r : Option (Nat × Ent)} (hE : EntriesRel ρ es ES) (h : mFind kc x es 0 = some r) :
    ∃ r', (Instr.findKey kt v ES).run P w = .ok r' w ∧ Found ρ v es ES 0 r r' := by
  rcases kcOf_cases hk with ⟨k, rfl, hu⟩ | ⟨rfl, hu⟩ | ⟨n, e, kk, rfl, hu, he, hT⟩
  · obtain ⟨r', q1, q2⟩ := now_ok (d := .int k) (.inl ⟨rfl, k, rfl⟩) hx es ES 0 r hE h
    exact ⟨r', by simp [Instr.findKey, run_underlying hu, q1], q2⟩
  · obtain ⟨r', q1, q2⟩ := now_ok (d := .string) (.inr ⟨rfl, rfl⟩) hx es ES 0 r hE h
    exact ⟨r', by simp [Instr.findKey, run_underlying hu, q1], q2⟩
  · cases es with
    | nil =>
      simp only [mFind, Option.some.injEq] at h
      simp only [EntriesRel] at hE
      subst h hE
      exact ⟨none, by simp [Instr.findKey, run_underlying hu, Instr.findNow], rfl⟩
    | cons e0 es =>
      obtain ⟨r', q1, q2⟩ := asking_ok (w := w) hu he hT hx (e0 :: es) ES 0 r hE h
      refine ⟨r', ?_, q2⟩
      simp only [EntriesRel] at hE
      obtain ⟨E, ES', rfl, _, _⟩ := hE
      have hn : Instr.findNow (.array n e) v (E :: ES') 0 = none := by
        unfold Instr.findNow
        have : Instr.sameNow (.array n e) v E.key = none := by
          cases v <;> cases E.key <;> rfl
        rw [this]
      simp [Instr.findKey, run_underlying hu, hn, q1]
theorem isKs_int : ∀ {l : List AVal}, isKs l = true → ∀ x ∈ l, ∃ k n, x = .int k n
  | [], _, x, hx => by simp at hx
  | .int k n :: l, h, x, hx => by
    rcases List.mem_cons.1 hx with rfl | hx
    · exact ⟨_, _, rfl⟩
    · exact isKs_int (l := l) h x hx
theorem check1 {t : TypeId} {k : IntKind} (hu : P.underlying t = some (.int k)) (em : Bool) (d : Nat) (x : Value) : (Instr.checkKey em (d + 1) t x).run P w = .ok () w := by
  simp [Instr.checkKey, run_underlying hu]
theorem check2 {t : TypeId} (hu : P.underlying t = some .string) (em : Bool) (d : Nat) (x : Value) : (Instr.checkKey em (d + 1) t x).run P w = .ok () w := by
  simp [Instr.checkKey, run_underlying hu]
theorem checkKey_ok {kt : TypeId} {kc : KC} (hk : kcOf P kt = some kc) {x : AVal} {v : Value} (hx : VRel ρ x v) (hi : isK kc x = true) (em : Bool) : (Instr.checkKey em 10000 kt v).run P w = .ok () w := by
  rcases kcOf_cases hk with ⟨k, rfl, hu⟩ | ⟨rfl, hu⟩ | ⟨n, e, kk, rfl, hu, he, hT⟩
  · cases x <;> simp only [isK, Bool.false_eq_true] at hi
    simp only [VRel] at hx; subst hx
    exact check1 hu em 9999 _
  · cases x <;> simp only [isK, Bool.false_eq_true] at hi
    simp only [VRel] at hx; subst hx
    exact check2 hu em 9999 _
  · cases x <;> simp only [isK, Bool.false_eq_true] at hi
    rename_i l
    simp only [Bool.and_eq_true] at hi
    have hl := Nat.eq_of_beq_eq_true hi.1
    have hint := isKs_int hi.2
    simp only [VRel] at hx
    obtain ⟨xs, rfl, hxs⟩ := hx
    show (Instr.checkKey em (9998 + 1 + 1) kt _).run P w = _
    rw [Instr.checkKey]
    simp only [Sem.run_bind, run_underlying hu, Result.andThen_ok]
    simp only [Std.Legacy.Range.forIn_eq_forIn_range', Std.Legacy.Range.size, Nat.sub_zero, Nat.add_one_sub_one, Nat.div_one]
    have hT' := ty_of hT
    have key : ∀ (k o : Nat), o + k = n → ((forIn (List.range' o k) PUnit.unit fun i _ => do
        let a ← sizeOf e
        let b ← part e xs (i * a)
        Instr.checkKey em (9998 + 1) e b
        pure (ForInStep.yield PUnit.unit)) : Sem PUnit).run P w = .ok PUnit.unit w := by
      intro k
      induction k with
      | zero => intro o _; simp
      | succ k ih =>
        intro o ho
        have hlt : o < l.length := by omega
        have gl : l[o]? = some l[o] := List.getElem?_eq_getElem hlt
        obtain ⟨k1, a, hxa⟩ := hint l[o] (List.getElem_mem hlt)
        obtain ⟨u, u1, u2⟩ := part_ok (P := P) (w := w) hT' hxs (off := o) (y := l[o]) (by simpa [aPart] using gl)
        rw [hxa] at u2
        simp only [VRel] at u2
        subst u2
        have hc : (Instr.checkKey em (9998 + 1) e (.int k1 a)).run P w = .ok () w := check1 he em 9998 _
        rw [List.range'_succ]
        simp only [List.forIn_cons, Sem.run_bind, hT'.size, Nat.mul_one, Result.andThen_ok, u1, hc, Sem.run_pure]
        exact ih (o + 1) (by omega)
    rw [key n 0 (by omega)]
    rfl
theorem EntriesRel.append : ∀ {es fs : List Ent} {ES FS : List MapEntry}, EntriesRel ρ es ES → EntriesRel ρ fs FS → EntriesRel ρ (es ++ fs) (ES ++ FS)
  | [], _, _, _, h, h' => by simp only [EntriesRel] at h; subst h; simpa using h'
  | x :: l, fs, ES, FS, h, h' => by
    simp only [EntriesRel] at h
    obtain ⟨e, r, rfl, h1, h2⟩ := h
    simp only [List.cons_append, EntriesRel]
    exact ⟨e, r ++ FS, rfl, h1, EntriesRel.append h2 h'⟩
theorem EntriesRel.set : ∀ {es : List Ent} {ES : List MapEntry} (i : Nat) {e' : Ent} {E' : MapEntry}, EntriesRel ρ es ES → EntryRel ρ e' E' → EntriesRel ρ (mSet es i e') (ES.set i E')
  | [], _, _, _, _, h, _ => by simp only [EntriesRel] at h; subst h; simp [mSet, EntriesRel]
  | x :: l, ES, i, e', E', h, h' => by
    simp only [EntriesRel] at h
    obtain ⟨e, r, rfl, h1, h2⟩ := h
    cases i with
    | zero => simp only [mSet, List.set_cons_zero, EntriesRel]; exact ⟨E', r, rfl, h', h2⟩
    | succ i => simp only [mSet, List.set_cons_succ, EntriesRel]; exact ⟨e, _, rfl, h1, EntriesRel.set i h2 h'⟩
theorem modify_set {ES : Array MapEntry} {i : Nat} {E : MapEntry} (h : ES[i]? = some E) (f : MapEntry → MapEntry) : (ES.modify i f).toList = ES.toList.set i (f E) := by
  apply List.ext_getElem?
  intro j
  rw [Array.getElem?_toList, Array.getElem?_modify, List.getElem?_set]
  by_cases e : i = j
  · subst e
    obtain ⟨hlt, hE⟩ := Array.getElem?_eq_some_iff.1 h
    simp [h, hlt, hE]
  · simp [e]
theorem map_at (R : Rel Prot w0 ρ H w) {r : Nat} {mv : Value} (hx : VRel ρ (.map (some r)) mv) {es : List Ent} {c : Nat} (hH : H.get r = some (.map es c)) : ∃ L ES, ρ r 0 = some L ∧ mv = .map (some L.c) ∧ w.heap[L.c]? = some (.map ES c) ∧ EntriesRel ρ es ES.toList := by
  simp only [VRel] at hx
  obtain ⟨L, hL, rfl⟩ := hx
  obtain ⟨x, o, g1, g2, g3⟩ := R.obj _ _ _ hL
  rw [hH] at g1
  simp only [Option.some.injEq] at g1
  subst g1
  simp only [ORel] at g3
  obtain ⟨_, ES, rfl, hE⟩ := g3
  exact ⟨L, ES, hL, rfl, g2, hE⟩
theorem map_turn (R : Rel Prot w0 ρ H w) {r : Nat} {L : Loc} (hL : ρ r 0 = some L) {es : List Ent} {c : Nat} (hH : H.get r = some (.map es c)) {es' : List Ent} {c' : Nat} {ES' : Array MapEntry} (hE : EntriesRel ρ es' ES'.toList) :
    Rel Prot w0 ρ (H.set r (.map es' c')) { w with heap := w.heap.setIfInBounds L.c (.map ES' c') } := by
  have hlt : L.c < w.heap.size := (R.dom _ _ _ hL).2
  refine R.turn (w' := { w with heap := w.heap.setIfInBounds L.c (.map ES' c') }) (y := .map es' c') hL hH rfl ⟨rfl, rfl, rfl, by simp, fun i hi => by simp [Array.getElem?_setIfInBounds, Ne.symm hi]⟩ rfl fun l' L' h' => ?_
  obtain ⟨x, o, k1, k2, k3⟩ := R.obj _ _ _ h'
  rw [hH] at k1
  simp only [Option.some.injEq] at k1
  subst k1
  simp only [ORel] at k3
  obtain ⟨rfl, _⟩ := k3
  rw [hL] at h'
  simp only [Option.some.injEq] at h'
  subst h'
  exact ⟨.map ES' c', by simp [hlt], by simp only [ORel]; exact ⟨trivial, ES', rfl, hE⟩⟩
theorem mkMap_ok (R : Rel Prot w0 ρ H w) (t : TypeId) {y : AVal} (h : aMkMap H [] = some (y, H')) : GoodV P Prot w0 ρ w (Instr.makeMap t none) y H' := by
  simp only [aMkMap, Option.some.injEq, Prod.mk.injEq] at h
  obtain ⟨rfl, rfl⟩ := h
  obtain ⟨h1, h2⟩ := R.push' (w' := w.alloc (.map #[] 0)) rfl rfl rfl (Array.size_push _) (fun i hi => by rw [World.alloc, Array.getElem?_push, if_neg (Nat.ne_of_lt hi)])
    (x := .map [] 0) (o := .map #[] 0) (lim := 0) (n := 0) (cl := false) (by rw [World.alloc, Array.getElem?_push, if_pos rfl]) (by simp only [ORel]; exact ⟨trivial, #[], rfl, by simp [EntriesRel]⟩) rfl
  refine ⟨_, _, _, h1, RowKit.run_makeMap t w, h2, ?_⟩
  simp only [VRel]
  exact ⟨_, upd_same _ _ _ _, rfl⟩
theorem ret_ok (ok : Bool) {x : AVal} {v : Value} (h : VRel ρ x v) (b : Bool) : VRel ρ (mRet ok x b) (if ok = true then .tuple #[v, .bool b] else v) := by
  cases ok with
  | false => simpa [mRet] using h
  | true => simp [mRet, VRel, VRels, h]
theorem mLook_ok (R : Rel Prot w0 ρ H w) {t kt el : TypeId} {kc : KC} (hm : P.underlying t = some (.map kt el)) (hk : kcOf P kt = some kc) {z : AVal} (hz : zeroA P el = some z) {ok : Bool} {m k y : AVal} {mv kv : Value} (hx : VRel ρ m mv) (hy : VRel ρ k kv)
    (h : aMLook kc ok z H [m, k] = some (y, H')) : GoodV P Prot w0 ρ w (Instr.lookup t mv kv ok) y H' := by
  obtain ⟨zv, hz1, hz2⟩ := zeroA_ok hz
  unfold aMLook at h
  split at h <;> first | (simp at h; done) | skip
  · rename_i k' heq
    simp only [List.cons.injEq, and_true] at heq
    obtain ⟨rfl, rfl⟩ := heq
    cases hi : isK kc k with
    | false => rw [hi] at h; simp at h
    | true =>
      rw [hi] at h
      simp only [cond_true, Option.some.injEq, Prod.mk.injEq] at h
      obtain ⟨rfl, rfl⟩ := h
      simp only [VRel] at hx
      subst hx
      obtain ⟨r', q1, q2⟩ := findKey_ok (w := w) hk hy (es := []) (ES := []) (r := none) (by simp [EntriesRel]) rfl
      simp only [Found] at q2
      subst q2
      refine GoodV.pure R (v := if ok = true then .tuple #[zv, .bool false] else zv) ?_ (ret_ok ok (hz2 ρ) false)
      simp [Instr.lookup, run_underlying hm, checkKey_ok (w := w) hk hy hi, q1, hz1, Result.andThen]
  · rename_i r k' heq
    simp only [List.cons.injEq, and_true] at heq
    obtain ⟨rfl, rfl⟩ := heq
    split at h <;> first | (simp at h; done) | skip
    rename_i es c hH
    obtain ⟨L, ES, hL, rfl, hb, hE⟩ := map_at R hx hH
    split at h <;> first | (simp at h; done) | skip
    rename_i v hv
    simp only [Option.some.injEq, Prod.mk.injEq] at h
    obtain ⟨rfl, rfl⟩ := h
    unfold aLookE at hv
    cases hi : isK kc k with
    | false => rw [hi] at hv; simp at hv
    | true =>
      rw [hi] at hv
      simp only [cond_true] at hv
      split at hv <;> first | (simp at hv; done) | skip
      · rename_i j e hf
        simp only [Option.some.injEq] at hv
        subst hv
        obtain ⟨r', q1, q2⟩ := findKey_ok (w := w) hk hy hE hf
        obtain ⟨_, E, rfl, _, _, ⟨_, he2, _⟩, _⟩ := q2
        refine GoodV.pure R (v := if ok = true then .tuple #[E.val, .bool true] else E.val) ?_ (ret_ok ok he2 true)
        simp [Instr.lookup, run_underlying hm, MapKept.run_getObj_map hb, checkKey_ok (w := w) hk hy hi, q1, Result.andThen]
      · rename_i hf
        simp only [Option.some.injEq] at hv
        subst hv
        obtain ⟨r', q1, q2⟩ := findKey_ok (w := w) hk hy hE hf
        simp only [Found] at q2
        subst q2
        refine GoodV.pure R (v := if ok = true then .tuple #[zv, .bool false] else zv) ?_ (ret_ok ok (hz2 ρ) false)
        simp [Instr.lookup, run_underlying hm, MapKept.run_getObj_map hb, checkKey_ok (w := w) hk hy hi, q1, hz1, Result.andThen]
theorem bits_list : ∀ {l : List AVal}, isKs l = true → ∀ {vs : List Value}, VRels ρ l vs → ∀ n, ((vs.zip vs).all fun (x, y) => Instr.sameBits n x y) = true
  | [], _, vs, h, n => by simp only [VRels] at h; subst h; rfl
  | .int k a :: l, hi, vs, h, n => by
    simp only [VRels, VRel] at h
    obtain ⟨v, r, rfl, rfl, h⟩ := h
    have := bits_list (l := l) hi h n
    simp only [List.zip_cons_cons, List.all_cons, this, Bool.and_true]
    cases n <;> simp [Instr.sameBits]
theorem stays_ok {kc : KC} {x : AVal} {v : Value} (hx : VRel ρ x v) (hi : isK kc x = true) : (Instr.keyThatStays v v).run P w = .ok v w := by
  have : Instr.sameBits 10000 v v = true := by
    cases kc with
    | int => cases x <;> simp only [isK, Bool.false_eq_true] at hi; simp only [VRel] at hx; subst hx; show Instr.sameBits (9999 + 1) _ _ = true; simp [Instr.sameBits]
    | str => cases x <;> simp only [isK, Bool.false_eq_true] at hi; simp only [VRel] at hx; subst hx; show Instr.sameBits (9999 + 1) _ _ = true; rw [Instr.sameBits]; exact (MapKept.bytes_beq _ _).2 rfl
    | arr n =>
      cases x <;> simp only [isK, Bool.false_eq_true] at hi
      simp only [Bool.and_eq_true] at hi
      simp only [VRel] at hx
      obtain ⟨xs, rfl, hxs⟩ := hx
      show Instr.sameBits (9999 + 1) _ _ = true
      have := bits_list hi.2 hxs 9999
      simp only [Instr.sameBits, beq_self_eq_true, Bool.true_and]
      exact this
  simp [Instr.keyThatStays, this]
theorem born_ok (n : Nat) : ∀ (es : List Ent) (ES : List MapEntry) (i j : Nat) (e : Ent), EntriesRel ρ es ES → mBorn n es i = some (j, e) → i ≤ j ∧ es[j - i]? = some e ∧ ∃ E, ES[j - i]? = some E ∧ EntryRel ρ e E ∧ ES.findIdx? (fun e => (e.born : Int) == (n : Int)) = some (j - i)
  | [], ES, i, j, e, _, h => by simp [mBorn] at h
  | x :: es, ES, i, j, e, hE, h => by
    simp only [EntriesRel] at hE
    obtain ⟨E, ES', rfl, hEE, hE⟩ := hE
    simp only [mBorn] at h
    have hb : ((E.born : Int) == (n : Int)) = Nat.beq x.2.2 n := by
      rw [hEE.2.2, beq_dec]
      by_cases e : x.2.2 = n
      · simp [e]
      · have : ¬ ((x.2.2 : Int) = (n : Int)) := by omega
        simp [e, this]
    cases hc : Nat.beq x.2.2 n with
    | true =>
      rw [hc] at h hb
      simp only [cond_true, Option.some.injEq, Prod.mk.injEq] at h
      obtain ⟨rfl, rfl⟩ := h
      refine ⟨Nat.le_refl _, by simp, E, by simp, hEE, ?_⟩
      simp [List.findIdx?_cons, hb]
    | false =>
      rw [hc] at h hb
      simp only [cond_false] at h
      obtain ⟨h1, h2, E', h3, h4, h5⟩ := born_ok n es ES' (i + 1) j e hE h
      have e1 : j - i = (j - (i + 1)) + 1 := by omega
      refine ⟨by omega, by rw [e1]; simpa using h2, E', by rw [e1]; simpa using h3, h4, ?_⟩
      rw [List.findIdx?_cons, hb]
      simp only [Bool.false_eq_true, if_false, h5, Option.map_some]
      congr 1; omega
theorem mEntry_ok (R : Rel Prot w0 ρ H w) {t kt el : TypeId} {kc : KC} (hm : P.underlying t = some (.map kt el)) (hk : kcOf P kt = some kc) {z : AVal} (hz : zeroA P el = some z) {m k y : AVal} {mv kv : Value} (hx : VRel ρ m mv) (hy : VRel ρ k kv)
    (h : aMF (.entry kc z) H [m, k] = some (y, H')) : GoodV P Prot w0 ρ w (Instr.mapEntry t mv kv) y H' := by
  obtain ⟨zv, hz1, hz2⟩ := zeroA_ok hz
  unfold aMF at h
  split at h <;> first | (simp at h; done) | skip
  rename_i r l heq
  simp only [List.cons.injEq] at heq
  obtain ⟨rfl, rfl⟩ := heq
  split at h <;> first | (simp at h; done) | skip
  rename_i es c hH
  obtain ⟨L, ES, hL, rfl, hb, hE⟩ := map_at R hx hH
  split at h <;> first | (simp at h; done) | skip
  rename_i v es' c' hv
  simp only [Option.some.injEq, Prod.mk.injEq] at h
  obtain ⟨rfl, rfl⟩ := h
  simp only [aMf] at hv
  cases hi : isK kc k with
  | false => rw [hi] at hv; simp at hv
  | true =>
    rw [hi] at hv
    simp only [cond_true] at hv
    split at hv <;> first | (simp at hv; done) | skip
    · rename_i j e hf
      simp only [Option.some.injEq, Prod.mk.injEq] at hv
      obtain ⟨rfl, rfl, rfl⟩ := hv
      obtain ⟨r', q1, q2⟩ := findKey_ok (w := w) hk hy hE hf
      obtain ⟨_, E, rfl, q3, q4, ⟨he1, he2, he3⟩, q5⟩ := q2
      rw [Nat.sub_zero, Array.getElem?_toList] at q4
      refine ⟨ρ, _, .tuple #[E.val, .int .i64 E.born], Pl.le_refl _, ?_, map_turn R hL hH (ES' := ES.modify j fun e => { e with key := kv }) (by
        rw [modify_set q4]
        exact hE.set j ⟨hy, he2, he3⟩), by simp [VRel, VRels, he2, he3]⟩
      simp [Instr.mapEntry, run_underlying hm, MapKept.run_getObj_map hb, checkKey_ok (w := w) hk hy hi, q1, q4, q5, stays_ok (w := w) hy hi, MapKept.run_setObj_map _ hb, Result.andThen, goInt]
    · rename_i hf
      simp only [Option.some.injEq, Prod.mk.injEq] at hv
      obtain ⟨rfl, rfl, rfl⟩ := hv
      obtain ⟨r', q1, q2⟩ := findKey_ok (w := w) hk hy hE hf
      simp only [Found] at q2
      subst q2
      refine ⟨ρ, _, .tuple #[zv, .int .i64 c], Pl.le_refl _, ?_, map_turn R hL hH (ES' := ES.push { key := kv, val := zv, born := c }) (by
        rw [Array.toList_push]
        refine hE.append ?_
        simp only [EntriesRel]
        exact ⟨_, _, rfl, ⟨hy, hz2 ρ, rfl⟩, rfl⟩), by simp [VRel, VRels, hz2 ρ]⟩
      simp [Instr.mapEntry, run_underlying hm, MapKept.run_getObj_map hb, checkKey_ok (w := w) hk hy hi, q1, hz1, MapKept.run_setObj_map _ hb, Result.andThen, goInt]
theorem aMf_store (es : List Ent) (c : Nat) (n x : AVal) : aMf .store es c [n, x] = match n with
    | .int .i64 (.ofNat b) => match mBorn b es 0 with
      | some (i, e) => some (.tuple [], mSet es i (e.1, x, e.2.2), c)
      | none => none
    | _ => none := by
  cases n with
  | int k z => cases k <;> cases z <;> rfl
  | _ => rfl
theorem mStore_ok (R : Rel Prot w0 ρ H w) (t : TypeId) {m n x y : AVal} {mv nv xv : Value} (hx : VRel ρ m mv) (hn : VRel ρ n nv) (hy : VRel ρ x xv)
    (h : aMF .store H [m, n, x] = some (y, H')) : y = .tuple [] ∧ ∃ w', (Instr.entryStore t mv nv xv).run P w = .ok () w' ∧ Rel Prot w0 ρ H' w' := by
  unfold aMF at h
  split at h <;> first | (simp at h; done) | skip
  rename_i r l heq
  simp only [List.cons.injEq] at heq
  obtain ⟨rfl, rfl⟩ := heq
  split at h <;> first | (simp at h; done) | skip
  rename_i es c hH
  obtain ⟨L, ES, hL, rfl, hb, hE⟩ := map_at R hx hH
  split at h <;> first | (simp at h; done) | skip
  rename_i v es' c' hv
  simp only [Option.some.injEq, Prod.mk.injEq] at h
  obtain ⟨rfl, rfl⟩ := h
  rw [aMf_store] at hv
  split at hv <;> first | (simp at hv; done) | skip
  · rename_i b
    split at hv <;> first | (simp at hv; done) | skip
    rename_i j e hf
    simp only [Option.some.injEq, Prod.mk.injEq] at hv
    obtain ⟨rfl, rfl, rfl⟩ := hv
    obtain ⟨_, q3, E, q4, ⟨he1, he2, he3⟩, q5⟩ := born_ok b es ES.toList 0 j e hE hf
    rw [Nat.sub_zero] at q3 q4 q5
    rw [Array.getElem?_toList] at q4
    simp only [VRel] at hn
    subst hn
    have hidx : ES.findIdx? (fun e => (e.born : Int) == (b : Int)) = some j := by
      rw [← q5]; exact (List.findIdx?_toArray _ ES.toList)
    refine ⟨rfl, _, ?_, map_turn R hL hH (ES' := ES.modify j fun e => { e with val := xv }) (by
      rw [modify_set q4]
      exact hE.set j ⟨he1, hy, he3⟩)⟩
    simp [Instr.entryStore, MapKept.run_getObj_map hb, asInt, asIntOf, hidx, MapKept.run_setObj_map _ hb, Result.andThen]
theorem mUpd_ok (R : Rel Prot w0 ρ H w) {t kt el : TypeId} {kc : KC} (hm : P.underlying t = some (.map kt el)) (hk : kcOf P kt = some kc) {m k x y : AVal} {mv kv xv : Value} (hx : VRel ρ m mv) (hy : VRel ρ k kv) (hv0 : VRel ρ x xv)
    (h : aMF (.upd kc) H [m, k, x] = some (y, H')) : y = .tuple [] ∧ ∃ w', (Instr.mapUpdate t mv kv xv).run P w = .ok () w' ∧ Rel Prot w0 ρ H' w' := by
  unfold aMF at h
  split at h <;> first | (simp at h; done) | skip
  rename_i r l heq
  simp only [List.cons.injEq] at heq
  obtain ⟨rfl, rfl⟩ := heq
  split at h <;> first | (simp at h; done) | skip
  rename_i es c hH
  obtain ⟨L, ES, hL, rfl, hb, hE⟩ := map_at R hx hH
  split at h <;> first | (simp at h; done) | skip
  rename_i v es' c' hv
  simp only [Option.some.injEq, Prod.mk.injEq] at h
  obtain ⟨rfl, rfl⟩ := h
  simp only [aMf] at hv
  cases hi : isK kc k with
  | false => rw [hi] at hv; simp at hv
  | true =>
    rw [hi] at hv
    simp only [cond_true] at hv
    split at hv <;> first | (simp at hv; done) | skip
    · rename_i j e hf
      simp only [Option.some.injEq, Prod.mk.injEq] at hv
      obtain ⟨rfl, rfl, rfl⟩ := hv
      obtain ⟨r', q1, q2⟩ := findKey_ok (w := w) hk hy hE hf
      obtain ⟨_, E, rfl, q3, q4, ⟨he1, he2, he3⟩, q5⟩ := q2
      rw [Nat.sub_zero, Array.getElem?_toList] at q4
      refine ⟨rfl, _, ?_, map_turn R hL hH (ES' := ES.modify j fun e => { e with key := kv, val := xv }) (by
        rw [modify_set q4]
        exact hE.set j ⟨hy, hv0, he3⟩)⟩
      simp [Instr.mapUpdate, run_underlying hm, MapKept.run_getObj_map hb, checkKey_ok (w := w) hk hy hi, q1, q4, q5, stays_ok (w := w) hy hi, MapKept.run_setObj_map _ hb, Result.andThen]
    · rename_i hf
      simp only [Option.some.injEq, Prod.mk.injEq] at hv
      obtain ⟨rfl, rfl, rfl⟩ := hv
      obtain ⟨r', q1, q2⟩ := findKey_ok (w := w) hk hy hE hf
      simp only [Found] at q2
      subst q2
      refine ⟨rfl, _, ?_, map_turn R hL hH (ES' := ES.push { key := kv, val := xv, born := c }) (by
        rw [Array.toList_push]
        refine hE.append ?_
        simp only [EntriesRel]
        exact ⟨_, _, rfl, ⟨hy, hv0, rfl⟩, rfl⟩)⟩
      simp [Instr.mapUpdate, run_underlying hm, MapKept.run_getObj_map hb, checkKey_ok (w := w) hk hy hi, q1, MapKept.run_setObj_map _ hb, Result.andThen]
def eqAOf (P : Program) (t : TypeId) : Option (List (Nat × FK)) := match P.underlying t with
  | some (.array n e) => match P.underlying e, tyOf P e with
    | some (.int _), some (false, 1) => bif P.eqGuardType P.depth t then none else some ((List.range' 0 n).map fun i => (i, FK.int))
    | _, _ => none
  | _ => none
def eqSXOf (P : Program) (t : TypeId) : Option (List (Nat × FK)) := match eqSOf P t with
  | some x => some x
  | none => eqAOf P t
theorem eqItems2 {e : TypeId} {kk : IntKind} (he : P.underlying e = some (.int kk)) (T : Ty P e false 1) {L M : List AVal} {xs ys : Array Value} (hL : VRels ρ L xs.toList) (hM : VRels ρ M ys.toList) (d : Nat) :
    ∀ (k o : Nat) (b : Bool), aEqFs ((List.range' o k).map fun i => (i, FK.int)) L M = some b → (Op.eqItems (d + 1) e 1 xs ys (List.range' o k)).run P w = .ok b w := by
  intro k
  induction k with
  | zero =>
    intro o b h
    simp only [List.range'_zero, List.map_nil, aEqFs, Option.some.injEq] at h
    subst h
    simp [Op.eqItems]
  | succ k ih =>
    intro o b h
    rw [List.range'_succ, List.map_cons] at h
    simp only [aEqFs] at h
    split at h
    · rename_i x y gx gy
      obtain ⟨u, u1, u2⟩ := part_ok (P := P) (w := w) T hL (off := o) (y := x) (by simpa [aPart] using gx)
      obtain ⟨v, v1, v2⟩ := part_ok (P := P) (w := w) T hM (off := o) (y := y) (by simpa [aPart] using gy)
      have hk : fkOf P e = some .int := by simp [fkOf, he]
      rw [List.range'_succ]
      simp only [Op.eqItems, Nat.mul_one, Sem.run_bind, u1, v1, Result.andThen_ok]
      split at h
      · rename_i hb
        rw [fEq_ok hk u2 v2 hb d]
        simp only [Result.andThen_ok, Bool.not_true, Bool.false_eq_true, if_false]
        exact ih (o + 1) b h
      · rename_i hb
        simp only [Option.some.injEq] at h
        subst h
        rw [fEq_ok hk u2 v2 hb d]
        simp
      · simp at h
    · simp at h
theorem eqSX_ok {op : BinOp} (ho : op = .eql ∨ op = .neq) {t : TypeId} {x y : Operand} {ks : List (Nat × FK)} (hk : eqSXOf P t = some ks) {l m : List AVal} {u v : Value} (hp : VRel ρ (.agg l) u) (hq : VRel ρ (.agg m) v) {b : Bool} (h : aEqFs ks l m = some b) :
    (do eqGuard op t x y u v; binOp op t u v : Sem Value).run P w = .ok (.bool (match op with | .eql => b | _ => !b)) w := by
  unfold eqSXOf at hk
  split at hk
  · rename_i z hz
    simp only [Option.some.injEq] at hk
    subst hk
    exact eqS_ok ho hz hp hq h
  · unfold eqAOf at hk
    split at hk
    · rename_i n e hu
      split at hk
      · rename_i kk he hT
        cases hg : P.eqGuardType P.depth t with
        | true => rw [hg] at hk; simp at hk
        | false =>
          rw [hg] at hk
          simp only [cond_false, Option.some.injEq] at hk
          subst hk
          simp only [VRel] at hp hq
          obtain ⟨xs, rfl, hx⟩ := hp
          obtain ⟨ys, rfl, hy⟩ := hq
          obtain ⟨hc1, i0, hi0⟩ := cells_of hT
          have heq : (Op.equalIn 10000 t (.agg xs) (.agg ys)).run P w = .ok b w := by
            show (Op.equalIn (9998 + 1 + 1) t (.agg xs) (.agg ys)).run P w = _
            rw [run_equalIn_array w (9998 + 1) xs ys hu hi0, hc1, List.range_eq_range']
            exact eqItems2 he (ty_of hT) hx hy 9998 n 0 b h
          rcases ho with rfl | rfl
          · simp only [Sem.run_bind, run_eqGuard_agg w _ t x y xs ys hg, Result.andThen_ok, run_eql_struct, heq]
          · simp only [Sem.run_bind, run_eqGuard_agg w _ t x y xs ys hg, Result.andThen_ok, run_neq_struct, heq]
      · simp at hk
    · simp at hk
theorem clr_ok (R : Rel Prot w0 ρ H w) {t e : TypeId} (hu : P.underlying t = some (.slice e)) {z : List AVal} (hz : zeroOf P e = some z) {ty : TypeId} {x y : AVal} {v : Value} (hx : VRel ρ x v) (h : aClr z H [x] = some (y, H')) :
    GoodV P Prot w0 ρ w (Builtin.clear_ #[t] ty #[v]) y H' := by
  unfold aClr at h
  split at h <;> first | (simp at h; done) | skip
  · rename_i n r heq
    simp only [List.cons.injEq, and_true] at heq
    subst heq
    simp only [Option.some.injEq, Prod.mk.injEq] at h
    obtain ⟨rfl, rfl⟩ := h
    simp only [VRel] at hx
    obtain ⟨_, _, rfl⟩ := hx
    refine GoodV.pure R (v := .tuple #[]) ?_ (by simp [VRel, VRels])
    simp [Builtin.clear_, run_underlying hu]
  · rename_i a n r heq
    simp only [List.cons.injEq, and_true] at heq
    subst heq
    obtain ⟨L, off, c, hL, hsh, rfl, hlen, hoff⟩ := slice_off hx
    cases hn : Nat.beq n 0 with
    | true =>
      rw [hn] at h
      simp only [cond_true, Option.some.injEq, Prod.mk.injEq] at h
      obtain ⟨rfl, rfl⟩ := h
      have := Nat.eq_of_beq_eq_true hn
      subst this
      refine GoodV.pure R (v := .tuple #[]) ?_ (by simp [VRel, VRels])
      simp [Builtin.clear_, run_underlying hu]
    | false =>
      rw [hn] at h
      simp only [cond_false] at h
      split at h
      · rename_i H2 hw
        simp only [Option.some.injEq, Prod.mk.injEq] at h
        obtain ⟨rfl, rfl⟩ := h
        have hn0 : n ≠ 0 := fun e => by rw [e] at hn; simp at hn
        rw [hoff (by omega)]
        obtain ⟨zv, hzr, hzl⟩ := zero_of hz
        have hl := VRels.len (hzl ρ)
        simp only [Array.length_toList] at hl
        have hm := made_rel (hzl ρ) n
        obtain ⟨w', h1, h2⟩ := wr_run (P := P) R hw hL hsh hm
        refine ⟨ρ, w', .tuple #[], Pl.le_refl _, ?_, h2, by simp [VRel, VRels]⟩
        have hzc : Builtin.zeroCells zv.cells n = madeOf zv.cells (n * z.length) := by
          rw [hl]; rfl
        simp only [Builtin.clear_, List.getElem?_toArray, List.getElem?_cons_zero, Sem.run_bind, run_underlying hu, Result.andThen_ok, hzr, hzc]
        rw [h1]
        rfl
      · simp at h
theorem cpy_ok (R : Rel Prot w0 ρ H w) {t t2 e : TypeId} (hu : P.underlying t = some (.slice e)) {g : Bool} {n : Nat} (T : Ty P e g n) {ty : TypeId} {s x y : AVal} {u v : Value} (hs : VRel ρ s u) (hx : VRel ρ x v) (h : aCpy n H [s, x] = some (y, H')) :
    GoodV P Prot w0 ρ w (Builtin.copy_ #[t, t2] ty #[u, v]) y H' := by
  unfold aCpy at h
  split at h <;> first | (simp at h; done) | skip
  rename_i so sl sr xo xl xr heq
  simp only [List.cons.injEq, and_true] at heq
  obtain ⟨rfl, rfl⟩ := heq
  have hshape : ∀ {o : Option Ad} {m : Nat} {r : Room} {z : Value}, VRel ρ (.slice o m r) z → ∃ b c, z = .slice b m c := by
    intro o m r z hz
    cases o with
    | none =>
      simp only [VRel] at hz
      obtain ⟨h1, h2, rfl⟩ := hz
      exact ⟨none, 0, by rw [h1]⟩
    | some a =>
      obtain ⟨L, off, c, _, _, rfl, _, _⟩ := slice_off hz
      exact ⟨_, _, rfl⟩
  obtain ⟨sb, sc, rfl⟩ := hshape hs
  obtain ⟨xb, xc, rfl⟩ := hshape hx
  cases hn : Nat.beq (Nat.min xl sl) 0 with
  | true =>
    rw [hn] at h
    simp only [cond_true, Option.some.injEq, Prod.mk.injEq] at h
    obtain ⟨rfl, rfl⟩ := h
    have h0 := Nat.eq_of_beq_eq_true hn
    refine GoodV.pure R (v := .int .i64 0) ?_ (by simp [VRel])
    have hf : (Builtin.firstCells n 0 (.slice xb xl xc)).run P w = .ok #[] w := by
      cases xb with
      | none => rfl
      | some a => simp only [Builtin.firstCells, loadCells, Nat.zero_mul]; rfl
    simp only [Builtin.copy_, List.getElem?_toArray, List.getElem?_cons_zero, List.getElem?_cons_succ, Sem.run_bind, run_underlying hu, Result.andThen_ok, Builtin.lenOf, Sem.run_pure, T.size, h0, hf]
    cases sb <;> rfl
  | false =>
    rw [hn] at h
    simp only [cond_false] at h
    have hn0 : Nat.min xl sl ≠ 0 := fun e => by rw [e] at hn; simp at hn
    have hmx : Nat.min xl sl ≤ xl := Nat.min_le_left _ _
    have hms : Nat.min xl sl ≤ sl := Nat.min_le_right _ _
    cases so with
    | none => simp at h
    | some a =>
    cases xo with
    | none => simp at h
    | some b =>
    simp only at h
    split at h <;> first | (simp at h; done) | skip
    rename_i l hl
    split at h <;> first | (simp at h; done) | skip
    rename_i H2 hw
    simp only [Option.some.injEq, Prod.mk.injEq] at h
    obtain ⟨rfl, rfl⟩ := h
    obtain ⟨L, off, c, hL, hsh, e1, hlen, hoff⟩ := slice_off hs
    obtain ⟨M, moff, mc, hM, msh, e2, mlen, mo⟩ := slice_off hx
    simp only [Value.slice.injEq, true_and] at e1 e2
    obtain ⟨rfl, rfl⟩ := e1
    obtain ⟨rfl, rfl⟩ := e2
    have ho := hoff (by omega)
    have hm := mo (by omega)
    subst ho hm
    obtain ⟨vs, q1, q2, q3⟩ := rd_run (P := P) R hl hM msh
    obtain ⟨w', h1, h2⟩ := wr_run (P := P) R hw hL hsh q2
    refine ⟨ρ, w', .int .i64 (Nat.min xl sl : Nat), Pl.le_refl _, ?_, h2, by simp [VRel]⟩
    have hf : (Builtin.firstCells n (Nat.min xl sl) (.slice (some ⟨M.c, b.o - M.sh, none⟩) xl xc)).run P w = .ok vs w := q1
    simp only [Builtin.copy_, List.getElem?_toArray, List.getElem?_cons_zero, List.getElem?_cons_succ, Sem.run_bind, run_underlying hu, Result.andThen_ok, Builtin.lenOf, Sem.run_pure, T.size, hf]
    rw [h1]
    rfl
end
end Go.Abs
namespace Go.Abs
abbrev Kn := List (Nat × Value)
def kGet : Kn → Nat → Option Value
  | [], _ => none
  | (i, v) :: r, t => bif Nat.beq i t then some v else kGet r t
def kOpd (K : Kn) : Operand → Option Value
  | .tmp t => kGet K t
  | .const v => some v
  | _ => none
def qOp (P : Program) (K : Kn) (o : Op) : Option Value := match o with
  | .call c => match c.callee with
    | .builtin .recover => some .nilIface
    | _ => none
  | .typeAssert x _ t true => match kOpd K x, P.underlying t, P.info? t with
    | some .nilIface, some _, some i => match i.zero with
      | some z => some (.tuple #[z, .bool false])
      | none => none
    | _, _, _ => none
  | .move x => kOpd K x
  | .assign x => kOpd K x
  | .extract x i => match kOpd K x with
    | some (.tuple vs) => vs[i]?
    | _ => none
  | _ => none
def qOps (P : Program) (n : Nat) : List Oper → Kn → Option Kn
  | [], K => some K
  | o :: r, K => match o.guard, o.dst, qOp P K o.op with
    | none, some d, some v => bif Nat.blt d n then qOps P n r ((d, v) :: K) else none
    | _, _, _ => none
def qCode (P : Program) (n : Nat) : Code → Kn → Option Kn
  | .skip, K => some K
  | .region _ ops false, K => qOps P n ops.toList K
  | .seq a b, K => match qCode P n a K with
    | some K => qCode P n b K
    | none => none
  | .cond c a b, K => match kOpd K c with
    | some (.bool true) => qCode P n a K
    | some (.bool false) => qCode P n b K
    | _ => none
  | _, _ => none
def quietB (P : Program) (g : FuncId) : Bool := match P.funcs[g]? with
  | some fn => match fn.body with
    | some c => !(fn.name == "runtime.NumGoroutine") && Nat.beq fn.results.size 0 && (match qCode P fn.ntmps c [] with | some _ => true | none => false)
    | none => false
  | none => false
section
variable {P : Program}
def KOK (K : Kn) (n : Nat) (a : Act) : Prop := n ≤ a.tmps.size ∧ a.defers = [] ∧ ∀ t v, kGet K t = some v → a.tmps.getD t undef = v
theorem kOpd_ok {K : Kn} {n : Nat} {a : Act} (h : KOK K n a) {x : Operand} {v : Value} (hx : kOpd K x = some v) : a.eval x = v := by
  cases x <;> simp only [kOpd, Option.some.injEq, reduceCtorEq] at hx
  · exact h.2.2 _ _ hx
  · subst hx; rfl
theorem KOK.put {K : Kn} {n : Nat} {a : Act} (h : KOK K n a) {d : Nat} (hd : d < n) (v : Value) : KOK ((d, v) :: K) n (a.put (some d) v) := by
  obtain ⟨h1, h2, h3⟩ := h
  refine ⟨by simpa [Act.put] using h1, by simpa [Act.put] using h2, fun t u hu => ?_⟩
  simp only [kGet] at hu
  cases hb : Nat.beq d t with
  | true =>
    rw [hb] at hu
    simp only [cond_true, Option.some.injEq] at hu
    have := Nat.eq_of_beq_eq_true hb
    subst this hu
    simp only [Act.put, Array.getD_eq_getD_getElem?]
    rw [Array.getElem?_setIfInBounds_self_of_lt (by omega)]
    rfl
  | false =>
    rw [hb] at hu
    have hne : d ≠ t := fun e => by rw [e] at hb; simp at hb
    simp only [Act.put, Array.getD_eq_getD_getElem?]
    rw [Array.getElem?_setIfInBounds_ne hne]
    have := h3 t u hu
    rwa [Array.getD_eq_getD_getElem?] at this
theorem qOps_ok {n : Nat} {cs : List Frame} (hcs : recoverD cs = none) {w : World} {ops : Array Oper} {Q : Exit → Act → List Frame → World → Prop} :
    ∀ (r : List Oper) (i : Nat) (K K' : Kn) (a : Act), (∀ j, r[j]? = ops[i + j]?) → qOps P n r K = some K' → KOK K n a → (∀ a', KOK K' n a' → Q .normal a' cs w) → wpOpsS P ops Q (List.range' i r.length) a cs w := by
  intro r
  induction r with
  | nil =>
    intro i K K' a _ h hK hQ
    simp only [qOps, Option.some.injEq] at h
    subst h
    exact hQ a hK
  | cons o r ih =>
    intro i K K' a hi h hK hQ
    simp only [qOps] at h
    split at h
    · rename_i d v hg hd hv
      cases hb : Nat.blt d n with
      | false => rw [hb] at h; simp at h
      | true =>
        rw [hb] at h
        simp only [cond_true] at h
        have hdn : d < n := Nat.lt_of_lt_of_le (Nat.lt_succ_self _) (Nat.le_of_ble_eq_true hb)
        have ho : ops[i]? = some o := by have := hi 0; simpa using this.symm
        have hnext : ∀ j, r[j]? = ops[i + 1 + j]? := fun j => by have := hi (j + 1); simp only [List.getElem?_cons_succ] at this; rw [this]; congr 1; omega
        have go := ih (i + 1) ((d, v) :: K) K' (a.put (some d) v) hnext h (hK.put hdn v) hQ
        rw [List.length_cons, List.range'_succ]
        simp only [wpOpsS, ho]
        have hw : Region.wanted o (yielded ops a.tmps) = true := by simp [Region.wanted, hg]
        rw [if_pos hw]
        obtain ⟨dst, op, type, pos, after, guard⟩ := o
        simp only at hg hd hv ⊢
        subst hg hd
        unfold qOp at hv
        split at hv
        · rename_i c
          split at hv
          · rename_i hc
            simp only [Option.some.injEq] at hv
            subst hv
            obtain ⟨cal, args, ats⟩ := c
            simp only at hc
            subst hc
            have : (execOp a.eval { dst := some d, op := .call ⟨.builtin .recover, args, ats⟩, type := type, pos := pos, after := after, guard := none }).run P w = .ok .recover w := rfl
            rw [this]
            simp only [hcs]
            exact go
          · simp at hv
        · rename_i x xt t
          split at hv
          · rename_i dd inf hx hu hin
            split at hv
            · rename_i z hz
              simp only [Option.some.injEq] at hv
              subst hv
              have e := kOpd_ok hK hx
              have : (execOp a.eval { dst := some d, op := .typeAssert x xt t true, type := type, pos := pos, after := after, guard := none }).run P w = .ok (.value (.tuple #[z, .bool false])) w := by
                cases dd <;> simp [execOp, e, Instr.typeAssert, run_underlying hu, zeroValue, run_typeInfo w hin, hz]
              rw [this]
              exact go
            · simp at hv
          · simp at hv
        · rename_i x
          have e := kOpd_ok hK hv
          have : (execOp a.eval { dst := some d, op := .move x, type := type, pos := pos, after := after, guard := none }).run P w = .ok (.value v) w := by
            rw [← e]; rfl
          rw [this]
          exact go
        · rename_i x
          have e := kOpd_ok hK hv
          have : (execOp a.eval { dst := some d, op := .assign x, type := type, pos := pos, after := after, guard := none }).run P w = .ok (.value v) w := by
            rw [← e]; rfl
          rw [this]
          exact go
        · rename_i x k
          split at hv
          · rename_i vs hx
            have e := kOpd_ok hK hx
            have : (execOp a.eval { dst := some d, op := .extract x k, type := type, pos := pos, after := after, guard := none }).run P w = .ok (.value v) w := by
              simp [execOp, e, Instr.extract, hv]
            rw [this]
            exact go
          · simp at hv
        · simp at hv
    · simp at h
theorem wpS_mono {c : Code} {Q Q' : Exit → Act → List Frame → World → Prop} {a : Act} {cs : List Frame} {w : World} (h : c.wpS P Q a cs w) (hq : ∀ e a' cs' w', Q e a' cs' w' → Q' e a' cs' w') : c.wpS P Q' a cs w :=
  fun b k hb hr => let ⟨e, a', cs', w', q, r⟩ := h b k hb hr; ⟨e, a', cs', w', hq _ _ _ _ q, r⟩
theorem qCode_ok {n : Nat} {cs : List Frame} (hcs : recoverD cs = none) {w : World} : ∀ (c : Code) (K K' : Kn) (a : Act), qCode P n c K = some K' → KOK K n a →
    c.wpS P (fun e a' cs' w' => e = .normal ∧ cs' = cs ∧ w' = w ∧ KOK K' n a') a cs w := by
  intro c
  induction c with
  | skip =>
    intro K K' a h hK
    simp only [qCode, Option.some.injEq] at h
    subst h
    exact wpS_of_wp (wp_skip ⟨rfl, rfl, rfl, hK⟩)
  | region id ops draw =>
    intro K K' a h hK
    cases draw with
    | true => simp [qCode] at h
    | false =>
      simp only [qCode] at h
      refine wpS_region ?_
      have := qOps_ok (Q := fun e a' cs' w' => e = .normal ∧ cs' = cs ∧ w' = w ∧ KOK K' n a') hcs (w := w) (ops := ops) ops.toList 0 K K' a (fun j => by simp) h hK (fun a' h' => ⟨rfl, rfl, rfl, h'⟩)
      simpa [List.range_eq_range'] using this
  | seq x y hx hy =>
    intro K K' a h hK
    simp only [qCode] at h
    split at h
    · rename_i K1 h1
      refine wpS_seq (wpS_mono (hx K K1 a h1 hK) ?_)
      rintro e a' cs' w' ⟨rfl, rfl, rfl, h2⟩
      exact hy K1 K' a' h h2
    · simp at h
  | cond c x y hx hy =>
    intro K K' a h hK
    simp only [qCode] at h
    split at h
    · rename_i hc
      exact wpS_cond (t := true) (kOpd_ok hK hc) (by simpa using hx K K' a h hK)
    · rename_i hc
      exact wpS_cond (t := false) (kOpd_ok hK hc) (by simpa using hy K K' a h hK)
    · simp at h
  | _ => intro K K' a h hK; simp [qCode] at h
theorem quiet_callsD {g : FuncId} (h : quietB P g = true) (args : Array Value) (w : World) : CallsD P g args .returning w fun e u' w' => (∃ v, e = .returned v) ∧ u' = .returning ∧ w' = w := by
  unfold quietB at h
  split at h
  · rename_i fn hf
    split at h
    · rename_i c hb
      simp only [Bool.and_eq_true] at h
      obtain ⟨⟨_, hr⟩, hq⟩ := h
      split at hq
      · rename_i K hK
        refine callsD_of_wpS hf hb fun c₀ cs hu => ?_
        have hcs : recoverD (c₀ :: cs) = none := by simp [recoverD, hu]
        have hst : KOK [] fn.ntmps { tmps := args ++ Array.replicate (fn.ntmps - args.size) undef, defers := [] } := ⟨by simp; omega, rfl, fun t v h => by simp [kGet] at h⟩
        refine wpS_mono (qCode_ok hcs c [] K _ hK hst) ?_
        rintro e a' cs' w' ⟨rfl, rfl, rfl, h2⟩
        have hz : fn.results = #[] := Array.eq_empty_of_size_eq_zero (Nat.eq_of_beq_eq_true hr)
        refine ⟨h2.2.1, .returning, by rw [← hu], .tuple #[], ?_, ⟨_, rfl⟩, rfl, rfl⟩
        simp [results, hz]
      · simp at hq
    · simp at h
  · simp at h
def QuietD (P : Program) (d : Deferred) : Prop := ∃ g cap, d.target = .fn (.func g) cap ∧ quietB P g = true
def Quiets (P : Program) (l : List Deferred) : Prop := ∀ d ∈ l, QuietD P d
theorem Quiets.push {a : Act} (h : Quiets P a.defers) {d : Deferred} (hd : QuietD P d) (t : Option Tmp) (v : Value) : Quiets P (({ a with defers := d :: a.defers } : Act).put t v).defers := by
  have : Quiets P (d :: a.defers) := fun x hx => by
    rcases List.mem_cons.1 hx with rfl | hx
    · exact hd
    · exact h x hx
  cases t <;> simpa [Act.put] using this
theorem quiet_call {g : FuncId} (h : quietB P g = true) (args : Array Value) (w : World) : (callFunc g args).run P w = .ok (.enter g args) w := by
  unfold quietB at h
  split at h
  · rename_i fn hf
    split at h
    · rename_i c hb
      simp only [Bool.and_eq_true, Bool.not_eq_true'] at h
      have h1 : fn.body.isNone = false := by rw [hb]; rfl
      simp only [callFunc, Sem.run_bind, run_program, Result.andThen_ok, hf, h.1.1, Bool.false_eq_true, if_false, h1]
      rfl
    · simp at h
  · simp at h
theorem leaves_quiet {fn : Func} {tmps : Array Value} {R : Ending → World → Prop} {v : Value} {w : World} (hr : (results fn tmps).run P w = .ok v w) (hR : R (.returned v) w) : ∀ {ds : List Deferred}, Quiets P ds → Leaves P fn tmps R ds .returning w
  | [], _ => ⟨v, hr, hR⟩
  | d :: ds, h => by
    obtain ⟨g, cap, h1, h2⟩ := h d (by simp)
    refine ⟨by simp, .func g, cap, g, d.args ++ cap, h1, ?_, ?_⟩
    · rw [h1]
      exact quiet_call h2 _ _
    · refine (quiet_callsD h2 _ w).mono ?_
      rintro e u' w' ⟨⟨x, rfl⟩, rfl, rfl⟩
      exact leaves_quiet hr hR fun d' hd' => h d' (by simp [hd'])
end
end Go.Abs
namespace Go.Abs
inductive Opd where
  | t (i : Nat)
  | c (v : AVal)
  | f (id : FuncId)
inductive AOp where
  | mv (x : Opd)
  | pick (c a b : Opd)
  | new (zero : List AVal)
  | box (x : Opd)
  | build (zero : List AVal) (parts : List (Nat × Nat × Opd))
  | buildSl (len : Nat) (zero : List AVal) (parts : List (Nat × Nat × Opd))
  | load (agg : Bool) (size : Nat) (x : Opd)
  | store (size : Nat) (a x : Opd)
  | nilChk (x : Opd)
  | bin (op : BinOp) (x y : Opd)
  | un (op : UnOp) (x : Opd)
  | conv (k : IntKind) (x : Opd)
  | convSB (x : Opd)
  | convBS (x : Opd)
  | mkFunc (fn : Fn) (first captured : List Opd)
  | mkIface (t : TypeId) (x : Opd)
  | mkSlice (bytes : Nat) (zero : List AVal) (l c : Opd)
  | sl (size : Nat) (x : Opd) (lo hi mx : Option Opd)
  | slStr (x : Opd) (lo hi : Option Opd)
  | fieldA (off : Nat) (x : Opd)
  | field (agg : Bool) (size off : Nat) (x : Opd)
  | idxA (size : Nat) (x i : Opd)
  | idxArr (n size : Nat) (x i : Opd)
  | idx (n size : Nat) (agg : Bool) (x i : Opd)
  | idxS (x i : Opd)
  | extract (i : Nat) (x : Opd)
  | append (size bytes : Nat) (s x : Opd)
  | len (str : Bool) (x : Opd)
  | call (f : FuncId) (args : List Opd)
  | callv (f : Opd) (args : List Opd)
  | pf (f : PF) (xs : List Opd)
  | hf (f : HF) (xs : List Opd)
  | bad
  | claim (b : Nat) (zero : List AVal) (s : Option (Nat × Nat))
  | slA (n size : Nat) (x : Opd) (lo hi mx : Option Opd)
inductive Nx where
  | val (v : AVal)
  | enter (f : FuncId) (args : List AVal)
def undefA : AVal := .tuple []
def ev (T : Tr AVal) : Opd → AVal
  | .t i => match T.get i with
    | some v => v
    | none => undefA
  | .c v => v
  | .f id => .func (.func id) [] []
def evs (T : Tr AVal) : List Opd → List AVal
  | [] => []
  | x :: r => ev T x :: evs T r
def evO (T : Tr AVal) : Option Opd → Option AVal
  | none => none
  | some x => some (ev T x)
def evP (T : Tr AVal) : List (Nat × Nat × Opd) → List (Nat × Nat × AVal)
  | [] => []
  | (o, n, x) :: r => (o, n, ev T x) :: evP T r
def vv (H : AHeap) : Option AVal → Option (Nx × AHeap)
  | some v => some (.val v, H)
  | none => none
def vh : Option (AVal × AHeap) → Option (Nx × AHeap)
  | some (v, H) => some (.val v, H)
  | none => none
def aNilChk : AVal → Option AVal
  | .ptr none => none
  | .nilIface => none
  | .nilFunc => none
  | .func (.method _) _ _ => none
  | .val _ => none
  | x => some x
def aLenK (str : Bool) : AVal → Option AVal
  | .str s => bif str then some (.int .i64 s.length) else none
  | .slice _ n _ => bif str then none else some (.int .i64 n)
  | .val (.slice _ n _) => bif str then none else some (.int .i64 n)
  | _ => none
def aop (tb : FuncId → Bool) (T : Tr AVal) (H : AHeap) : AOp → Option (Nx × AHeap)
  | .mv x => some (.val (ev T x), H)
  | .pick c a b => match ev T c with
    | .bool b' => some (.val (bif b' then ev T a else ev T b), H)
    | _ => none
  | .new z => vh (some (oNew H z))
  | .box x => vh (some (oNew H (ev T x).cells))
  | .build z ps => vv H (aBuild z (evP T ps))
  | .buildSl n z ps => vh (aBuildSl n z H (evP T ps))
  | .load a n x => vv H (oLoad a n H (ev T x))
  | .store n a x => match oStore n H (ev T a) (ev T x) with
    | some H' => some (.val undefA, H')
    | none => none
  | .nilChk x => vv H (aNilChk (ev T x))
  | .bin op x y => vv H (aBin op (ev T x) (ev T y))
  | .un op x => vv H (aUn op (ev T x))
  | .conv k x => vv H (aConv k (ev T x))
  | .convSB x => vh (aSB H (ev T x))
  | .convBS x => vv H (aBS H (ev T x))
  | .mkFunc fn a b => some (.val (.func fn (evs T a) (evs T b)), H)
  | .mkIface t x => some (.val (.iface t (ev T x)), H)
  | .mkSlice b z l c => vh (aMake b z H (ev T l) (ev T c))
  | .sl n x lo hi mx => vv H (aSl n (ev T x) (evO T lo) (evO T hi) (evO T mx))
  | .slStr x lo hi => vv H (aSlStr (ev T x) (evO T lo) (evO T hi))
  | .fieldA o x => vv H (aField o (ev T x))
  | .field a n o x => vv H (aFieldV a n o (ev T x))
  | .idxA n x i => vv H (aIdxA n (ev T x) (ev T i))
  | .idxArr m n x i => vv H (aIdxArr m n (ev T x) (ev T i))
  | .idx m n a x i => vv H (aIdx m n a (ev T x) (ev T i))
  | .idxS x i => vv H (aIdxS (ev T x) (ev T i))
  | .extract i x => vv H (aExtract i (ev T x))
  | .append n b s x => vh (aAppend n b H (ev T s) (ev T x))
  | .len s x => vv H (aLenK s (ev T x))
  | .call f args => bif tb f then some (.enter f (evs T args), H) else none
  | .callv f args => match ev T f with
    | .func (.func f) a b => bif tb f then some (.enter f (a ++ evs T args ++ b), H) else none
    | _ => none
  | .pf f xs => vv H (aPf f (evs T xs))
  | .hf f xs => vh (aHf f H (evs T xs))
  | .bad => none
  | .claim b z s => vv H (aClaim H b z s)
  | .slA m n x lo hi mx => vv H (aSlArr m n (ev T x) (evO T lo) (evO T hi) (evO T mx))
section
variable (P : Program)
def cOpd : Operand → Option Opd
  | .tmp t => some (.t t)
  | .const v => match absC v with
    | some x => some (.c x)
    | none => none
  | .global _ => none
  | .func f => some (.f f)
def cOpds : List Operand → Option (List Opd)
  | [] => some []
  | x :: r => match cOpd x, cOpds r with
    | some y, some l => some (y :: l)
    | _, _ => none
def cOpdO : Option Operand → Option (Option Opd)
  | none => some none
  | some x => match cOpd x with
    | some y => some (some y)
    | none => none
def cParts (place : Nat → Option (Nat × Nat)) : List (Nat × Operand) → Option (List (Nat × Nat × Opd))
  | [] => some []
  | (i, x) :: r => match place i, cOpd x, cParts place r with
    | some (o, n), some y, some l => some ((o, n, y) :: l)
    | _, _, _ => none
def hasBody (f : FuncId) : Bool :=
  match P.funcs[f]? with
  | some fn => fn.body.isSome && !(fn.name == "runtime.NumGoroutine")
  | none => false
def isTail (t : TypeId) : Bool :=
  match P.underlying t with
  | some (.slice _) => true
  | some .string => true
  | _ => false
def cCall (c : Call) : Option AOp :=
  match c.callee with
  | .value (.func f) => match cOpds c.args.toList with
      | some l => some (.call f l)
      | none => none
  | .value x => match cOpd x, cOpds c.args.toList with
    | some y, some l => some (.callv y l)
    | _, _ => none
  | .builtin .append => match c.argTypes.toList, cOpds c.args.toList with
    | [sT, xT], some [s, x] => match P.underlying sT with
      | some (.slice e) => match tyOf P e, elemOf P e with
        | some (_, n), some (n', b) => bif Nat.beq n n' && isTail P xT then some (.append n b s x) else none
        | _, _ => none
      | _ => none
    | _, _ => none
  | .builtin .len => match c.argTypes.toList, cOpds c.args.toList with
    | [T], some [x] => match P.underlying T with
      | some (.slice _) => some (.len false x)
      | some .string => some (.len true x)
      | _ => none
    | _, _ => none
  | _ => none
def cOp0 (o : Op) : Option AOp :=
  match o with
  | .move x => match cOpd x with | some y => some (.mv y) | none => none
  | .assign x => match cOpd x with | some y => some (.mv y) | none => none
  | .pick c a b => match cOpd c, cOpd a, cOpd b with | some c, some a, some b => some (.pick c a b) | _, _, _ => none
  | .alloc e => match zeroOf P e with | some z => some (.new z) | none => none
  | .box _ x => match cOpd x with | some y => some (.box y) | none => none
  | .build t ps => match P.underlying t, zeroOf P t with
    | some (.struct fs), some z => match placesOf P fs.toList with
      | some pl => match cParts (fun i => pl[i]?) ps.toList with
        | some l => some (.build z l)
        | none => none
      | none => none
    | some (.array _ e), some z => match tyOf P e with
      | some (_, n) => match cParts (fun i => some (i * n, n)) ps.toList with
        | some l => some (.build z l)
        | none => none
      | none => none
    | _, _ => none
  | .buildSlice t len ps => match P.underlying t with
    | some (.slice e) => match tyOf P e, zeroOf P e with
      | some (_, n), some z => match cParts (fun i => some (i * n, n)) ps.toList with
        | some l => bif Nat.beq z.length n && Nat.ble (len * n) 16777216 then some (.buildSl len z l) else none
        | none => none
      | _, _ => none
    | _ => none
  | .load t a => match tyOf P t, cOpd a with | some (g, n), some y => some (.load g n y) | _, _ => none
  | .store t a x => match tyOf P t, cOpd a, cOpd x with | some (_, n), some a, some y => some (.store n a y) | _, _, _ => none
  | .nilCheck x => match cOpd x with | some y => some (.nilChk y) | none => none
  | .binOp op _ x y _ => match cOpd x, cOpd y with | some a, some b => some (.bin op a b) | _, _ => none
  | .unOp op _ x => match cOpd x with | some y => some (.un op y) | none => none
  | .convert s d x => match cOpd x with
    | some y => match P.underlying s, P.underlying d with
      | some _, some (.int k) => some (.conv k y)
      | some .string, some (.slice e) => match P.underlying e with
        | some (.int .u8) => some (.convSB y)
        | _ => none
      | some (.slice e), some .string => match P.underlying e with
        | some (.int .u8) => some (.convBS y)
        | _ => none
      | _, _ => none
    | none => none
  | .makeInterface t x => match cOpd x, P.underlying t with
    | some _, some (.interface _) => none
    | some y, some _ => some (.mkIface t y)
    | _, _ => none
  | .makeFunc fn a b => match cOpds a.toList, cOpds b.toList with | some a, some b => some (.mkFunc fn a b) | _, _ => none
  | .makeSlice t l c => match P.underlying t with
    | some (.slice e) => match elemOf P e, zeroOf P e, cOpd l, cOpd c with
      | some (_, b), some z, some l, some c => some (.mkSlice b z l c)
      | _, _, _, _ => none
    | _ => none
  | .slice t x lo hi mx => match P.underlying t, cOpd x, cOpdO lo, cOpdO hi, cOpdO mx with
    | some .string, some x, some lo, some hi, some none => some (.slStr x lo hi)
    | some (.slice e), some x, some lo, some hi, some mx => match tyOf P e with
      | some (_, n) => some (.sl n x lo hi mx)
      | none => none
    | _, _, _, _, _ => none
  | .fieldAddr s x i => match P.underlying s, cOpd x with
    | some (.struct fs), some y => match fs[i]? with
      | some f => match tyOf P f.type with
        | some (_, n) => bif Nat.beq n 0 then none else some (.fieldA f.offset y)
        | none => none
      | none => none
    | _, _ => none
  | .field s x i => match P.underlying s, cOpd x with
    | some (.struct fs), some y => match fs[i]? with
      | some f => match tyOf P f.type with
        | some (g, n) => some (.field g n f.offset y)
        | none => none
      | none => none
    | _, _ => none
  | .indexAddr t x i => match P.underlying t, cOpd x, cOpd i with
    | some (.slice e), some x, some i => match tyOf P e with
      | some (_, n) => some (.idxA n x i)
      | none => none
    | some (.array m e), some x, some i => match tyOf P e with
      | some (_, n) => some (.idxArr m n x i)
      | none => none
    | _, _, _ => none
  | .index t x i => match P.underlying t, cOpd x, cOpd i with
    | some .string, some x, some i => some (.idxS x i)
    | some (.array m e), some x, some i => match tyOf P e with
      | some (g, n) => some (.idx m n g x i)
      | none => none
    | _, _, _ => none
  | .extract x i => match cOpd x with | some y => some (.extract i y) | none => none
  | .call c => cCall P c
  | _ => none
def quiets : List Nat := (List.range P.funcs.size).filter (quietB P)
def cOpX (o : Op) : Option AOp :=
  match o with
  | .binOp .eql t x y _ => match cOpd x, cOpd y with
    | some a, some b => match eqKOf P t x y with
      | some k => some (.pf (.eqv false k) [a, b])
      | none => match eqSXOf P t with
        | some fs => some (.pf (.eqS false fs) [a, b])
        | none => none
    | _, _ => none
  | .binOp .neq t x y _ => match cOpd x, cOpd y with
    | some a, some b => match eqKOf P t x y with
      | some k => some (.pf (.eqv true k) [a, b])
      | none => match eqSXOf P t with
        | some fs => some (.pf (.eqS true fs) [a, b])
        | none => none
    | _, _ => none
  | .range t x => match P.underlying t, cOpd x with
    | some .string, some y => some (.hf .strRange [y])
    | _, _ => none
  | .next x true => match cOpd x with
    | some y => some (.hf .strNext [y])
    | none => none
  | .slice t x lo hi mx => match P.underlying t, cOpd x, cOpdO lo, cOpdO hi, cOpdO mx with
    | some (.array m e), some x, some lo, some hi, some mx => match tyOf P e with
      | some (_, n) => some (.slA m n x lo hi mx)
      | none => none
    | _, _, _, _, _ => none
  | .convert s d x => bif Nat.beq s d then (match P.underlying s, cOpd x with
    | some (.slice e), some y => match P.underlying e with
      | some (.int .u8) => some (.hf .mark [y])
      | _ => none
    | _, _ => none) else none
  | .call c => match c.callee with
    | .builtin .max => match cOpds c.args.toList with
      | some l => some (.pf (.mm true) l)
      | none => none
    | .builtin .clear => match c.argTypes.toList, cOpds c.args.toList with
      | [t], some [x] => match P.underlying t with
        | some (.slice e) => match zeroOf P e with
          | some z => some (.hf (.clr z) [x])
          | none => none
        | _ => none
      | _, _ => none
    | .builtin .copy => match c.argTypes.toList, cOpds c.args.toList with
      | [t, _], some [s, x] => match P.underlying t with
        | some (.slice e) => match tyOf P e with
          | some (_, n) => some (.hf (.cpy n) [s, x])
          | none => none
        | _ => none
      | _, _ => none
    | .builtin .min => match cOpds c.args.toList with
      | some l => some (.pf (.mm false) l)
      | none => none
    | .value (.func f) => bif isIbs P f then match cOpds c.args.toList with
        | some l => some (.pf .ibs l)
        | none => none
      else bif isCbs P f then match cOpds c.args.toList with
        | some l => some (.pf .cbs l)
        | none => none
      else none
    | _ => none
  | .indexAddr t (.global g) i => match P.underlying t, cOpd i with
    | some (.array m e), some i => match tyOf P e with
      | some (_, n) => some (.hf (.gIdx g m n) [i])
      | none => none
    | _, _ => none
  | .load t (.global g) => match tyOf P t with
    | some (a, n) => some (.hf (.gLd g a n) [])
    | none => none
  | .fieldAddr s (.global g) i => match P.underlying s with
    | some (.struct fs) => match fs[i]? with
      | some f => match tyOf P f.type with
        | some (_, n) => bif Nat.beq n 0 then none else some (.hf (.gFld g f.offset) [])
        | none => none
      | none => none
    | _ => none
  | .sliceToArrayPointer t x => match P.underlying t, cOpd x with
    | some (.array n _), some y => some (.pf (.s2a n) [y])
    | _, _ => none
  | .makeMap _ none => some (.hf .mkMap [])
  | .lookup t m k ok => match P.underlying t, cOpd m, cOpd k with
    | some (.map kt el), some m, some k => match kcOf P kt, zeroA P el with
      | some kc, some z => some (.hf (.mLook kc ok z) [m, k])
      | _, _ => none
    | _, _, _ => none
  | .mapEntry t m k => match P.underlying t, cOpd m, cOpd k with
    | some (.map kt el), some m, some k => match kcOf P kt, zeroA P el with
      | some kc, some z => some (.hf (.mf (.entry kc z)) [m, k])
      | _, _ => none
    | _, _, _ => none
  | .entryStore _ m n x => match cOpd m, cOpd n, cOpd x with
    | some m, some n, some x => some (.hf (.mf .store) [m, n, x])
    | _, _, _ => none
  | .mapUpdate t m k x => match P.underlying t, cOpd m, cOpd k, cOpd x with
    | some (.map kt _), some m, some k, some x => match kcOf P kt with
      | some kc => some (.hf (.mf (.upd kc)) [m, k, x])
      | none => none
    | _, _, _, _ => none
  | .insert t m k x => match P.underlying t, cOpd m, cOpd k, cOpd x with
    | some (.map kt _), some m, some k, some x => match kcOf P kt with
      | some kc => some (.hf (.mf (.upd kc)) [m, k, x])
      | none => none
    | _, _, _, _ => none
  | .defer c => match c.callee with
    | .value x => match cOpd x with
      | some y => some (.hf (.dfr (quiets P)) [y])
      | none => none
    | _ => none
  | _ => none
def cOp (o : Op) : Option AOp :=
  match cOpX P o with
  | some a => some a
  | none => match cOp0 P o with
    | some a => some a
    | none => some .bad
end
section
variable {P : Program} {Prot : Gh} {w0 : World} {ρ : Pl} {H H' : AHeap} {w : World}
structure TmpsRel (ρ : Pl) (n : Nat) (T : Tr AVal) (tmps : Array Value) : Prop where
  size : tmps.size = n
  at_ : ∀ t, VRel ρ (ev T (.t t)) (tmps.getD t undef)
theorem TmpsRel.mono {ρ ρ' : Pl} {n : Nat} {T : Tr AVal} {tmps : Array Value} (h : ρ.le ρ') (t : TmpsRel ρ n T tmps) : TmpsRel ρ' n T tmps := ⟨t.size, fun i => VRel.mono h _ _ (t.at_ i)⟩
theorem opd_ok {n : Nat} {T : Tr AVal} {a : Act} (h : TmpsRel ρ n T a.tmps) {x : Operand} {y : Opd} (hc : cOpd x = some y) : VRel ρ (ev T y) (a.eval x) := by
  cases x with
  | tmp t => simp only [cOpd, Option.some.injEq] at hc; subst hc; exact h.at_ t
  | const v =>
    simp only [cOpd] at hc
    split at hc
    · rename_i x hx
      simp only [Option.some.injEq] at hc
      subst hc
      exact absC_ok hx
    · simp at hc
  | global g => simp [cOpd] at hc
  | func f =>
    simp only [cOpd, Option.some.injEq] at hc
    subst hc
    simp only [ev, Act.eval, VRel]
    exact ⟨#[], #[], rfl, by simp [VRels], by simp [VRels]⟩
theorem opds_ok {n : Nat} {T : Tr AVal} {a : Act} (h : TmpsRel ρ n T a.tmps) : ∀ {l : List Operand} {m : List Opd}, cOpds l = some m → VRels ρ (evs T m) (l.map a.eval) := by
  intro l
  induction l with
  | nil => intro m hc; simp only [cOpds, Option.some.injEq] at hc; subst hc; simp [evs, VRels]
  | cons x r ih =>
    intro m hc
    simp only [cOpds] at hc
    split at hc
    · rename_i y l' h1 h2
      simp only [Option.some.injEq] at hc
      subst hc
      simp only [evs, List.map_cons, VRels]
      exact ⟨_, _, rfl, opd_ok h h1, ih h2⟩
    · simp at hc
theorem opdO_ok {n : Nat} {T : Tr AVal} {a : Act} (h : TmpsRel ρ n T a.tmps) {x : Option Operand} {y : Option Opd} (hc : cOpdO x = some y) : ORelV ρ (evO T y) (x.map a.eval) := by
  cases x with
  | none => simp only [cOpdO, Option.some.injEq] at hc; subst hc; rfl
  | some x =>
    simp only [cOpdO] at hc
    split at hc
    · rename_i z hz
      simp only [Option.some.injEq] at hc
      subst hc
      exact ⟨_, rfl, opd_ok h hz⟩
    · simp at hc
theorem parts_ok {n : Nat} {T : Tr AVal} {a : Act} (h : TmpsRel ρ n T a.tmps) {place : Nat → Option (Nat × Nat)} : ∀ {l : List (Nat × Operand)} {m : List (Nat × Nat × Opd)}, cParts place l = some m →
    PartsRel ρ place (evP T m) (l.map fun p => (p.1, a.eval p.2)) := by
  intro l
  induction l with
  | nil => intro m hc; simp only [cParts, Option.some.injEq] at hc; subst hc; simp [evP, PartsRel]
  | cons x r ih =>
    intro m hc
    obtain ⟨i, x⟩ := x
    simp only [cParts] at hc
    split at hc
    · rename_i o k y l' h1 h2 h3
      simp only [Option.some.injEq] at hc
      subst hc
      simp only [evP, List.map_cons, PartsRel]
      exact ⟨_, _, _, rfl, h1, opd_ok h h2, ih h3⟩
    · simp at hc
def NxRel (P : Program) (ρ : Pl) : Nx → Next → Prop
  | .val x, .value v => VRel ρ x v
  | .val x, .skip => VRel ρ x undef
  | .val x, .defer d => VRel ρ x undef ∧ QuietD P d
  | .enter f l, .enter g vs => g = f ∧ VRels ρ l vs.toList
  | _, _ => False
def OpSim (P : Program) (Prot : Gh) (w0 : World) (ρ : Pl) (w : World) (s : Sem Next) (nx : Nx) (H' : AHeap) : Prop :=
  ∃ ρ' w' n, ρ.le ρ' ∧ s.run P w = .ok n w' ∧ Rel Prot w0 ρ' H' w' ∧ NxRel P ρ' nx n
theorem OpSim.val (R : Rel Prot w0 ρ H w) {x : AVal} {s : Sem Value} (h : ∃ u, s.run P w = .ok u w ∧ VRel ρ x u) : OpSim P Prot w0 ρ w (do pure (.value (← s))) (.val x) H := by
  obtain ⟨u, h1, h2⟩ := h
  exact ⟨ρ, w, .value u, Pl.le_refl _, by simp only [Sem.run_bind, h1, Result.andThen_ok]; rfl, R, h2⟩
theorem OpSim.good {x : AVal} {s : Sem Value} (h : GoodV P Prot w0 ρ w s x H') : OpSim P Prot w0 ρ w (do pure (.value (← s))) (.val x) H' := by
  obtain ⟨ρ', w', u, h1, h2, h3, h4⟩ := h
  exact ⟨ρ', w', .value u, h1, by simp only [Sem.run_bind, h2, Result.andThen_ok]; rfl, h3, h4⟩
theorem vv_spec {x : Option AVal} {nx : Nx} (h : vv H x = some (nx, H')) : ∃ y, x = some y ∧ nx = .val y ∧ H' = H := by
  unfold vv at h
  split at h
  · simp only [Option.some.injEq, Prod.mk.injEq] at h; exact ⟨_, rfl, h.1.symm, h.2.symm⟩
  · simp at h
theorem vh_spec {x : Option (AVal × AHeap)} {nx : Nx} (h : vh x = some (nx, H')) : ∃ y, x = some (y, H') ∧ nx = .val y := by
  unfold vh at h
  split at h
  · simp only [Option.some.injEq, Prod.mk.injEq] at h; obtain ⟨rfl, rfl⟩ := h; exact ⟨_, rfl, rfl⟩
  · simp at h
theorem nilChk_ok (R : Rel Prot w0 ρ H w) {x y : AVal} {v : Value} (hx : VRel ρ x v) (h : aNilChk x = some y) (o : Oper) {q : Operand} (ev' : Operand → Value) (hv : ev' q = v) :
    OpSim P Prot w0 ρ w (execOp ev' { o with op := .nilCheck q }) (.val y) H := by
  have hy : y = x ∧ (∀ b, execOp ev' { o with op := .nilCheck q } = pure (.value v) ∨ b = true) := by
    cases x with
    | val a => simp [aNilChk] at h
    | ptr a =>
      cases a with
      | none => simp [aNilChk] at h
      | some a =>
        simp only [aNilChk, Option.some.injEq] at h
        simp only [VRel] at hx
        obtain ⟨L, _, _, rfl⟩ := hx
        exact ⟨h.symm, fun _ => .inl (by simp [execOp, hv])⟩
    | nilIface => simp [aNilChk] at h
    | nilFunc => simp [aNilChk] at h
    | func fn a b =>
      cases fn <;> simp only [aNilChk, Option.some.injEq, reduceCtorEq] at h
      all_goals
        simp only [VRel] at hx
        obtain ⟨f, c, rfl, _⟩ := hx
        exact ⟨h.symm, fun _ => .inl (by simp [execOp, hv])⟩
    | slice a n r =>
      simp only [aNilChk, Option.some.injEq] at h
      have : ∃ b m c, v = .slice b m c := by
        cases a with
        | none => simp only [VRel] at hx; exact ⟨_, _, _, hx.2.2⟩
        | some a => obtain ⟨_, _, _, _, _, h3, _⟩ := slice_off hx; exact ⟨_, _, _, h3⟩
      obtain ⟨b, m, c, rfl⟩ := this
      exact ⟨h.symm, fun _ => .inl (by simp [execOp, hv])⟩
    | map a =>
      simp only [aNilChk, Option.some.injEq] at h
      cases a with
      | none => simp only [VRel] at hx; subst hx; exact ⟨h.symm, fun _ => .inl (by simp [execOp, hv])⟩
      | some a => simp only [VRel] at hx; obtain ⟨L, _, rfl⟩ := hx; exact ⟨h.symm, fun _ => .inl (by simp [execOp, hv])⟩
    | bool b => simp only [aNilChk, Option.some.injEq] at h; simp only [VRel] at hx; subst hx; exact ⟨h.symm, fun _ => .inl (by simp [execOp, hv])⟩
    | int b c => simp only [aNilChk, Option.some.injEq] at h; simp only [VRel] at hx; subst hx; exact ⟨h.symm, fun _ => .inl (by simp [execOp, hv])⟩
    | str b => simp only [aNilChk, Option.some.injEq] at h; simp only [VRel] at hx; subst hx; exact ⟨h.symm, fun _ => .inl (by simp [execOp, hv])⟩
    | iface t b => simp only [aNilChk, Option.some.injEq] at h; simp only [VRel] at hx; obtain ⟨_, rfl, _⟩ := hx; exact ⟨h.symm, fun _ => .inl (by simp [execOp, hv])⟩
    | agg l => simp only [aNilChk, Option.some.injEq] at h; simp only [VRel] at hx; obtain ⟨_, rfl, _⟩ := hx; exact ⟨h.symm, fun _ => .inl (by simp [execOp, hv])⟩
    | tuple l => simp only [aNilChk, Option.some.injEq] at h; simp only [VRel] at hx; obtain ⟨_, rfl, _⟩ := hx; exact ⟨h.symm, fun _ => .inl (by simp [execOp, hv])⟩
  obtain ⟨rfl, h2⟩ := hy
  rcases h2 false with h2 | h2
  · exact ⟨ρ, w, .value v, Pl.le_refl _, by rw [h2]; rfl, R, hx⟩
  · simp at h2
end
end Go.Abs
