/- The abstract machine, part 8c: the pure operations that came later: equality of what is no number, the greatest and the least, the place of a byte. -/
import Derived.Test.YtndeemjhengoiaaA8b
import Derived.Laws.Externs
import Derived.Laws.Small
import Derived.Laws.StructEq
namespace Go.Abs
section
variable {P : Program} {ρ : Pl} {w : World}

inductive FK where
  | int | str | bool
def fEqI : AVal → AVal → Option Bool
  | .int k a, .int k' b => if k = k' then some (eqF a b) else none
  | _, _ => none
def fEqS : AVal → AVal → Option Bool
  | .str a, .str b => some (a == b)
  | _, _ => none
def fEqB : AVal → AVal → Option Bool
  | .bool a, .bool b => some (a == b)
  | _, _ => none
def fEq : FK → AVal → AVal → Option Bool
  | .int, x, y => fEqI x y
  | .str, x, y => fEqS x y
  | .bool, x, y => fEqB x y
def aEqFs : List (Nat × FK) → List AVal → List AVal → Option Bool
  | [], _, _ => some true
  | (o, k) :: r, l, m => match l[o]?, m[o]? with
    | some x, some y => match fEq k x y with
      | some true => aEqFs r l m
      | some false => some false
      | none => none
    | _, _ => none
def fkOf (P : Program) (t : TypeId) : Option FK :=
  match P.underlying t with
  | some (.int _) => some .int
  | some .string => some .str
  | some .bool => some .bool
  | _ => none
def eqFsOf (P : Program) : List Field → Option (List (Nat × FK))
  | [] => some []
  | f :: r => bif f.name == "_" then none else match fkOf P f.type, tyOf P f.type, eqFsOf P r with
    | some k, some (false, _), some l => some ((f.offset, k) :: l)
    | _, _, _ => none
def eqSOf (P : Program) (t : TypeId) : Option (List (Nat × FK)) :=
  match P.underlying t with
  | some (.struct fs) => bif P.stoodInHeld t || P.eqGuardType P.depth t then none else eqFsOf P fs.toList
  | _ => none
theorem strOf_beq (a b : List UInt8) : (strOf a == strOf b) = (a == b) := by
  have : (strOf a == strOf b) = (a.toArray == b.toArray) := rfl
  rw [this]
  by_cases h : a = b
  · subst h; simp
  · have : a.toArray ≠ b.toArray := fun e => h (by simpa using congrArg Array.toList e)
    simp [h]
theorem fEq_ok {t : TypeId} {k : FK} (hk : fkOf P t = some k) {x y : AVal} {u v : Value} (hx : VRel ρ x u) (hy : VRel ρ y v) {b : Bool} (h : fEq k x y = some b) (d : Nat) : (Op.equalIn (d + 1) t u v).run P w = .ok b w := by
  unfold fkOf at hk
  split at hk <;> simp only [Option.some.injEq, reduceCtorEq] at hk <;> subst hk <;> rename_i hu <;> simp only [fEq] at h
  · unfold fEqI at h
    split at h
    · rename_i k' a k'' b'
      split at h
      · rename_i hkk
        simp only [Option.some.injEq] at h
        simp only [VRel] at hx hy
        subst hx hy h hkk
        simp [Op.equalIn, run_underlying hu, eqF_eq]
      · simp at h
    · simp at h
  · unfold fEqS at h
    split at h
    · simp only [Option.some.injEq] at h
      simp only [VRel] at hx hy
      subst hx hy h
      simp [Op.equalIn, run_underlying hu, strOf_beq]
    · simp at h
  · unfold fEqB at h
    split at h
    · simp only [Option.some.injEq] at h
      simp only [VRel] at hx hy
      subst hx hy h
      simp [Op.equalIn, run_underlying hu]
    · simp at h
theorem eqFs_ok : ∀ {fs : List Field} {ks : List (Nat × FK)}, eqFsOf P fs = some ks → ∀ {l m : List AVal} {xs ys : Array Value}, VRels ρ l xs.toList → VRels ρ m ys.toList → ∀ {b : Bool}, aEqFs ks l m = some b → ∀ d, (Op.eqFields (d + 1) xs ys fs).run P w = .ok b w
  | [], ks, hk, l, m, xs, ys, hx, hy, b, h, d => by
    simp only [eqFsOf, Option.some.injEq] at hk
    subst hk
    simp only [aEqFs, Option.some.injEq] at h
    subst h
    rfl
  | f :: fs, ks, hk, l, m, xs, ys, hx, hy, b, h, d => by
    simp only [eqFsOf] at hk
    cases hn : (f.name == "_") with
    | true => rw [hn] at hk; simp at hk
    | false =>
      rw [hn] at hk
      simp only [cond_false] at hk
      split at hk
      · rename_i k n ks' h1 h2 h3
        simp only [Option.some.injEq] at hk
        subst hk
        simp only [aEqFs] at h
        have hne : f.name ≠ "_" := by simpa using hn
        split at h
        · rename_i x y gx gy
          have p1 : aPart false n f.offset l = some x := by simpa [aPart] using gx
          have p2 : aPart false n f.offset m = some y := by simpa [aPart] using gy
          obtain ⟨u, u1, u2⟩ := part_ok (P := P) (w := w) (ty_of h2) hx p1
          obtain ⟨v, v1, v2⟩ := part_ok (P := P) (w := w) (ty_of h2) hy p2
          simp only [Op.eqFields, hne, ne_eq, not_false_eq_true, if_true, Sem.run_bind, u1, v1, Result.andThen_ok]
          split at h
          · rename_i hb
            rw [fEq_ok h1 u2 v2 hb d]
            simp only [Result.andThen_ok, Bool.not_true, Bool.false_eq_true, if_false]
            exact eqFs_ok h3 hx hy h d
          · rename_i hb
            simp only [Option.some.injEq] at h
            subst h
            rw [fEq_ok h1 u2 v2 hb d]
            simp
          · simp at h
        · simp at h
      · simp at hk
theorem eqS_ok {op : BinOp} (ho : op = .eql ∨ op = .neq) {t : TypeId} {x y : Operand} {ks : List (Nat × FK)} (hk : eqSOf P t = some ks) {l m : List AVal} {u v : Value} (hp : VRel ρ (.agg l) u) (hq : VRel ρ (.agg m) v) {b : Bool} (h : aEqFs ks l m = some b) :
    (do eqGuard op t x y u v; binOp op t u v : Sem Value).run P w = .ok (.bool (match op with | .eql => b | _ => !b)) w := by
  unfold eqSOf at hk
  split at hk
  · rename_i fs hu
    cases hg : (P.stoodInHeld t || P.eqGuardType P.depth t) with
    | true => rw [hg] at hk; simp at hk
    | false =>
      rw [hg] at hk
      simp only [cond_false] at hk
      rw [Bool.or_eq_false_iff] at hg
      simp only [VRel] at hp hq
      obtain ⟨xs, rfl, hx⟩ := hp
      obtain ⟨ys, rfl, hy⟩ := hq
      have hfo : P.fieldsOf t = fs := by simp [Program.fieldsOf, hu]
      have he : (Op.equalIn 10000 t (.agg xs) (.agg ys)).run P w = .ok b w := by
        have := run_equalIn_struct (P := P) w 9999 t xs ys (by rw [hfo]; exact hu) hg.1
        rw [this, hfo]
        exact eqFs_ok hk hx hy h 9998
      rcases ho with rfl | rfl
      · simp only [Sem.run_bind, run_eqGuard_agg w _ t x y xs ys hg.2, Result.andThen_ok, run_eql_struct, he]
      · simp only [Sem.run_bind, run_eqGuard_agg w _ t x y xs ys hg.2, Result.andThen_ok, run_neq_struct, he]
  · simp at hk

inductive PF where
  | eqv (neg : Bool) (k : EqK)
  | eqS (neg : Bool) (fs : List (Nat × FK))
  | mm (great : Bool)
  | ibs

def aMM1 (great : Bool) : AVal → AVal → Option AVal
  | .int k x, .int _ y => some (.int k (bif (bif great then ltF x y else ltF y x) then y else x))
  | _, _ => none
def aMM (great : Bool) : AVal → List AVal → Option AVal
  | x, [] => some x
  | x, y :: r => match aMM1 great x y with
    | some z => aMM great z r
    | none => none
def ibF (c : UInt8) : List UInt8 → Nat → Int
  | [], _ => .negSucc 0
  | b :: r, n => bif Nat.beq b.toNat c.toNat then .ofNat n else ibF c r (n + 1)

def aIbs : List AVal → Option AVal
  | [.str s, .int .u8 (.ofNat c)] => some (.int .i64 (ibF c.toUInt8 s 0))
  | _ => none
def aEqs (neg : Bool) (k : EqK) : List AVal → Option AVal
  | [x, y] => match aEqv k x y with
    | some b => some (.bool (bif neg then !b else b))
    | none => none
  | _ => none
def aMMs (g : Bool) : List AVal → Option AVal
  | x :: r => aMM g x r
  | [] => none
def aEqSs (neg : Bool) (fs : List (Nat × FK)) : List AVal → Option AVal
  | [.agg l, .agg m] => match aEqFs fs l m with
    | some b => some (.bool (bif neg then !b else b))
    | none => none
  | _ => none
def aPf : PF → List AVal → Option AVal
  | .eqv neg k, l => aEqs neg k l
  | .eqS neg fs, l => aEqSs neg fs l
  | .mm g, l => aMMs g l
  | .ibs, l => aIbs l

theorem mm1_ok {g : Bool} {x y z : AVal} {u v : Value} (hx : VRel ρ x u) (hy : VRel ρ y v) (h : aMM1 g x y = some z) :
    ∃ q, VRel ρ z q ∧ (if g then Builtin.max2 u v else Builtin.min2 u v) = pure q := by
  unfold aMM1 at h
  split at h
  · rename_i k a k' b
    simp only [Option.some.injEq] at h
    subst h
    simp only [VRel] at hx hy
    subst hx hy
    cases g
    · refine ⟨.int k (if b < a then b else a), ?_, rfl⟩
      simp only [cond_false, ltF_eq, VRel]
      by_cases hh : b < a <;> simp [hh]
    · refine ⟨.int k (if b > a then b else a), ?_, rfl⟩
      simp only [cond_true, ltF_eq, VRel]
      by_cases hh : a < b <;> simp [hh]
  · simp at h
theorem mm_ok {g : Bool} : ∀ {l : List AVal} {x z : AVal} {u : Value} {vs : List Value}, VRel ρ x u → VRels ρ l vs → aMM g x l = some z →
    ∃ q, VRel ρ z q ∧ (vs.foldlM (if g then Builtin.max2 else Builtin.min2) u).run P w = .ok q w
  | [], x, z, u, vs, hx, hl, h => by
    simp only [VRels] at hl; subst hl
    simp only [aMM, Option.some.injEq] at h; subst h
    exact ⟨u, hx, rfl⟩
  | y :: l, x, z, u, vs, hx, hl, h => by
    simp only [VRels] at hl
    obtain ⟨v, r, rfl, hy, hr⟩ := hl
    simp only [aMM] at h
    split at h
    · rename_i m hm
      obtain ⟨q, hq, e⟩ := mm1_ok hx hy hm
      obtain ⟨q', hq', e'⟩ := mm_ok hq hr h
      refine ⟨q', hq', ?_⟩
      rw [List.foldlM_cons]
      have : (if g then Builtin.max2 else Builtin.min2) u v = pure q := by rw [← e]; cases g <;> rfl
      rw [this]
      simpa using e'
    · simp at h

theorem ibF_eq (c : UInt8) : ∀ (s : List UInt8) (n : Nat), ibF c s n = if Lib.indexByte s c = -1 then -1 else Lib.indexByte s c + n
  | [], n => rfl
  | b :: s, n => by
    have hb : Nat.beq b.toNat c.toNat = (b == c) := by
      rw [beq_dec]
      by_cases h : b = c
      · subst h; simp
      · have : b.toNat ≠ c.toNat := fun e => h (UInt8.toNat_inj.1 e)
        simp [h, this]
    simp only [ibF, Lib.indexByte, hb]
    by_cases hc : (b == c) = true
    · simp [hc]
    · have hge := Lib.indexByte_ge s c
      rw [Bool.not_eq_true] at hc
      simp only [hc, cond_false, ibF_eq c s (n + 1), Bool.false_eq_true, if_false, beq_iff_eq]
      by_cases h : Lib.indexByte s c = -1
      · simp [h]
      · simp only [h, if_false]
        rw [if_neg (by omega)]
        omega

/-- the function has no body and is the place of a byte in a string -/
def isIbs (P : Program) (f : FuncId) : Bool :=
  match P.funcs[f]? with
  | some fn => fn.body.isNone && (fn.name == "internal/bytealg.IndexByteString") && (Extern.findNext fn).isNone
  | none => false
theorem find_ibs {fn : Func} (h : fn.name = "internal/bytealg.IndexByteString") : Extern.find fn = some Extern.BytealgIndexByte.indexByte := by
  unfold Extern.find
  rw [h]
  kernel_rfl
theorem ibs_ok {f : FuncId} (hf : isIbs P f = true) {l : List AVal} {z : AVal} (h : aIbs l = some z) {vs : Array Value} (hv : VRels ρ l vs.toList) :
    ∃ q, VRel ρ z q ∧ (callFunc f vs).run P w = .ok (.value q) w := by
  unfold isIbs at hf
  split at hf
  · rename_i fn hfn
    simp only [Bool.and_eq_true, beq_iff_eq] at hf
    obtain ⟨⟨h1, h2⟩, h3⟩ := hf
    unfold aIbs at h
    split at h <;> first | (simp at h; done) | skip
    rename_i s c
    simp only [Option.some.injEq] at h
    subst h
    simp only [VRels] at hv
    obtain ⟨v1, r1, e1, hv1, v2, r2, rfl, hv2, rfl⟩ := hv
    simp only [VRel] at hv1 hv2
    subst hv1 hv2
    have ha : vs = #[.string (strOf s), .int .u8 (.ofNat c)] := Array.toList_inj.1 (by simpa using e1)
    subst ha
    refine ⟨_, ?_, by rw [run_callFunc_extern hfn (by rw [h2]; rfl) h1 (by simpa using h3) (find_ibs h2), Lib.run_indexByteString]; rfl⟩
    simp only [VRel, ibF_eq, strOf]
    by_cases hh : Lib.indexByte s c.toUInt8 = -1
    · simp [hh]
    · simp [hh]
  · simp at hf

/-! ### a slice of an array's cells -/
def aSlArr (n size : Nat) (x : AVal) (lo hi mx : Option AVal) : Option AVal :=
  match x with
  | .ptr (some a) =>
    match aBnd n n lo hi mx with
    | some (l, h, m) => bif Nat.beq (m.getD n) l then some (.slice (some a) (h - l) (.known (m.getD n - l))) else some (.slice (some ⟨a.b, a.lim, a.o + l * size⟩) (h - l) (.known (m.getD n - l)))
    | none => none
  | _ => none
theorem slArr_ok {t elem : TypeId} {agg : Bool} {n size : Nat} (hu : P.underlying t = some (.array n elem)) (T : Ty P elem agg size) {x y : AVal} {v : Value} {lo hi mx : Option AVal} {lv hv mv : Option Value}
    (hx : VRel ρ x v) (hl : ORelV ρ lo lv) (hh : ORelV ρ hi hv) (hm : ORelV ρ mx mv) (h : aSlArr n size x lo hi mx = some y) : ∃ u, (Instr.sliceAt t v lv hv mv).run P w = .ok u w ∧ VRel ρ y u := by
  unfold aSlArr at h
  split at h
  · rename_i a
    split at h
    · rename_i l hn m hb
      simp only [VRel] at hx
      obtain ⟨L, h1, h2, rfl⟩ := hx
      obtain ⟨q1, q2, q3, q4⟩ := bnd_ok (P := P) (w := w) (isSlice := false) (Nat.le_refl n) hl hh hm hb
      have q5 : hn ≤ m.getD n := by
        cases m with
        | none => simp; omega
        | some q => simpa using (q4 q rfl).1
      cases hb : Nat.beq (m.getD n) l with
      | true =>
        rw [hb] at h
        simp only [cond_true, Option.some.injEq] at h
        subst h
        have := Nat.eq_of_beq_eq_true hb
        refine ⟨.slice (some ⟨L.c, a.o - L.sh, none⟩) (hn - l) (m.getD n - l), ?_, ?_⟩
        · simp only [Instr.sliceAt, Sem.run_bind, run_underlying hu, Result.andThen_ok, q1, T.size, this, if_true, Sem.run_pure, asAddr, Instr.sureAddr]
        · simp only [VRel]
          exact ⟨L, h1, h2, by omega, rfl⟩
      | false =>
        rw [hb] at h
        simp only [cond_false, Option.some.injEq] at h
        subst h
        have hne : ¬ m.getD n = l := fun e => by rw [e, Nat.beq_refl] at hb; simp at hb
        refine ⟨.slice (some ⟨L.c, a.o - L.sh + l * size, none⟩) (hn - l) (m.getD n - l), ?_, ?_⟩
        · simp only [Instr.sliceAt, Sem.run_bind, run_underlying hu, Result.andThen_ok, q1, T.size, if_neg hne, Sem.run_pure, Option.map_some, add_none, asAddr, Instr.sureAddr]
        · simp only [VRel]
          refine ⟨L, h1, by first | omega | (simp only; omega), ?_⟩
          simp only [SliceRel]
          refine ⟨by omega, ?_⟩
          congr 3
          omega
    · simp at h
  · simp at h
end
end Go.Abs
