/- The abstract machine, part 5: places, parts, slices, strings, append: the model's do the same. -/
import Derived.Test.YtndeemjhengoiaaA4
namespace Go.Abs
section
variable {P : Program} {Prot : Gh} {w0 : World} {ρ : Pl} {H H' : AHeap} {w : World}

def aNil : AVal → Option AVal
  | .ptr (some a) => some (.ptr (some a))
  | .slice a n r => some (.slice a n r)
  | .map r => some (.map r)
  | .iface t v => some (.iface t v)
  | .func (.func f) a b => some (.func (.func f) a b)
  | _ => none

/-! ### places -/
def aField (off : Nat) : AVal → Option AVal
  | .ptr (some a) => some (.ptr (some ⟨a.b, a.lim, a.o + off⟩))
  | _ => none
theorem ptr_add {a : Ad} {v : Value} (h : VRel ρ (.ptr (some a)) v) (k : Nat) : ∃ b, v = .pointer (some b) ∧ VRel ρ (.ptr (some ⟨a.b, a.lim, a.o + k⟩)) (.pointer (some (b.add k))) := by
  simp only [VRel] at h ⊢
  obtain ⟨L, h1, h2, rfl⟩ := h
  refine ⟨_, rfl, L, h1, by omega, ?_⟩
  rw [add_none]
  congr 3
  omega

theorem fieldA_ok {s : TypeId} {fields : Array Field} {f : Field} {i n : Nat} (hu : P.underlying s = some (.struct fields)) (hf : fields[i]? = some f) {agg : Bool} (T : Ty P f.type agg n) (hn : n ≠ 0)
    {x y : AVal} {v : Value} (hx : VRel ρ x v) (h : aField f.offset x = some y) : ∃ u, (Instr.fieldAt s v i).run P w = .ok u w ∧ VRel ρ y u := by
  unfold aField at h
  split at h
  · rename_i a
    simp only [Option.some.injEq] at h
    subst h
    obtain ⟨b, rfl, hb⟩ := ptr_add hx f.offset
    refine ⟨_, ?_, hb⟩
    simp [Instr.fieldAt, run_underlying hu, hf, Instr.sureAddr, fieldPlace, T.size, hn]
  · simp at h

/-- element i of a slice, of so many cells each -/
def aIdxA (size : Nat) (x i : AVal) : Option AVal :=
  match x, i with
  | .slice (some a) len _, .int _ (.ofNat i) => bif Nat.blt i len then some (.ptr (some ⟨a.b, a.lim, a.o + i * size⟩)) else none
  | _, _ => none
theorem slice_off {a : Ad} {len : Nat} {r : Room} {v : Value} (h : VRel ρ (.slice (some a) len r) v) : ∃ L off c, ρ a.b a.lim = some L ∧ L.sh ≤ a.o ∧ v = .slice (some ⟨L.c, off, none⟩) len c ∧ len ≤ c ∧ (0 < len → off = a.o - L.sh) := by
  simp only [VRel] at h
  obtain ⟨L, h1, h2, h3⟩ := h
  cases r with
  | known c =>
    simp only [SliceRel] at h3
    obtain ⟨h3, rfl⟩ := h3
    exact ⟨L, _, c, h1, h2, rfl, h3, fun _ => rfl⟩
  | open_ s =>
    simp only [SliceRel] at h3
    obtain ⟨c, off, rfl, h4, _, h5⟩ := h3
    refine ⟨L, off, c, h1, h2, rfl, h4, fun hl => ?_⟩
    rcases h5 with h5 | h5
    · exact h5.1
    · omega
theorem idxA_ok {t elem : TypeId} {size : Nat} {agg : Bool} (hu : P.underlying t = some (.slice elem)) (T : Ty P elem agg size) {x i y : AVal} {v iv : Value} (hx : VRel ρ x v) (hi : VRel ρ i iv)
    (h : aIdxA size x i = some y) : ∃ u, (Instr.indexAt t v iv).run P w = .ok u w ∧ VRel ρ y u := by
  unfold aIdxA at h
  split at h
  · rename_i a len r k n
    cases hb : Nat.blt n len with
    | false => rw [hb] at h; simp at h
    | true =>
      rw [hb] at h
      simp only [cond_true, Option.some.injEq] at h
      subst h
      have hn : n < len := Nat.le_of_ble_eq_true hb
      obtain ⟨L, off, c, h1, h2, rfl, h3, h4⟩ := slice_off hx
      have h4 := h4 (by omega)
      subst h4
      simp only [VRel] at hi
      subst hi
      refine ⟨.pointer (some ⟨L.c, a.o - L.sh + n * size, none⟩), ?_, ?_⟩
      · simp [Instr.indexAt, asIntOf, run_underlying hu, T.size, hn, add_none]
      · simp only [VRel]
        refine ⟨L, h1, by omega, ?_⟩
        congr 3
        omega
  · simp at h

/-- element i of an array that lies at a place -/
def aIdxArr (n size : Nat) (x i : AVal) : Option AVal :=
  match x, i with
  | .ptr (some a), .int _ (.ofNat i) => bif Nat.blt i n then some (.ptr (some ⟨a.b, a.lim, a.o + i * size⟩)) else none
  | _, _ => none
theorem idxArr_ok {t elem : TypeId} {n size : Nat} {agg : Bool} (hu : P.underlying t = some (.array n elem)) (T : Ty P elem agg size) {x i y : AVal} {v iv : Value} (hx : VRel ρ x v) (hi : VRel ρ i iv)
    (h : aIdxArr n size x i = some y) : ∃ u, (Instr.indexAt t v iv).run P w = .ok u w ∧ VRel ρ y u := by
  unfold aIdxArr at h
  split at h
  · rename_i a k m
    cases hb : Nat.blt m n with
    | false => rw [hb] at h; simp at h
    | true =>
      rw [hb] at h
      simp only [cond_true, Option.some.injEq] at h
      subst h
      have hn : m < n := Nat.le_of_ble_eq_true hb
      obtain ⟨b, rfl, hbb⟩ := ptr_add hx (m * size)
      simp only [VRel] at hi
      subst hi
      refine ⟨_, ?_, hbb⟩
      simp [Instr.indexAt, asIntOf, run_underlying hu, T.size, hn, Instr.sureAddr]
  · simp at h

/-! ### parts of values -/
def aPart (agg : Bool) (size off : Nat) (l : List AVal) : Option AVal :=
  bif agg then some (.agg ((l.drop off).take size)) else l[off]?
theorem part_ok {t : TypeId} {agg : Bool} {size off : Nat} (T : Ty P t agg size) {l : List AVal} {vs : Array Value} (hl : VRels ρ l vs.toList) {y : AVal} (h : aPart agg size off l = some y) :
    ∃ u, (part t vs off).run P w = .ok u w ∧ VRel ρ y u := by
  unfold aPart at h
  cases agg with
  | true =>
    simp only [cond_true, Option.some.injEq] at h
    subst h
    refine ⟨.agg (vs.extract off (off + size)), by simp [part, T.agg, T.size], ?_⟩
    simp only [VRel]
    refine ⟨_, rfl, ?_⟩
    have := (hl.drop off).take size
    simpa using this
  | false =>
    simp only [cond_false] at h
    obtain ⟨u, h1, h2⟩ := hl.nth _ _ h
    refine ⟨u, ?_, h2⟩
    rw [Array.getElem?_toList] at h1
    simp [part, T.agg, h1]
def aFieldV (agg : Bool) (size off : Nat) : AVal → Option AVal
  | .agg l => aPart agg size off l
  | _ => none
theorem fieldV_ok {s : TypeId} {fields : Array Field} {f : Field} {i n : Nat} (hu : P.underlying s = some (.struct fields)) (hf : fields[i]? = some f) {agg : Bool} (T : Ty P f.type agg n)
    {x y : AVal} {v : Value} (hx : VRel ρ x v) (h : aFieldV agg n f.offset x = some y) : ∃ u, (Instr.field s v i).run P w = .ok u w ∧ VRel ρ y u := by
  unfold aFieldV at h
  split at h
  · simp only [VRel] at hx
    obtain ⟨vs, rfl, hl⟩ := hx
    obtain ⟨u, h1, h2⟩ := part_ok (P := P) (w := w) T hl h
    exact ⟨u, by simp [Instr.field, run_underlying hu, hf, asAgg, h1], h2⟩
  · simp at h
def aIdx (n size : Nat) (agg : Bool) (x i : AVal) : Option AVal :=
  match x, i with
  | .agg l, .int _ (.ofNat i) => bif Nat.blt i n then aPart agg size (i * size) l else none
  | _, _ => none
theorem idx_ok {t elem : TypeId} {n size : Nat} {agg : Bool} (hu : P.underlying t = some (.array n elem)) (T : Ty P elem agg size) {x i y : AVal} {v iv : Value} (hx : VRel ρ x v) (hi : VRel ρ i iv)
    (h : aIdx n size agg x i = some y) : ∃ u, (Instr.index t v iv).run P w = .ok u w ∧ VRel ρ y u := by
  unfold aIdx at h
  split at h
  · rename_i l k m
    cases hb : Nat.blt m n with
    | false => rw [hb] at h; simp at h
    | true =>
      rw [hb] at h
      simp only [cond_true] at h
      have hn : m < n := Nat.le_of_ble_eq_true hb
      simp only [VRel] at hx hi
      obtain ⟨vs, rfl, hl⟩ := hx
      subst hi
      obtain ⟨u, h1, h2⟩ := part_ok (P := P) (w := w) T hl h
      refine ⟨u, ?_, h2⟩
      simp [Instr.index, asIntOf, run_underlying hu, T.size, hn, h1]
  · simp at h
def aIdxS (x i : AVal) : Option AVal :=
  match x, i with
  | .str s, .int _ (Int.ofNat i) => match (s[i]? : Option UInt8) with | some b => some (.int .u8 b.toNat) | none => none
  | _, _ => none
theorem idxS_ok {t : TypeId} (hu : P.underlying t = some .string) {x i y : AVal} {v iv : Value} (hx : VRel ρ x v) (hi : VRel ρ i iv)
    (h : aIdxS x i = some y) : ∃ u, (Instr.index t v iv).run P w = .ok u w ∧ VRel ρ y u := by
  unfold aIdxS at h
  split at h
  · rename_i s k m
    split at h
    · rename_i b hb
      simp only [Option.some.injEq] at h
      subst h
      simp only [VRel] at hx hi
      subst hx hi
      refine ⟨_, ?_, rfl⟩
      have e : (strOf s)[m]? = some b := by
        obtain ⟨h1, h2⟩ := List.getElem?_eq_some_iff.1 hb
        have h3 : m < (strOf s).size := by simpa [strOf, ByteArray.size] using h1
        rw [getElem?_pos (strOf s) m h3]
        simp only [Option.some.injEq]
        rw [← h2]
        rfl
      simp [Instr.index, asIntOf, run_underlying hu, e]
    · simp at h
  · simp at h

def aExtract (i : Nat) : AVal → Option AVal
  | .tuple l => l[i]?
  | _ => none
theorem extract_ok {i : Nat} {x y : AVal} {v : Value} (hx : VRel ρ x v) (h : aExtract i x = some y) : ∃ u, (Instr.extract v i).run P w = .ok u w ∧ VRel ρ y u := by
  unfold aExtract at h
  split at h
  · simp only [VRel] at hx
    obtain ⟨vs, rfl, hl⟩ := hx
    obtain ⟨u, h1, h2⟩ := hl.nth _ _ h
    rw [Array.getElem?_toList] at h1
    exact ⟨u, by simp [Instr.extract, h1], h2⟩
  · simp at h

/-! ### strings, conversions -/
/-- a bound: a number from 0 to y -/
def bd (x : AVal) (y : Nat) : Option Nat :=
  match x with
  | .int _ (.ofNat n) => bif Nat.ble n y then some n else none
  | _ => none
theorem bd_ok {x : AVal} {v : Value} {y n : Nat} (hx : VRel ρ x v) (h : bd x y = some n) (code : BoundsCode) : n ≤ y ∧ (Instr.sliceBound v y code).run P w = .ok n w := by
  unfold bd at h
  split at h
  · rename_i k m
    cases hb : Nat.ble m y with
    | false => rw [hb] at h; simp at h
    | true =>
      rw [hb] at h
      simp only [cond_true, Option.some.injEq] at h
      subst h
      have := Nat.le_of_ble_eq_true hb
      simp only [VRel] at hx
      subst hx
      exact ⟨this, by simp [Instr.sliceBound, asIntOf, this]⟩
  · simp at h
def bdO (x : Option AVal) (y d : Nat) : Option Nat :=
  match x with
  | none => some d
  | some x => bd x y
def ORelV (ρ : Pl) : Option AVal → Option Value → Prop
  | none, v => v = none
  | some x, v => ∃ u, v = some u ∧ VRel ρ x u

/-- bounds of a slice expression: of a row of len elements, with room for at least kc -/
def aBnd (len kc : Nat) (lo hi mx : Option AVal) : Option (Nat × Nat × Option Nat) :=
  match mx with
  | none =>
    match bdO hi kc len with
    | some h => match bdO lo h 0 with
      | some l => some (l, h, none)
      | none => none
    | none => none
  | some mx =>
    match hi with
    | none => none
    | some hi =>
      match bd mx kc with
      | some m => match bd hi m with
        | some h => match bdO lo h 0 with
          | some l => some (l, h, some m)
          | none => none
        | none => none
      | none => none

theorem bd_le {x : AVal} {v : Value} {y n c : Nat} (hx : VRel ρ x v) (h : bd x y = some n) (hc : y ≤ c) (code : BoundsCode) : n ≤ y ∧ (Instr.sliceBound v c code).run P w = .ok n w := by
  have h1 : bd x c = some n := by
    unfold bd at h ⊢
    split at h
    · rename_i k m
      cases hb : Nat.ble m y with
      | false => rw [hb] at h; simp at h
      | true =>
        rw [hb] at h
        have := Nat.le_of_ble_eq_true hb
        rw [show Nat.ble m c = true by rw [Nat.ble_eq]; omega]
        exact h
    · simp at h
  exact ⟨(bd_ok (P := P) (w := w) hx h code).1, (bd_ok hx h1 code).2⟩
theorem bnd_ok {isSlice : Bool} {len kc cap : Nat} (hc : kc ≤ cap) {lo hi mx : Option AVal} {lv hv mv : Option Value} (hl : ORelV ρ lo lv) (hh : ORelV ρ hi hv) (hm : ORelV ρ mx mv) {l h : Nat} {m : Option Nat}
    (he : aBnd len kc lo hi mx = some (l, h, m)) :
    (Instr.sliceBounds isSlice len cap lv hv mv).run P w = .ok (l, h, m.getD cap) w ∧ l ≤ h ∧ (h ≤ kc ∨ h = len) ∧ (∀ q, m = some q → h ≤ q ∧ q ≤ kc) := by
  have hlo : ∀ h, bdO lo h 0 = some l → l ≤ h ∧ ∀ c, (match lv with | some v => Instr.sliceBound v h c | none => Pure.pure 0 : Sem Nat).run P w = .ok l w := by
    intro h hb
    cases lo with
    | none =>
      simp only [ORelV] at hl; subst hl
      simp only [bdO, Option.some.injEq] at hb; subst hb
      exact ⟨Nat.zero_le _, fun _ => rfl⟩
    | some q =>
      simp only [ORelV] at hl
      obtain ⟨u, rfl, hq⟩ := hl
      exact ⟨(bd_ok (P := P) (w := w) hq hb .sliceB).1, fun c => (bd_ok hq hb c).2⟩
  unfold aBnd at he
  cases mx with
  | none =>
    simp only [ORelV] at hm
    subst hm
    simp only at he
    split at he
    · rename_i h' hb
      split at he
      · rename_i l' hb'
        simp only [Option.some.injEq, Prod.mk.injEq] at he
        obtain ⟨rfl, rfl, rfl⟩ := he
        obtain ⟨q1, q2⟩ := hlo _ hb'
        have q2 := q2 .sliceB
        cases hi with
        | none =>
          simp only [ORelV] at hh; subst hh
          simp only [bdO, Option.some.injEq] at hb; subst hb
          refine ⟨?_, q1, .inr rfl, by simp⟩
          cases lv <;> simp_all [Instr.sliceBounds]
        | some hi =>
          simp only [ORelV] at hh
          obtain ⟨u, rfl, hq⟩ := hh
          have q3 := bd_le (P := P) (w := w) hq hb hc (if isSlice = true then .sliceAcap else .sliceAlen)
          refine ⟨?_, q1, .inl q3.1, by simp⟩
          cases lv <;> simp_all [Instr.sliceBounds]
      · simp at he
    · simp at he
  | some mx =>
    simp only [ORelV] at hm
    obtain ⟨mu, rfl, hmq⟩ := hm
    cases hi with
    | none => simp at he
    | some hi =>
      simp only [ORelV] at hh
      obtain ⟨u, rfl, hq⟩ := hh
      simp only at he
      split at he
      · rename_i m' hbm
        split at he
        · rename_i h' hb
          split at he
          · rename_i l' hb'
            simp only [Option.some.injEq, Prod.mk.injEq] at he
            obtain ⟨rfl, rfl, rfl⟩ := he
            obtain ⟨q1, q2⟩ := hlo _ hb'
            have q2 := q2 .slice3C
            have q3 := bd_ok (P := P) (w := w) hq hb .slice3B
            have q4 := bd_le (P := P) (w := w) hmq hbm hc (if isSlice = true then .slice3Acap else .slice3Alen)
            refine ⟨?_, q1, .inl (by omega), fun q hq => by simp only [Option.some.injEq] at hq; omega⟩
            cases lv <;> simp_all [Instr.sliceBounds]
          · simp at he
        · simp at he
      · simp at he

def aSlStr (x : AVal) (lo hi : Option AVal) : Option AVal :=
  match x with
  | .str s => match aBnd s.length s.length lo hi none with
    | some (l, h, _) => some (.str ((s.drop l).take (h - l)))
    | none => none
  | _ => none
theorem str_extract (s : List UInt8) (l h : Nat) : (strOf s).extract l h = strOf ((s.drop l).take (h - l)) := by
  have : ((strOf s).extract l h).data.toList = (strOf ((s.drop l).take (h - l))).data.toList := by
    rw [Lib.extract_data]; simp [strOf]
  cases hx : (strOf s).extract l h with | mk d =>
  rw [hx] at this
  unfold strOf at this ⊢
  congr 1
  exact Array.toList_inj.1 (by simpa using this)
theorem slStr_ok {t : TypeId} (hu : P.underlying t = some .string) {x y : AVal} {v : Value} {lo hi : Option AVal} {lv hv : Option Value} (hx : VRel ρ x v) (hl : ORelV ρ lo lv) (hh : ORelV ρ hi hv)
    (h : aSlStr x lo hi = some y) : ∃ u, (Instr.slice t v lv hv none).run P w = .ok u w ∧ VRel ρ y u := by
  unfold aSlStr at h
  split at h
  · rename_i s
    split at h
    · rename_i l hn m hb
      simp only [Option.some.injEq] at h
      subst h
      simp only [VRel] at hx
      subst hx
      have e2 : (strOf s).size = s.length := by simp [strOf, ByteArray.size]
      obtain ⟨q1, _⟩ := bnd_ok (P := P) (w := w) (isSlice := false) (mx := none) (mv := none) (Nat.le_refl _) hl hh rfl hb
      refine ⟨.string ((strOf s).extract l hn), ?_, by simp only [VRel]; rw [str_extract]⟩
      simp [Instr.slice, run_underlying hu, e2, q1]
    · simp at h
  · simp at h

/-- a slice of a slice -/
def aSl (size : Nat) (x : AVal) (lo hi mx : Option AVal) : Option AVal :=
  match x with
  | .slice none len r =>
    match aBnd 0 0 lo hi mx with
    | some _ => some (.slice none len r)
    | none => none
  | .slice (some a) len (.known c) =>
    match aBnd len c lo hi mx with
    | some (l, h, m) => bif Nat.beq (m.getD c) l then some (.slice (some a) (h - l) (.known (m.getD c - l))) else some (.slice (some ⟨a.b, a.lim, a.o + l * size⟩) (h - l) (.known (m.getD c - l)))
    | none => none
  | .slice (some a) len (.open_ sz) =>
    bif Nat.beq sz size then
      match aBnd len ((a.lim - a.o) / size) lo hi mx with
      | some (l, h, none) => bif Nat.ble (a.o + h * size) a.lim then some (.slice (some ⟨a.b, a.lim, a.o + l * size⟩) (h - l) (.open_ sz)) else none
      | _ => none
    else none
  | _ => none
theorem sl_ok {t elem : TypeId} {agg : Bool} {size : Nat} (hu : P.underlying t = some (.slice elem)) (T : Ty P elem agg size) {x y : AVal} {v : Value} {lo hi mx : Option AVal} {lv hv mv : Option Value}
    (hx : VRel ρ x v) (hl : ORelV ρ lo lv) (hh : ORelV ρ hi hv) (hm : ORelV ρ mx mv) (h : aSl size x lo hi mx = some y) : ∃ u, (Instr.slice t v lv hv mv).run P w = .ok u w ∧ VRel ρ y u := by
  unfold aSl at h
  split at h
  · rename_i len r
    split at h
    · rename_i z hb
      obtain ⟨l, hn, m⟩ := z
      simp only [Option.some.injEq] at h
      subst h
      have hx' := hx
      simp only [VRel] at hx
      obtain ⟨rfl, hr, rfl⟩ := hx
      obtain ⟨q1, q2, q3, q4⟩ := bnd_ok (P := P) (w := w) (isSlice := true) (Nat.le_refl 0) hl hh hm hb
      refine ⟨_, ?_, hx'⟩
      have : hn = 0 := by omega
      subst this
      have : l = 0 := by omega
      subst this
      have : m.getD 0 = 0 := by
        cases m with
        | none => rfl
        | some q => have := (q4 q rfl).2; simp; omega
      rw [this] at q1
      simp [Instr.slice, run_underlying hu, q1, T.size]
    · simp at h
  · rename_i a len c
    split at h
    · rename_i l hn m hb
      simp only [VRel] at hx
      obtain ⟨L, h1, h2, h3⟩ := hx
      simp only [SliceRel] at h3
      obtain ⟨h3, rfl⟩ := h3
      obtain ⟨q1, q2, q3, q4⟩ := bnd_ok (P := P) (w := w) (isSlice := true) (Nat.le_refl c) hl hh hm hb
      have q5 : hn ≤ m.getD c := by
        cases m with
        | none => simp; omega
        | some q => simpa using (q4 q rfl).1
      cases hb : Nat.beq (m.getD c) l with
      | true =>
        rw [hb] at h
        simp only [cond_true, Option.some.injEq] at h
        subst h
        have := Nat.eq_of_beq_eq_true hb
        refine ⟨.slice (some ⟨L.c, a.o - L.sh, none⟩) (hn - l) (m.getD c - l), ?_, ?_⟩
        · simp only [Instr.slice, Sem.run_bind, run_underlying hu, Result.andThen_ok, q1, T.size, this, if_true, Sem.run_pure]
        · simp only [VRel]
          exact ⟨L, h1, h2, by omega, rfl⟩
      | false =>
        rw [hb] at h
        simp only [cond_false, Option.some.injEq] at h
        subst h
        have hne : ¬ m.getD c = l := fun e => by rw [e, Nat.beq_refl] at hb; simp at hb
        refine ⟨.slice (some ⟨L.c, a.o - L.sh + l * size, none⟩) (hn - l) (m.getD c - l), ?_, ?_⟩
        · simp only [Instr.slice, Sem.run_bind, run_underlying hu, Result.andThen_ok, q1, T.size, if_neg hne, Sem.run_pure, Option.map_some, add_none]
        · simp only [VRel]
          refine ⟨L, h1, by first | omega | (simp only; omega), ?_⟩
          simp only [SliceRel]
          refine ⟨by omega, ?_⟩
          congr 3
          omega
    · simp at h
  · rename_i a len sz
    cases hsz : Nat.beq sz size with
    | false => rw [hsz] at h; simp at h
    | true =>
      rw [hsz] at h
      have := Nat.eq_of_beq_eq_true hsz
      subst this
      simp only [cond_true] at h
      split at h
      · rename_i l hn hb
        cases hr : Nat.ble (a.o + hn * sz) a.lim with
        | false => rw [hr] at h; simp at h
        | true =>
          rw [hr] at h
          simp only [cond_true, Option.some.injEq] at h
          subst h
          have hr := Nat.le_of_ble_eq_true hr
          simp only [VRel] at hx
          obtain ⟨L, h1, h2, h3⟩ := hx
          simp only [SliceRel] at h3
          obtain ⟨c, off, rfl, h4, h5, h6⟩ := h3
          have hkc : (a.lim - a.o) / sz ≤ c := by
            rcases h6 with ⟨h6, h7, _⟩ | ⟨_, _, h6⟩
            · subst h6
              rw [Nat.div_le_iff_le_mul_add_pred h5]
              rw [Nat.mul_comm] at h7
              omega
            · rw [show a.lim - a.o = 0 by omega]; simp
          obtain ⟨q1, q2, q3, q4⟩ := bnd_ok (P := P) (w := w) (isSlice := true) hkc hl hh hm hb
          simp only [Option.getD_none] at q1
          have hlh : l * sz ≤ hn * sz := Nat.mul_le_mul_right _ q2
          by_cases hcl : c = l
          · subst hcl
            refine ⟨.slice (some ⟨L.c, off, none⟩) (hn - c) (c - c), ?_, ?_⟩
            · simp only [Instr.slice, Sem.run_bind, run_underlying hu, Result.andThen_ok, q1, T.size, if_true, Sem.run_pure]
            · simp only [VRel]
              refine ⟨L, h1, by first | omega | (simp only; omega), ?_⟩
              simp only [SliceRel]
              refine ⟨c - c, off, rfl, by omega, h5, .inr ⟨by omega, by omega, ?_⟩⟩
              rcases h6 with ⟨h6, h7, _⟩ | ⟨_, h7, h6⟩
              · omega
              · first | omega | (simp only; omega)
          · refine ⟨.slice (some ⟨L.c, off + l * sz, none⟩) (hn - l) (c - l), ?_, ?_⟩
            · simp only [Instr.slice, Sem.run_bind, run_underlying hu, Result.andThen_ok, q1, T.size, if_neg hcl, Sem.run_pure, Option.map_some, add_none]
            · simp only [VRel]
              refine ⟨L, h1, by first | omega | (simp only; omega), ?_⟩
              simp only [SliceRel]
              have hlc : l ≤ c := by omega
              have hms : (c - l) * sz + l * sz = c * sz := by rw [← Nat.add_mul, Nat.sub_add_cancel hlc]
              refine ⟨c - l, off + l * sz, rfl, by omega, h5, .inl ?_⟩
              rcases h6 with ⟨h6, h7, h8⟩ | ⟨h6, h7, _⟩
              · refine ⟨by omega, by omega, by omega⟩
              · omega
      · simp at h
  · simp at h
end
end Go.Abs
