/- The abstract machine, part 7: literals, make, copy, len, conversions, equality. -/
import Derived.Test.YtndeemjhengoiaaA6
namespace Go.Abs
section
variable {P : Program} {Prot : Gh} {w0 : World} {ρ : Pl} {H H' : AHeap} {w : World}

def splice (l : List AVal) (off : Nat) (xs : List AVal) : List AVal := l.take off ++ (xs ++ l.drop (off + xs.length))
def aFill : List AVal → List (Nat × Nat × AVal) → Option (List AVal)
  | cells, [] => some cells
  | cells, (off, size, v) :: r => bif Nat.beq v.cells.length size && Nat.ble (off + size) cells.length then aFill (splice cells off v.cells) r else none

theorem foldl_set (off : Nat) : ∀ (l : List Value) (k : Nat) (C : Array Value), off + k + l.length ≤ C.size →
    ((l.zipIdx k).foldl (fun (cs : Array Value) (p : Value × Nat) => cs.setIfInBounds (off + p.2) p.1) C).size = C.size ∧
    ∀ j, ((l.zipIdx k).foldl (fun (cs : Array Value) (p : Value × Nat) => cs.setIfInBounds (off + p.2) p.1) C)[j]? = if off + k ≤ j ∧ j < off + k + l.length then l[j - (off + k)]? else C[j]? := by
  intro l
  induction l with
  | nil => intro k C _; refine ⟨rfl, fun j => ?_⟩; rw [if_neg (by simp only [List.length_nil]; omega)]; rfl
  | cons v l ih =>
    intro k C hb
    simp only [List.length_cons] at hb
    simp only [List.zipIdx_cons, List.foldl_cons]
    obtain ⟨h1, h2⟩ := ih (k + 1) (C.setIfInBounds (off + k) v) (by rw [Array.size_setIfInBounds]; omega)
    refine ⟨by rw [h1, Array.size_setIfInBounds], fun j => ?_⟩
    rw [h2 j]
    simp only [List.length_cons]
    by_cases c1 : off + (k + 1) ≤ j ∧ j < off + (k + 1) + l.length
    · rw [if_pos c1, if_pos (by omega), show j - (off + k) = (j - (off + (k + 1))) + 1 by omega]
      simp
    · rw [if_neg c1]
      by_cases c2 : j = off + k
      · subst c2
        rw [if_pos (by omega)]
        have : off + k < C.size := by omega
        simp [this]
      · rw [if_neg (by omega), Array.getElem?_setIfInBounds_ne (by omega)]

theorem splice_rel {l xs : List AVal} {C : Array Value} {vs : Array Value} {off : Nat} (hl : VRels ρ l C.toList) (hv : VRels ρ xs vs.toList) (hb : off + xs.length ≤ l.length) :
    VRels ρ (splice l off xs) (vs.zipIdx.foldl (fun (cs : Array Value) (p : Value × Nat) => cs.setIfInBounds (off + p.2) p.1) C).toList := by
  have e1 := VRels.len hl
  have e2 := VRels.len hv
  simp only [Array.length_toList] at e1 e2
  have hf : vs.zipIdx.foldl (fun (cs : Array Value) (p : Value × Nat) => cs.setIfInBounds (off + p.2) p.1) C = (vs.toList.zipIdx 0).foldl (fun (cs : Array Value) (p : Value × Nat) => cs.setIfInBounds (off + p.2) p.1) C := by
    rw [← Array.foldl_toList, Array.toList_zipIdx]
  rw [hf]
  obtain ⟨h1, h2⟩ := foldl_set off vs.toList 0 C (by simp; omega)
  refine VRels.of_nth _ _ (by simp only [Array.length_toList, h1, splice, List.length_append, List.length_take, List.length_drop]; omega) fun i x hx => ?_
  rw [Array.getElem?_toList, h2 i]
  simp only [Array.length_toList]
  unfold splice at hx
  by_cases c1 : off + 0 ≤ i ∧ i < off + 0 + vs.size
  · rw [if_pos c1]
    rw [List.getElem?_append_right (by simp; omega), List.getElem?_append_left (by simp; omega)] at hx
    have : i - (l.take off).length = i - (off + 0) := by simp; omega
    rw [this] at hx
    exact hv.nth _ _ hx
  · rw [if_neg c1, ← Array.getElem?_toList]
    refine hl.nth _ _ ?_
    rw [← hx]
    by_cases c2 : i < off
    · rw [List.getElem?_append_left (by simp; omega), List.getElem?_take, if_pos c2]
    · rw [List.getElem?_append_right (by simp; omega), List.getElem?_append_right (by simp; omega), List.getElem?_drop]
      congr 1
      simp
      omega

def PartsRel (ρ : Pl) (place : Nat → Option (Nat × Nat)) : List (Nat × Nat × AVal) → List (Nat × Value) → Prop
  | [], ps => ps = []
  | (off, size, x) :: l, ps => ∃ i v r, ps = (i, v) :: r ∧ place i = some (off, size) ∧ VRel ρ x v ∧ PartsRel ρ place l r

theorem fill_ok {place : Nat → Option (Nat × Nat)} : ∀ {ps : List (Nat × Nat × AVal)} {qs : List (Nat × Value)} {cells out : List AVal} {C : Array Value}, PartsRel ρ place ps qs → VRels ρ cells C.toList →
    aFill cells ps = some out → ∃ C', Instr.fill place C qs = some C' ∧ VRels ρ out C'.toList := by
  intro ps
  induction ps with
  | nil =>
    intro qs cells out C hp hc h
    simp only [PartsRel] at hp
    subst hp
    simp only [aFill, Option.some.injEq] at h
    subst h
    exact ⟨C, rfl, hc⟩
  | cons p ps ih =>
    intro qs cells out C hp hc h
    obtain ⟨off, size, x⟩ := p
    simp only [PartsRel] at hp
    obtain ⟨i, v, r, rfl, hpl, hx, hr⟩ := hp
    simp only [aFill] at h
    cases hg : (Nat.beq x.cells.length size && Nat.ble (off + size) cells.length) with
    | false => rw [hg] at h; simp at h
    | true =>
      rw [hg] at h
      simp only [Bool.and_eq_true, Nat.ble_eq] at hg
      obtain ⟨g1, g2⟩ := hg
      have g1 := Nat.eq_of_beq_eq_true g1
      simp only [cond_true] at h
      have hxc := hx.cells
      have e1 := VRels.len hxc
      have e2 := VRels.len hc
      simp only [Array.length_toList] at e1 e2
      obtain ⟨C', q1, q2⟩ := ih hr (splice_rel hc hxc (by omega)) h
      refine ⟨C', ?_, q2⟩
      simp only [Instr.fill, hpl]
      rw [if_neg (by simp; omega)]
      exact q1

/-- constants -/
def absV : Value → Option AVal
  | .bool b => some (.bool b)
  | .int k n => some (.int k n)
  | .string s => some (.str s.data.toList)
  | .pointer none => some (.ptr none)
  | .slice none 0 0 => some (.slice none 0 (.known 0))
  | .map none => some (.map none)
  | .nilFunc => some .nilFunc
  | .nilIface => some .nilIface
  | _ => none
def absVs : List Value → Option (List AVal)
  | [] => some []
  | v :: r => match absV v, absVs r with
    | some x, some l => some (x :: l)
    | _, _ => none
def absC : Value → Option AVal
  | .agg cs => match absVs cs.toList with
    | some l => some (.agg l)
    | none => none
  | .tuple cs => match absVs cs.toList with
    | some l => some (.tuple l)
    | none => none
  | v => absV v
theorem absV_ok {v : Value} {x : AVal} (h : absV v = some x) : VRel ρ x v := by
  unfold absV at h
  split at h <;> simp only [Option.some.injEq, reduceCtorEq] at h <;> subst h <;> first
    | rfl
    | (simp [VRel]; done)
theorem absVs_ok : ∀ {vs : List Value} {l : List AVal}, absVs vs = some l → VRels ρ l vs := by
  intro vs
  induction vs with
  | nil => intro l h; simp only [absVs, Option.some.injEq] at h; subst h; simp [VRels]
  | cons v r ih =>
    intro l h
    simp only [absVs] at h
    split at h
    · rename_i x l' h1 h2
      simp only [Option.some.injEq] at h
      subst h
      simp only [VRels]
      exact ⟨v, r, rfl, absV_ok h1, ih h2⟩
    · simp at h
theorem absC_ok {v : Value} {x : AVal} (h : absC v = some x) : VRel ρ x v := by
  unfold absC at h
  split at h
  · split at h
    · rename_i l hl
      simp only [Option.some.injEq] at h
      subst h
      simp only [VRel]
      exact ⟨_, rfl, absVs_ok hl⟩
    · simp at h
  · split at h
    · rename_i l hl
      simp only [Option.some.injEq] at h
      subst h
      simp only [VRel]
      exact ⟨_, rfl, absVs_ok hl⟩
    · simp at h
  · exact absV_ok h

/-- the zero of a type -/
def zeroOf (P : Program) (t : TypeId) : Option (List AVal) :=
  match P.info? t with
  | some i => match i.zero with
    | some z => absVs z.cells.toList
    | none => none
  | none => none
theorem zero_of {t : TypeId} {l : List AVal} (h : zeroOf P t = some l) : ∃ z, (∀ W, (zeroValue t).run P W = .ok z W) ∧ ∀ ρ, VRels ρ l z.cells.toList := by
  unfold zeroOf at h
  split at h
  · rename_i i hi
    split at h
    · rename_i z hz
      exact ⟨z, fun W => by simp [zeroValue, run_typeInfo W hi, hz], fun ρ => absVs_ok h⟩
    · simp at h
  · simp at h

theorem alloc_ok (R : Rel Prot w0 ρ H w) {t : TypeId} {l : List AVal} (h : zeroOf P t = some l) : GoodV P Prot w0 ρ w (Instr.alloc t true (.tuple #[])) (oNew H l).1 (oNew H l).2 := by
  obtain ⟨z, h1, h2⟩ := zero_of h
  obtain ⟨ρ', w', q1, q2, q3, q4⟩ := newRow_ok (P := P) R t (h2 ρ)
  refine ⟨ρ', w', .pointer (some ⟨w.heap.size, 0, none⟩), q1, ?_, q3, ?_⟩
  · simp only [Instr.alloc, Sem.run_bind, h1, Result.andThen_ok, newVar, q2]; rfl
  · simp only [oNew, VRel]; exact ⟨_, q4, Nat.zero_le _, rfl⟩

/-- repeated zeros: n elements -/
def rep (z : List AVal) : Nat → List AVal
  | 0 => []
  | n + 1 => z ++ rep z n
theorem rep_len (z : List AVal) : ∀ n, (rep z n).length = n * z.length
  | 0 => by simp [rep]
  | n + 1 => by simp only [rep, List.length_append, rep_len z n, Nat.add_mul]; omega
theorem rep_get (z : List AVal) : ∀ (n i : Nat), i < n * z.length → (rep z n)[i]? = z[i % z.length]?
  | 0, i, h => by omega
  | n + 1, i, h => by
    simp only [rep]
    by_cases hi : i < z.length
    · rw [List.getElem?_append_left hi, Nat.mod_eq_of_lt hi]
    · have hle : z.length ≤ i := by omega
      rw [List.getElem?_append_right hle, rep_get z n _ (by rw [Nat.add_mul] at h; omega), Nat.mod_eq_sub_mod hle]
def madeOf (z : Array Value) (n : Nat) : Array Value := (Array.range n).map (z[· % z.size]!)
theorem made_rel {z : List AVal} {Z : Array Value} (h : VRels ρ z Z.toList) (c : Nat) : VRels ρ (rep z c) (madeOf Z (c * z.length)).toList := by
  have hl := VRels.len h
  simp only [Array.length_toList] at hl
  refine VRels.of_nth _ _ (by simp [rep_len, madeOf]) fun i x hx => ?_
  have hi : i < c * z.length := by
    have := (List.getElem?_eq_some_iff.1 hx).1
    rwa [rep_len] at this
  rw [rep_get _ _ _ hi] at hx
  obtain ⟨v, h1, h2⟩ := h.nth _ _ hx
  refine ⟨v, ?_, h2⟩
  rw [Array.getElem?_toList] at h1
  have hz : 0 < Z.size := by
    rcases Nat.eq_zero_or_pos z.length with e | e
    · rw [e] at hi; omega
    · omega
  have hm : i % Z.size < Z.size := Nat.mod_lt _ hz
  rw [hl, Array.getElem?_eq_getElem hm] at h1
  simp only [Option.some.injEq] at h1
  simp only [madeOf, Array.getElem?_toList, Array.getElem?_map]
  rw [Array.getElem?_range, if_pos hi]
  simp only [Option.map_some, Option.some.injEq]
  rw [getElem!_pos Z _ hm]
  exact h1

def natOf : AVal → Option Nat
  | .int .i64 (Int.ofNat n) => bif Nat.ble n 9223372036854775807 then some n else none
  | _ => none
theorem natOf_ok {x : AVal} {n : Nat} (h : natOf x = some n) : x = .int .i64 (n : Int) ∧ n ≤ 9223372036854775807 := by
  unfold natOf at h
  split at h
  · rename_i m
    cases hb : Nat.ble m 9223372036854775807 with
    | false => rw [hb] at h; simp at h
    | true =>
      rw [hb] at h
      simp only [cond_true, Option.some.injEq] at h
      subst h
      exact ⟨rfl, Nat.le_of_ble_eq_true hb⟩
  · simp at h
theorem wrap_nat {n : Nat} (h : n ≤ 9223372036854775807) : IntKind.i64.wrap (n : Int) = n := by
  simp [IntKind.wrap, IntKind.signed, IntKind.bits]; omega

def aMake (bytes : Nat) (z : List AVal) (H : AHeap) (l c : AVal) : Option (AVal × AHeap) :=
  match natOf l, natOf c with
  | some l, some c =>
    bif Nat.ble l c && Nat.ble (bytes * c) 281474976710656 then some (.slice (some ⟨H.next, (rep z c).length, 0⟩) l (.known c), H.push (.cells (rep z c) 0 false)) else none
  | _, _ => none
theorem make_ok (R : Rel Prot w0 ρ H w) {sT elem : TypeId} {size bytes : Nat} {z : List AVal} (hu : P.underlying sT = some (.slice elem)) (E : Elem P elem size bytes) (hz : zeroOf P elem = some z)
    {l c y : AVal} {lv cv : Value} (hl : VRel ρ l lv) (hc : VRel ρ c cv) (h : aMake bytes z H l c = some (y, H')) : GoodV P Prot w0 ρ w (Instr.makeSlice sT lv cv) y H' := by
  unfold aMake at h
  split at h
  · rename_i ln cn hln hcn
    obtain ⟨rfl, b1⟩ := natOf_ok hln
    obtain ⟨rfl, b2⟩ := natOf_ok hcn
    cases hg : (Nat.ble ln cn && Nat.ble (bytes * cn) 281474976710656) with
    | false => rw [hg] at h; simp at h
    | true =>
      rw [hg] at h
      simp only [Bool.and_eq_true, Nat.ble_eq] at hg
      simp only [cond_true, Option.some.injEq, Prod.mk.injEq] at h
      obtain ⟨rfl, rfl⟩ := h
      simp only [VRel] at hl hc
      subst hl hc
      obtain ⟨i, zv, hi, rfl, rfl, hzero, hzs⟩ := E.ex
      obtain ⟨zv', hzr, hzl⟩ := zero_of hz
      have hzv : zv' = zv := by
        have := hzr w
        simp [zeroValue, run_typeInfo w hi, hzero] at this
        exact this.symm
      subst hzv
      have hlen := VRels.len (hzl ρ)
      simp only [Array.length_toList, hzs] at hlen
      obtain ⟨ρ', w', q1, q2, q3, q4⟩ := newRow_ok (P := P) R elem (made_rel (hzl ρ) cn)
      have hnb : ¬ ((281474976710656 : Int) < (i.bytes : Int) * (cn : Int)) := by
        have : (i.bytes * cn : Nat) ≤ 281474976710656 := hg.2
        rw [← Int.natCast_mul]; omega
      have hcells : madeOf zv'.cells (cn * i.size) = madeOf zv'.cells (cn * z.length) := by rw [hlen]
      refine ⟨ρ', w', .slice (some ⟨w.heap.size, 0, none⟩) ln cn, q1, ?_, q3, ?_⟩
      · have hsz : ∀ W, (sizeOf elem).run P W = .ok i.size W := fun W => by simp [sizeOf, run_typeInfo W hi]
        have e1 : ¬ ((cn : Int) < 0) := by omega
        have e2 : ¬ ((ln : Int) < 0) := by omega
        have e3 : ¬ ((cn : Int) < (ln : Int)) := by omega
        by_cases hn : cn * i.size = 0
        · have hm : madeOf zv'.cells (cn * z.length) = #[] := by rw [← hcells, hn]; simp [madeOf]
          rw [hm] at q2
          simp only [Instr.makeSlice, Sem.run_bind, run_underlying hu, Result.andThen_ok, asInt, asIntOf, Sem.run_pure, run_typeInfo _ hi, wrap_nat b1, wrap_nat b2]
          simp [e1, e2, e3, hnb, hsz, hn, show Array.range 0 = #[] by simp, q2]
        · simp only [Instr.makeSlice, Sem.run_bind, run_underlying hu, Result.andThen_ok, asInt, asIntOf, Sem.run_pure, run_typeInfo _ hi, wrap_nat b1, wrap_nat b2]
          rw [← hcells] at q2
          unfold madeOf at q2
          simp [e1, e2, e3, hnb, hsz, hn, hzr, q2]
      · simp only [VRel]
        exact ⟨_, q4, Nat.zero_le _, hg.1, rfl⟩
  · simp at h

/-! ### literals -/
def aBuildSl (len : Nat) (z : List AVal) (H : AHeap) (parts : List (Nat × Nat × AVal)) : Option (AVal × AHeap) :=
  match aFill (rep z len) parts with
  | some xs => some (.slice (some ⟨H.next, xs.length, 0⟩) len (.known len), H.push (.cells xs 0 false))
  | none => none
theorem buildSl_ok (R : Rel Prot w0 ρ H w) {sT elem : TypeId} {size : Nat} {agg : Bool} {z : List AVal} (hu : P.underlying sT = some (.slice elem)) (T : Ty P elem agg size) (hz : zeroOf P elem = some z)
    (hzl : z.length = size) {len : Nat} (hsm : len * size ≤ 16777216) {ps : List (Nat × Nat × AVal)} {qs : Array (Nat × Value)} (hp : PartsRel ρ (fun i => some (i * size, size)) ps qs.toList) {y : AVal}
    (h : aBuildSl len z H ps = some (y, H')) : GoodV P Prot w0 ρ w (Instr.buildSlice sT len qs) y H' := by
  unfold aBuildSl at h
  split at h
  · rename_i xs hxs
    simp only [Option.some.injEq, Prod.mk.injEq] at h
    obtain ⟨rfl, rfl⟩ := h
    obtain ⟨zv, hzr, hzl'⟩ := zero_of hz
    have hlen := VRels.len (hzl' ρ)
    simp only [Array.length_toList] at hlen
    obtain ⟨C, f1, f2⟩ := fill_ok hp (made_rel (hzl' ρ) len) hxs
    rw [hzl] at f1
    obtain ⟨ρ', w', q1, q2, q3, q4⟩ := newRow_ok (P := P) R elem f2
    have hsm' : ¬ 16777216 < len * size := by omega
    refine ⟨ρ', w', .slice (some ⟨w.heap.size, 0, none⟩) len len, q1, ?_, q3, ?_⟩
    · by_cases hn : len * size = 0
      · have hm : madeOf zv.cells (len * size) = #[] := by rw [hn]; simp [madeOf]
        rw [hm] at f1
        simp only [Instr.buildSlice, Sem.run_bind, run_underlying hu, Result.andThen_ok, T.size]
        simp [hn, show Array.range 0 = #[] by simp, f1, q2]
      · unfold madeOf at f1
        simp only [Instr.buildSlice, Sem.run_bind, run_underlying hu, Result.andThen_ok, T.size]
        simp [hsm', hn, hzr, f1, q2]
    · simp only [VRel]
      exact ⟨_, q4, Nat.zero_le _, Nat.le_refl _, rfl⟩
  · simp at h

def aBuild (z : List AVal) (parts : List (Nat × Nat × AVal)) : Option AVal :=
  match aFill z parts with
  | some xs => some (.agg xs)
  | none => none
theorem buildArr_ok {t elem : TypeId} {n size : Nat} {agg : Bool} {z : List AVal} (hu : P.underlying t = some (.array n elem)) (T : Ty P elem agg size) (hz : zeroOf P t = some z)
    {ps : List (Nat × Nat × AVal)} {qs : Array (Nat × Value)} (hp : PartsRel ρ (fun i => some (i * size, size)) ps qs.toList) {y : AVal}
    (h : aBuild z ps = some y) : ∃ u, (Instr.build t qs).run P w = .ok u w ∧ VRel ρ y u := by
  unfold aBuild at h
  split at h
  · rename_i xs hxs
    simp only [Option.some.injEq] at h
    subst h
    obtain ⟨zv, hzr, hzl'⟩ := zero_of hz
    obtain ⟨C, f1, f2⟩ := fill_ok hp (hzl' ρ) hxs
    refine ⟨.agg C, ?_, by simp only [VRel]; exact ⟨C, rfl, f2⟩⟩
    simp only [Instr.build, Sem.run_bind, hzr, Result.andThen_ok, run_underlying hu, T.size]
    simp [f1]
  · simp at h

/-- the places of a struct's fields -/
def placesOf (P : Program) : List Field → Option (List (Nat × Nat))
  | [] => some []
  | f :: r => match tyOf P f.type, placesOf P r with
    | some (_, n), some l => some ((f.offset, n) :: l)
    | _, _ => none
theorem places_run : ∀ {fs : List Field} {l : List (Nat × Nat)}, placesOf P fs = some l → ∀ W, (fs.mapM (fun f => do pure (f.offset, ← sizeOf f.type)) : Sem (List (Nat × Nat))).run P W = .ok l W := by
  intro fs
  induction fs with
  | nil => intro l h W; simp only [placesOf, Option.some.injEq] at h; subst h; rfl
  | cons f r ih =>
    intro l h W
    simp only [placesOf] at h
    split at h
    · rename_i a n l' h1 h2
      simp only [Option.some.injEq] at h
      subst h
      simp only [List.mapM_cons, Sem.run_bind, (ty_of h1).size, Result.andThen_ok, Sem.run_pure, ih h2]
    · simp at h
theorem buildStr_ok {t : TypeId} {fields : Array Field} {pl : List (Nat × Nat)} {z : List AVal} (hu : P.underlying t = some (.struct fields)) (hpl : placesOf P fields.toList = some pl) (hz : zeroOf P t = some z)
    {ps : List (Nat × Nat × AVal)} {qs : Array (Nat × Value)} (hp : PartsRel ρ (fun i => pl[i]?) ps qs.toList) {y : AVal}
    (h : aBuild z ps = some y) : ∃ u, (Instr.build t qs).run P w = .ok u w ∧ VRel ρ y u := by
  unfold aBuild at h
  split at h
  · rename_i xs hxs
    simp only [Option.some.injEq] at h
    subst h
    obtain ⟨zv, hzr, hzl'⟩ := zero_of hz
    obtain ⟨C, f1, f2⟩ := fill_ok hp (hzl' ρ) hxs
    refine ⟨.agg C, ?_, by simp only [VRel]; exact ⟨C, rfl, f2⟩⟩
    have hm : (fields.mapM (fun f => do pure (f.offset, ← sizeOf f.type)) : Sem (Array (Nat × Nat))).run P w = .ok pl.toArray w := by
      rw [Array.mapM_eq_mapM_toList]
      simp only [Sem.run_map, places_run hpl, Result.andThen_ok]
    simp only [Instr.build, Sem.run_bind, hzr, Result.andThen_ok, run_underlying hu, hm]
    simp only [List.getElem?_toArray]
    simp [f1]
  · simp at h

/-! ### len, copy -/
def aLen : AVal → Option AVal
  | .str s => some (.int .i64 s.length)
  | .slice _ n _ => some (.int .i64 n)
  | _ => none
theorem len_ok {T : TypeId} {t : TypeId} (_ : Tail P T) {x y : AVal} {v : Value} (hx : VRel ρ x v) (h : aLen x = some y) (hk : (∃ s, x = .str s ∧ P.underlying T = some .string) ∨ (∃ a n r e, x = .slice a n r ∧ P.underlying T = some (.slice e))) :
    ∃ u, (Builtin.len_ #[T] t #[v]).run P w = .ok u w ∧ VRel ρ y u := by
  rcases hk with ⟨s, rfl, hu⟩ | ⟨a, n, r, e, rfl, hu⟩
  · simp only [aLen, Option.some.injEq] at h
    subst h
    simp only [VRel] at hx
    subst hx
    have e2 : (strOf s).size = s.length := by simp [strOf, ByteArray.size]
    exact ⟨.int .i64 s.length, by simp [Builtin.len_, run_underlying hu, goInt, e2], rfl⟩
  · simp only [aLen, Option.some.injEq] at h
    subst h
    have key : ∃ base c, v = .slice base n c := by
      cases a with
      | none => simp only [VRel] at hx; obtain ⟨rfl, _, rfl⟩ := hx; exact ⟨none, 0, rfl⟩
      | some a => obtain ⟨L, off, c, _, _, rfl, h3, _⟩ := slice_off hx; exact ⟨_, c, rfl⟩
    obtain ⟨base, c, rfl⟩ := key
    exact ⟨.int .i64 n, by simp [Builtin.len_, run_underlying hu, goInt], rfl⟩
end
end Go.Abs
