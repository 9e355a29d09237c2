/- The abstract machine, part 8d: operations on memory that came later: a string's runes one by one. -/
import Derived.Test.YtndeemjhengoiaaA8c
import Derived.Lib.OthersKept
namespace Go.Abs
section
variable {P : Program} {Prot : Gh} {w0 : World} {ρ : Pl} {H H' : AHeap} {w : World}

def nthB : List UInt8 → Nat → Option UInt8
  | [], _ => none
  | b :: _, 0 => some b
  | _ :: r, n + 1 => nthB r n
theorem nthB_eq : ∀ (l : List UInt8) (n : Nat), nthB l n = l[n]?
  | [], n => by simp [nthB]
  | b :: l, 0 => by simp [nthB]
  | b :: l, n + 1 => by simp [nthB, nthB_eq l n]

inductive HF where
  | strRange
  | strNext
  | mark

def aRange (H : AHeap) : List AVal → Option (AVal × AHeap)
  | [.str s] => some (.ptr (some ⟨H.next, 0, 0⟩), H.push (.iter s 0))
  | _ => none
def aNext (H : AHeap) : List AVal → Option (AVal × AHeap)
  | [.ptr (some ⟨b, 0, 0⟩)] => match H.get b with
    | some (.iter s pos) => match nthB s pos with
      | none => some (.tuple [.bool false], H)
      | some c => bif Nat.ble 128 c.toNat then
          match Utf8.decode (strOf s) pos with
          | (r, n) => some (.tuple [.bool true, .int .i64 (.ofNat pos), .int .i32 (.ofNat r)], H.set b (.iter s (pos + n)))
        else some (.tuple [.bool true, .int .i64 (.ofNat pos), .int .i32 (.ofNat c.toNat)], H.set b (.iter s (pos + 1)))
    | _ => none
  | _ => none
/-- bytes that came of a string, and are a slice now: a mark behind them -/
def aMark (H : AHeap) : List AVal → Option (AVal × AHeap)
  | [.slice (some a) n r] => match H.get a.b with
    | some (.cells l low false) => some (.slice (some a) n r, H.set a.b (.cells l low false))
    | _ => none
  | _ => none
def aHf : HF → AHeap → List AVal → Option (AVal × AHeap)
  | .strRange, H, l => aRange H l
  | .strNext, H, l => aNext H l
  | .mark, H, l => aMark H l

theorem iter_size (w : World) (s : ByteArray) : (w.iter s 0).heap.size = w.heap.size + 1 := by
  show (w.heap.push _).size = _
  simp
theorem iter_old (w : World) (s : ByteArray) {i : Nat} (h : i < w.heap.size) : (w.iter s 0).heap[i]? = w.heap[i]? := by
  show (w.heap.push _)[i]? = _
  simp [Array.getElem?_push, Nat.ne_of_lt h]
theorem range_ok (R : Rel Prot w0 ρ H w) {t : TypeId} (hu : P.underlying t = some .string) {x y : AVal} {v : Value} (hx : VRel ρ x v) (h : aRange H [x] = some (y, H')) : GoodV P Prot w0 ρ w (Instr.range t v) y H' := by
  unfold aRange at h
  split at h <;> first | (simp at h; done) | skip
  rename_i s heq
  simp only [List.cons.injEq, and_true] at heq
  subst heq
  simp only [Option.some.injEq, Prod.mk.injEq] at h
  obtain ⟨rfl, rfl⟩ := h
  simp only [VRel] at hx
  subst hx
  have hrun := run_range_string (P := P) w t (strOf s) hu
  obtain ⟨h1, h2⟩ := R.push' (w' := w.iter (strOf s) 0) rfl rfl rfl (iter_size w (strOf s)) (fun i hi => iter_old w (strOf s) hi)
    (x := .iter s 0) (o := .stringIter (strOf s) 0) (lim := 0) (n := 0) (cl := false) (World.iter_heap w (strOf s) 0) (by simp only [ORel]; exact ⟨trivial, trivial⟩)
  refine ⟨_, _, _, h1, hrun, h2, ?_⟩
  simp only [VRel]
  exact ⟨_, upd_same _ _ _ _, Nat.zero_le _, rfl⟩

theorem next_ok (R : Rel Prot w0 ρ H w) {t : TypeId} {x y : AVal} {v : Value} (hx : VRel ρ x v) (h : aNext H [x] = some (y, H')) : GoodV P Prot w0 ρ w (Instr.next v true t) y H' := by
  unfold aNext at h
  split at h <;> first | (simp at h; done) | skip
  rename_i b heq
  simp only [List.cons.injEq, and_true] at heq
  subst heq
  simp only [VRel] at hx
  obtain ⟨L, hL, hsh, rfl⟩ := hx
  have e0 : 0 - L.sh = 0 := by omega
  rw [e0]
  split at h <;> first | (simp at h; done) | skip
  rename_i s pos hH
  obtain ⟨x, o, g1, g2, g3⟩ := R.obj _ _ _ hL
  rw [hH] at g1
  simp only [Option.some.injEq] at g1
  subst g1
  simp only [ORel] at g3
  obtain ⟨_, rfl⟩ := g3
  have turn : ∀ p, Rel Prot w0 ρ (H.set b (.iter s p)) (w.iterAt L.c (strOf s) p) := fun p => by
    have hlt : L.c < w.heap.size := (R.dom _ _ _ hL).2
    refine R.turn (w' := w.iterAt L.c (strOf s) p) (y := .iter s p) hL hH rfl ⟨rfl, rfl, rfl, by simp [World.iterAt], fun i hi => by simp [World.iterAt, Array.getElem?_setIfInBounds, Ne.symm hi]⟩ rfl fun l' L' h' => ?_
    obtain ⟨x, o, k1, k2, k3⟩ := R.obj _ _ _ h'
    rw [hH] at k1
    simp only [Option.some.injEq] at k1
    subst k1
    simp only [ORel] at k3
    obtain ⟨rfl, rfl⟩ := k3
    rw [hL] at h'
    simp only [Option.some.injEq] at h'
    subst h'
    exact ⟨.stringIter (strOf s) p, by simp [World.iterAt, hlt], by simp only [ORel]; exact ⟨trivial, trivial⟩⟩
  have hsz : (strOf s).size = s.length := by simp [strOf, ByteArray.size]
  split at h
  · rename_i hn
    rw [nthB_eq, List.getElem?_eq_none_iff] at hn
    simp only [Option.some.injEq, Prod.mk.injEq] at h
    obtain ⟨rfl, rfl⟩ := h
    refine GoodV.pure R (v := .tuple #[.bool false]) ?_ (by simp [VRel, VRels])
    have : ¬ pos < (strOf s).size := by omega
    simp [Instr.next, getObj, Sem.run, g2, this]
  · rename_i c hn
    rw [nthB_eq] at hn
    have hp : pos < s.length := by
      rcases Nat.lt_or_ge pos s.length with h | h
      · exact h
      · rw [List.getElem?_eq_none h] at hn; simp at hn
    have hp' : pos < (strOf s).size := by omega
    have hrun := Lib.run_next_any_at (P := P) w L.c (strOf s) pos t g2 hp'
    cases hc : Nat.ble 128 c.toNat with
    | true =>
      rw [hc] at h
      simp only [cond_true, Option.some.injEq, Prod.mk.injEq] at h
      obtain ⟨rfl, rfl⟩ := h
      exact ⟨ρ, _, _, Pl.le_refl _, hrun, turn _, by simp [VRel, VRels]⟩
    | false =>
      rw [hc] at h
      simp only [cond_false, Option.some.injEq, Prod.mk.injEq] at h
      obtain ⟨rfl, rfl⟩ := h
      have hb : (strOf s)[pos]'hp' = c := by
        rw [List.getElem?_eq_getElem hp] at hn
        simp only [Option.some.injEq] at hn
        rw [← hn]
        rfl
      have ha : ((strOf s)[pos]'hp').toNat < 128 := by
        rw [hb]
        have : ¬ 128 ≤ c.toNat := fun e => by rw [Nat.ble_eq_true_of_le e] at hc; simp at hc
        omega
      rw [decode_ascii _ _ hp' ha, hb] at hrun
      exact ⟨ρ, _, _, Pl.le_refl _, hrun, turn _, by simp [VRel, VRels]⟩

theorem freeze_heap (w : World) {c n lo hi : Nat} {C : Array Value} {e : TypeId} (h : w.heap[c]? = some (.cells C e (lo, hi))) :
    (w.freeze ⟨c, n, none⟩ 1).heap[c]? = some (.cells C e (if lo == hi then (n, n + 1) else (min lo n, max hi (n + 1)))) ∧ But w (w.freeze ⟨c, n, none⟩ 1) c := by
  constructor
  · simp [World.freeze, Array.getElem?_modify, h]
  · refine ⟨rfl, rfl, rfl, by simp [World.freeze], fun i hi => ?_⟩
    simp only [World.freeze, Nat.one_ne_zero, if_false, Array.getElem?_modify]
    rw [if_neg (by simpa using fun e => hi e.symm)]
theorem mark_ok (R : Rel Prot w0 ρ H w) {t e : TypeId} (hu : P.underlying t = some (.slice e)) (he : P.underlying e = some (.int .u8)) {x y : AVal} {v : Value} (hx : VRel ρ x v) (h : aMark H [x] = some (y, H')) : GoodV P Prot w0 ρ w (convert t t v) y H' := by
  unfold aMark at h
  split at h <;> first | (simp at h; done) | skip
  rename_i a n r heq
  simp only [List.cons.injEq, and_true] at heq
  subst heq
  split at h <;> first | (simp at h; done) | skip
  rename_i l low hH
  simp only [Option.some.injEq, Prod.mk.injEq] at h
  obtain ⟨rfl, rfl⟩ := h
  obtain ⟨L, off, c, hL, hsh, rfl, hlen, _⟩ := slice_off hx
  obtain ⟨x, o, g1, g2, g3⟩ := R.obj _ _ _ hL
  rw [hH] at g1
  simp only [Option.some.injEq] at g1
  subst g1
  simp only [ORel] at g3
  obtain ⟨C, el, lo, hi, rfl, _, hfz, _, _⟩ := g3
  obtain ⟨hf1, hf2⟩ := hfz trivial
  obtain ⟨q1, q2⟩ := freeze_heap w (n := C.size) g2
  have hrun : (convert t t (.slice (some ⟨L.c, off, none⟩) n c)).run P w = .ok (.slice (some ⟨L.c, off, none⟩) n c) (w.freeze ⟨L.c, C.size, none⟩ 1) := by
    simp [convert, run_underlying hu, run_underlying he, markStringish, World.shape?, g2, Result.andThen]
  refine ⟨ρ, _, _, Pl.le_refl _, hrun, ?_, hx⟩
  refine R.turn hL hH rfl q2 rfl fun l' L' h' => ?_
  obtain ⟨x, o, k1, k2, k3⟩ := R.obj _ _ _ h'
  rw [hH] at k1
  simp only [Option.some.injEq] at k1
  subst k1
  simp only [ORel] at k3 ⊢
  obtain ⟨C', e', lo', hi', rfl, k4, k5, k6, k7⟩ := k3
  by_cases hcc : L'.c = L.c
  · rw [hcc] at k2 ⊢
    rw [g2] at k2
    simp only [Option.some.injEq, Obj.cells.injEq, Prod.mk.injEq] at k2
    obtain ⟨rfl, rfl, rfl, rfl⟩ := k2
    obtain ⟨p, hp⟩ : ∃ p : Nat × Nat, (if lo == hi then (C.size, C.size + 1) else (min lo C.size, max hi (C.size + 1))) = p := ⟨_, rfl⟩
    rw [hp] at q1
    obtain ⟨p1, p2⟩ := p
    refine ⟨_, q1, C, el, p1, p2, rfl, k4, ?_, k6, k7⟩
    have hl : lo = hi ∨ C.size ≤ lo := by
      rcases Nat.lt_or_ge lo C.size with h | h
      · refine .inl ?_
        have := hf1 lo h
        omega
      · exact .inr h
    have hpp : C.size ≤ p1 ∧ p1 ≤ p2 := by
      split at hp
      · simp only [Prod.mk.injEq] at hp; omega
      · rename_i hne
        simp only [beq_iff_eq] at hne
        simp only [Prod.mk.injEq] at hp
        omega
    exact fun _ => ⟨fun i hi => by omega, hpp.2⟩
  · exact ⟨_, (q2.rest _ hcc).trans k2, C', e', lo', hi', rfl, k4, k5, k6, k7⟩
end
end Go.Abs
