/- The abstract machine, part 6: append, make, copy, literals, conversions. -/
import Derived.Test.YtndeemjhengoiaaA5
namespace Go.Abs
section
variable {P : Program} {Prot : Gh} {w0 : World} {ρ : Pl} {H H' : AHeap} {w : World}

structure Elem (P : Program) (t : TypeId) (size bytes : Nat) : Prop where
  ex : ∃ i z, P.info? t = some i ∧ i.size = size ∧ i.bytes = bytes ∧ i.zero = some z ∧ z.cells.size = size

def elemOf (P : Program) (t : TypeId) : Option (Nat × Nat) :=
  match P.info? t with
  | some i => match i.zero with
    | some z => bif Nat.beq z.cells.size i.size then some (i.size, i.bytes) else none
    | none => none
  | none => none
theorem elem_of {t : TypeId} {n b : Nat} (h : elemOf P t = some (n, b)) : Elem P t n b := by
  unfold elemOf at h
  split at h
  · rename_i i hi
    split at h
    · rename_i z hz
      cases hb : Nat.beq z.cells.size i.size with
      | false => rw [hb] at h; simp at h
      | true =>
        rw [hb] at h
        simp only [cond_true, Option.some.injEq, Prod.mk.injEq] at h
        obtain ⟨rfl, rfl⟩ := h
        exact ⟨i, z, hi, rfl, rfl, hz, Nat.eq_of_beq_eq_true hb⟩
    · simp at h
  · simp at h

/-- what a slice or a string holds: how many elements, which cells -/
def aSrc (size : Nat) (H : AHeap) : AVal → Option (Nat × List AVal)
  | .slice none _ _ => some (0, [])
  | .slice (some a) n _ => match rdCells H a (n * size) with | some xs => some (n, xs) | none => none
  | .str s => some (s.length, s.map fun b => .int .u8 b.toNat)
  | _ => none
theorem bytes_rel (s : List UInt8) : VRels ρ (s.map fun b => .int .u8 b.toNat) (s.map fun b => .int .u8 b.toNat) := by
  induction s with
  | nil => simp [VRels]
  | cons b s ih => simp only [List.map_cons, VRels]; exact ⟨_, _, rfl, rfl, ih⟩
theorem src_ok (R : Rel Prot w0 ρ H w) {size : Nat} {x : AVal} {v : Value} (hx : VRel ρ x v) {n : Nat} {xs : List AVal} (h : aSrc size H x = some (n, xs)) :
    ∃ vs : Array Value, (Builtin.lenOf v).run P w = .ok n w ∧ (Builtin.firstCells size n v).run P w = .ok vs w ∧ VRels ρ xs vs.toList := by
  unfold aSrc at h
  split at h
  · simp only [Option.some.injEq, Prod.mk.injEq] at h
    obtain ⟨rfl, rfl⟩ := h
    simp only [VRel] at hx
    obtain ⟨_, _, rfl⟩ := hx
    exact ⟨#[], rfl, rfl, by simp [VRels]⟩
  · rename_i a m r
    split at h
    · rename_i ys hy
      simp only [Option.some.injEq, Prod.mk.injEq] at h
      obtain ⟨rfl, rfl⟩ := h
      obtain ⟨L, off, c, h1, h2, rfl, h3, h4⟩ := slice_off hx
      by_cases hm : m * size = 0
      · obtain ⟨vs, q1, q2, q3⟩ := rd_run (P := P) R hy h1 h2
        refine ⟨#[], rfl, ?_, ?_⟩
        · simp only [Builtin.firstCells, loadCells, hm]; rfl
        · rw [hm] at q3
          have : vs = #[] := by simpa using q3
          rw [this] at q2; exact q2
      · have hm0 : 0 < m := Nat.pos_of_ne_zero (fun e => hm (by simp [e]))
        have := h4 hm0
        subst this
        obtain ⟨vs, q1, q2, q3⟩ := rd_run (P := P) R hy h1 h2
        exact ⟨vs, rfl, q1, q2⟩
    · simp at h
  · rename_i s
    simp only [Option.some.injEq, Prod.mk.injEq] at h
    obtain ⟨rfl, rfl⟩ := h
    simp only [VRel] at hx
    subst hx
    have e2 : (strOf s).size = s.length := by simp [strOf, ByteArray.size]
    refine ⟨(s.toArray.map fun b => .int .u8 b.toNat), by simp [Builtin.lenOf, e2], ?_, ?_⟩
    · have : (strOf s).extract 0 s.length = strOf s := by rw [str_extract]; simp
      simp only [Builtin.firstCells, this, Sem.run_pure]
      rfl
    · simpa using bytes_rel (ρ := ρ) s
  · simp at h

def aAppend (size bytes : Nat) (H : AHeap) (s x : AVal) : Option (AVal × AHeap) :=
  match aSrc size H x with
  | none => none
  | some (n, xs) =>
    bif Nat.beq n 0 then (match s with | .slice a l r => some (.slice a l r, H) | _ => none)
    else match s with
    | .slice so len room =>
      bif Nat.blt 0 size && (Nat.ble ((2 * (len + n) + 0) * bytes) 281474976710656 && (Nat.ble (len + n) 9223372036854775807 && (Nat.beq xs.length (n * size) && xs.all AVal.one))) then
        match so, room with
        | none, _ => some (.slice (some ⟨H.next, xs.length, 0⟩) n (.open_ size), H.push (.cells xs 0 false))
        | some a, .known c =>
          bif Nat.ble (len + n) c then
            match wrCells H ⟨a.b, a.lim, a.o + len * size⟩ xs with
            | some H' => some (.slice (some a) (len + n) (.known c), H')
            | none => none
          else match rdCells H a (len * size) with
            | some old => some (.slice (some ⟨H.next, (old ++ xs).length, 0⟩) (len + n) (.open_ size), H.push (.cells (old ++ xs) 0 false))
            | none => none
        | some a, .open_ sz =>
          bif Nat.beq sz size then
            bif Nat.ble (a.o + (len + n) * size) a.lim then
              match wrCells H ⟨a.b, a.lim, a.o + len * size⟩ xs with
              | some H' => some (.slice (some a) (len + n) (.open_ sz), H')
              | none => none
            else match growCells H a (a.o + len * size) xs with
              | some H' => some (.slice (some ⟨a.b, a.o + len * size + xs.length, a.o⟩) (len + n) (.open_ sz), H')
              | none => none
          else none
      else none
    | _ => none

theorem nextcap_le {need cap : Nat} (h : cap < need) : Builtin.nextslicecap need cap ≤ 2 * need + 0 := by
  have grow : ∀ r c, c ≤ 2 * need → (256 ≤ need) → Builtin.growBy need r c ≤ 2 * need := by
    intro r
    induction r with
    | zero => intro c hc _; exact hc
    | succ r ih =>
      intro c hc h2
      simp only [Builtin.growBy]
      split
      · exact hc
      · exact ih _ (by omega) h2
  unfold Builtin.nextslicecap
  split
  · omega
  · split
    · omega
    · exact grow _ _ (by omega) (by omega)

theorem zeroCells_size (z : Array Value) (n : Nat) : (Builtin.zeroCells z n).size = n * z.size := by simp [Builtin.zeroCells]

/-- what may stand behind the list in an append: a slice or a string -/
def Tail (P : Program) (t : TypeId) : Prop := (∃ e, P.underlying t = some (.slice e)) ∨ P.underlying t = some .string

theorem append_room {sT xT elem t : TypeId} {size : Nat} {agg : Bool} (hu : P.underlying sT = some (.slice elem)) (T : Ty P elem agg size)
    (hxT : Tail P xT) {base : Option Addr} {sLen sCap n : Nat} {xv : Value} {vs : Array Value}
    (hl : (Builtin.lenOf xv).run P w = .ok n w) (hc : (Builtin.firstCells size n xv).run P w = .ok vs w) (hroom : sLen + n ≤ sCap) :
    (Builtin.append_ #[sT, xT] t #[.slice base sLen sCap, xv]).run P w =
      ((match base with | some a => storeCells (a.add (sLen * size)) vs.toList | none => Pure.pure () : Sem Unit).run P w).andThen fun _ w' => .ok (.slice base (sLen + n) sCap) w' := by
  rcases hxT with ⟨e, hxT⟩ | hxT <;> cases base <;>
    (simp only [Builtin.append_, List.getElem?_toArray, List.getElem?_cons_zero, List.getElem?_cons_succ, Sem.run_bind, run_underlying hu, Result.andThen_ok, T.size, run_underlying hxT, Sem.run_pure]
     simp [hl, hc, hroom])

theorem append_move {sT xT elem t : TypeId} {size bytes : Nat} {agg : Bool} (hu : P.underlying sT = some (.slice elem)) (T : Ty P elem agg size) (E : Elem P elem size bytes)
    (hxT : Tail P xT) {base : Option Addr} {sLen sCap n : Nat} {xv : Value} {olds news : Array Value}
    (hl : (Builtin.lenOf xv).run P w = .ok n w) (ho : (Builtin.firstCells size sLen (.slice base sLen sCap)).run P w.drew = .ok olds w.drew)
    (hc : (Builtin.firstCells size n xv).run P w.drew = .ok news w.drew) (hm : sCap < sLen + n)
    (hb : (2 * (sLen + n) + 0) * bytes ≤ 281474976710656) (hn : sLen + n ≤ 9223372036854775807) (hos : olds.size + news.size = (sLen + n) * size) :
    ∃ cap C, sLen + n ≤ cap ∧ C.size = cap * size ∧ (∀ i, i < (sLen + n) * size → C[i]? = (olds.toList ++ news.toList)[i]?) ∧
    (Builtin.append_ #[sT, xT] t #[.slice base sLen sCap, xv]).run P w = .ok (.slice (some ⟨w.heap.size, 0, none⟩) (sLen + n) cap) (w.drew.alloc (.cells C elem)) := by
  obtain ⟨i, z, hi, rfl, rfl, hzero, hzs⟩ := E.ex
  have h1 := nextcap_le hm
  have h2 : Builtin.nextslicecap (sLen + n) sCap * i.bytes ≤ 281474976710656 := Nat.le_trans (Nat.mul_le_mul_right _ h1) hb
  have h2' : ¬ 281474976710656 < Builtin.nextslicecap (sLen + n) sCap * i.bytes := by omega
  have hroom : ¬ sLen + n ≤ sCap := by omega
  have hzv : ∀ W, (zeroValue elem).run P W = .ok z W := fun W => by simp [zeroValue, run_typeInfo W hi, hzero]
  have hti : ∀ W, (typeInfo elem).run P W = .ok i W := fun W => run_typeInfo W hi
  obtain ⟨cap, hcap⟩ : ∃ cap, (Question.appendCap (sLen + n) sCap elem).cut (w.tape w.drawn (.appendCap (sLen + n) sCap elem)) = cap := ⟨_, rfl⟩
  have hle : sLen + n ≤ cap := by rw [← hcap]; simp only [Question.cut]; omega
  refine ⟨cap, olds ++ news ++ Builtin.zeroCells z.cells (cap - (sLen + n)), hle, ?_, ?_, ?_⟩
  · simp only [Array.size_append, zeroCells_size, hzs, hos]
    rw [← Nat.add_mul, Nat.add_sub_cancel' hle]
  · intro j hj
    rw [Array.getElem?_append_left (by simp; omega), ← Array.getElem?_toList, Array.toList_append]
  · rcases hxT with ⟨e, hxT⟩ | hxT <;>
    (simp only [Builtin.append_, List.getElem?_toArray, List.getElem?_cons_zero, List.getElem?_cons_succ, Sem.run_bind, run_underlying hu, Result.andThen_ok, T.size, run_underlying hxT, Sem.run_pure]
     simp [hl, hc, hroom, h2', hti, Question.forced, hcap, ho, hzv, newRow]
     intro hh; omega)

theorem append_ok (R : Rel Prot w0 ρ H w) {sT xT elem t : TypeId} {size bytes : Nat} {agg : Bool} (hu : P.underlying sT = some (.slice elem)) (T : Ty P elem agg size) (E : Elem P elem size bytes)
    (hxT : Tail P xT) {s x y : AVal} {sv xv : Value} (hs : VRel ρ s sv) (hx : VRel ρ x xv) (h : aAppend size bytes H s x = some (y, H')) :
    GoodV P Prot w0 ρ w (Builtin.append_ #[sT, xT] t #[sv, xv]) y H' := by
  unfold aAppend at h
  split at h
  · simp at h
  · rename_i n xs hsrc
    obtain ⟨vs, hlen, hcells, hrel⟩ := src_ok (P := P) R hx hsrc
    obtain ⟨vs2, hlen2, hcells2, hrel2⟩ := src_ok (P := P) R.drew hx hsrc
    have hvl := VRels.len hrel
    have hvl2 := VRels.len hrel2
    simp only [Array.length_toList] at hvl hvl2
    cases hn : Nat.beq n 0 with
    | true =>
      rw [hn] at h
      simp only [cond_true] at h
      have hn := Nat.eq_of_beq_eq_true hn
      subst hn
      split at h
      · rename_i a l r
        simp only [Option.some.injEq, Prod.mk.injEq] at h
        obtain ⟨rfl, rfl⟩ := h
        have key : ∃ base c, sv = .slice base l c ∧ l ≤ c ∧ ∀ a, base = some a → a.spot = none := by
          cases a with
          | none => simp only [VRel] at hs; obtain ⟨rfl, _, rfl⟩ := hs; exact ⟨none, 0, rfl, Nat.le_refl _, by simp⟩
          | some a => obtain ⟨L, off, c, _, _, rfl, h3, _⟩ := slice_off hs; exact ⟨_, c, rfl, h3, by simp⟩
        obtain ⟨base, c, rfl, hlc, _⟩ := key
        have hxs : xs = [] := by
          cases x with
          | slice so sl sr =>
            cases so with
            | none => simp only [aSrc, Option.some.injEq, Prod.mk.injEq] at hsrc; exact hsrc.2.symm
            | some so =>
              simp only [aSrc] at hsrc
              split at hsrc
              · rename_i ys hys
                simp only [Option.some.injEq, Prod.mk.injEq] at hsrc
                obtain ⟨rfl, rfl⟩ := hsrc
                obtain ⟨_, _, _, _, _, _, _, rfl⟩ := rd_spec hys
                simp
              · simp at hsrc
          | str st =>
            simp only [aSrc, Option.some.injEq, Prod.mk.injEq] at hsrc
            obtain ⟨h1, rfl⟩ := hsrc
            have : st = [] := List.eq_nil_of_length_eq_zero h1
            simp [this]
          | _ => simp [aSrc] at hsrc
        have hv0 : vs.toList = [] := by
          rw [hxs] at hvl
          have : vs = #[] := by simpa using hvl.symm
          simp [this]
        refine GoodV.pure R ?_ hs
        rw [append_room hu T hxT hlen hcells (by omega), hv0]
        cases base <;> rfl
      · simp at h
    | false =>
      rw [hn] at h
      have hn : n ≠ 0 := fun e => by rw [e] at hn; simp at hn
      simp only [cond_false] at h
      split at h
      · rename_i so len room
        cases hg : (Nat.blt 0 size && (Nat.ble ((2 * (len + n) + 0) * bytes) 281474976710656 && (Nat.ble (len + n) 9223372036854775807 && (Nat.beq xs.length (n * size) && xs.all AVal.one)))) with
        | false => rw [hg] at h; simp at h
        | true =>
          rw [hg] at h
          simp only [Bool.and_eq_true, Nat.ble_eq, List.all_eq_true] at hg
          obtain ⟨g1, g2, g3, g4, g5⟩ := hg
          have g1 : 0 < size := Nat.le_of_ble_eq_true g1
          have g4 := Nat.eq_of_beq_eq_true g4
          simp only [cond_true] at h
          split at h
          · -- nil
            simp only [Option.some.injEq, Prod.mk.injEq] at h
            obtain ⟨rfl, rfl⟩ := h
            simp only [VRel] at hs
            obtain ⟨rfl, _, rfl⟩ := hs
            obtain ⟨cap, C, c1, c2, c3, c4⟩ := append_move (P := P) (w := w) (t := t) hu T E hxT (base := none) (sLen := 0) (sCap := 0) hlen (olds := #[]) rfl hcells2 (by omega) g2 g3 (by simp; omega)
            have hsub : xs.length ≤ C.size := by rw [c2, g4]; exact Nat.mul_le_mul_right _ (by omega)
            obtain ⟨ρ', L, r1, r2, r3, r4⟩ := new_run (C := C) (e := elem) R.drew hrel2 (fun i hi => by rw [c3 i (by rw [g4] at hi; simpa using hi)]; simp)
            subst r3
            refine ⟨ρ', _, _, r1, c4, r4, ?_⟩
            simp only [VRel]
            refine ⟨_, r2, Nat.zero_le _, ?_⟩
            simp only [SliceRel]
            refine ⟨cap, 0, ?_, by omega, g1, .inl ⟨by simp, by simp; omega, by simp; omega⟩⟩
            simp
          · -- known room
            rename_i a c
            have hs' := hs
            simp only [VRel] at hs
            obtain ⟨L, l1, l2, l3⟩ := hs
            simp only [SliceRel] at l3
            obtain ⟨l3, rfl⟩ := l3
            cases hc : Nat.ble (len + n) c with
            | true =>
              rw [hc] at h
              simp only [cond_true] at h
              have hc := Nat.le_of_ble_eq_true hc
              split at h
              · rename_i H1 hw
                simp only [Option.some.injEq, Prod.mk.injEq] at h
                obtain ⟨rfl, rfl⟩ := h
                obtain ⟨w', q1, q2⟩ := wr_run (P := P) R hw (L := L) l1 (by simp only; omega) hrel
                refine ⟨ρ, w', .slice (some ⟨L.c, a.o - L.sh, none⟩) (len + n) c, Pl.le_refl _, ?_, q2, ?_⟩
                · rw [append_room hu T hxT hlen hcells hc]
                  simp only [add_none]
                  rw [show a.o - L.sh + len * size = a.o + len * size - L.sh by omega]
                  simp only [q1, Result.andThen_ok]
                · simp only [VRel]
                  exact ⟨L, l1, l2, hc, rfl⟩
              · simp at h
            | false =>
              rw [hc] at h
              simp only [cond_false] at h
              have hc : ¬ len + n ≤ c := fun e => by rw [Nat.ble_eq_true_of_le e] at hc; simp at hc
              split at h
              · rename_i old hold
                simp only [Option.some.injEq, Prod.mk.injEq] at h
                obtain ⟨rfl, rfl⟩ := h
                obtain ⟨ovs, o1, o2, o3⟩ := rd_run (P := P) R.drew hold l1 l2
                have hol := VRels.len o2
                simp only [Array.length_toList] at hol
                obtain ⟨cap, C, c1, c2, c3, c4⟩ := append_move (P := P) (w := w) (t := t) hu T E hxT (base := some ⟨L.c, a.o - L.sh, none⟩) (sLen := len) (sCap := c) hlen (olds := ovs) o1 hcells2 (by omega) g2 g3 (by rw [o3, Nat.add_mul]; omega)
                have hal : (old ++ xs).length = (len + n) * size := by rw [List.length_append, hol, o3, g4, Nat.add_mul]
                obtain ⟨ρ', L', r1, r2, r3, r4⟩ := new_run (C := C) (e := elem) R.drew (VRels.append o2 hrel2) (fun i hi => c3 i (by rw [hal] at hi; exact hi))
                subst r3
                refine ⟨ρ', _, _, r1, c4, r4, ?_⟩
                simp only [VRel]
                refine ⟨_, r2, Nat.zero_le _, ?_⟩
                simp only [SliceRel]
                have : (len + n) * size ≤ cap * size := Nat.mul_le_mul_right _ c1
                exact ⟨cap, 0, rfl, by omega, g1, .inl ⟨by simp, by rw [hal]; omega, by rw [c2]; omega⟩⟩
              · simp at h
          · -- open room
            rename_i a sz
            cases hsz : Nat.beq sz size with
            | false => rw [hsz] at h; simp at h
            | true =>
              rw [hsz] at h
              have := Nat.eq_of_beq_eq_true hsz
              subst this
              simp only [cond_true] at h
              simp only [VRel] at hs
              obtain ⟨L, l1, l2, l3⟩ := hs
              simp only [SliceRel] at l3
              obtain ⟨c, off, rfl, l4, l5, l6⟩ := l3
              have hmul : (len + n) * sz = len * sz + n * sz := Nat.add_mul _ _ _
              have hnsz : 0 < n * sz := Nat.mul_pos (Nat.pos_of_ne_zero hn) g1
              cases hr : Nat.ble (a.o + (len + n) * sz) a.lim with
              | true =>
                rw [hr] at h
                simp only [cond_true] at h
                have hr := Nat.le_of_ble_eq_true hr
                obtain ⟨rfl, k2, k3⟩ : off = a.o - L.sh ∧ a.lim ≤ off + L.sh + c * sz ∧ off + c * sz ≤ L.n := by
                  rcases l6 with l6 | l6
                  · exact l6
                  · omega
                have hroom : len + n ≤ c := Nat.le_of_mul_le_mul_right (by omega : (len + n) * sz ≤ c * sz) g1
                split at h
                · rename_i H1 hw
                  simp only [Option.some.injEq, Prod.mk.injEq] at h
                  obtain ⟨rfl, rfl⟩ := h
                  obtain ⟨w', q1, q2⟩ := wr_run (P := P) R hw (L := L) l1 (by simp only; omega) hrel
                  refine ⟨ρ, w', .slice (some ⟨L.c, a.o - L.sh, none⟩) (len + n) c, Pl.le_refl _, ?_, q2, ?_⟩
                  · rw [append_room hu T hxT hlen hcells hroom]
                    simp only [add_none]
                    rw [show a.o - L.sh + len * sz = a.o + len * sz - L.sh by omega]
                    simp only [q1, Result.andThen_ok]
                  · simp only [VRel]
                    exact ⟨L, l1, l2, c, _, rfl, hroom, l5, .inl ⟨rfl, k2, k3⟩⟩
                · simp at h
              | false =>
                rw [hr] at h
                simp only [cond_false] at h
                split at h
                · rename_i H1 hg
                  simp only [Option.some.injEq, Prod.mk.injEq] at h
                  obtain ⟨rfl, rfl⟩ := h
                  obtain ⟨l, low, e1, e2, e3, e4, e5, e6, e7, _⟩ := grow_spec hg
                  obtain ⟨x0, o0, f1, f2, f3⟩ := R.obj _ _ _ l1
                  rw [e1] at f1
                  obtain rfl := (Option.some.injEq _ _).mp f1
                  simp only [ORel] at f3
                  obtain ⟨C, e, lo, hi, rfl, f4, f5, f6, f7⟩ := f3
                  have f7 := f7 e2
                  by_cases hroom : len + n ≤ c
                  · -- in place
                    obtain ⟨rfl, k2, k3⟩ : off = a.o - L.sh ∧ a.lim ≤ off + L.sh + c * sz ∧ off + c * sz ≤ L.n := by
                      rcases l6 with l6 | l6
                      · exact l6
                      · omega
                    have hcs : (len + n) * sz ≤ c * sz := Nat.mul_le_mul_right _ hroom
                    obtain ⟨w', C', s1, s2, s3, s4, s5⟩ := storeCells_run (P := P) (off := a.o - L.sh + len * sz) vs.toList 0 w C f2 (by simp; omega) (f5 trivial).1 (one_of hrel g5)
                    simp only [Array.length_toList] at s5
                    obtain ⟨r1, r2⟩ := R.grown hg l1 (w' := w') (N := L) s2.os s2.tape s2.output (Nat.le_of_eq s2.size.symm) (fun i _ hi => s2.rest i hi) (.inl ⟨rfl, rfl⟩)
                      ⟨C', e, lo, hi, s3, s4.trans f4, by rw [s4]; exact (f5 trivial), fun l' low' e1' => by
                        rw [e1] at e1'
                        simp only [Option.some.injEq, AObj.cells.injEq, and_true] at e1'
                        obtain ⟨rfl, rfl⟩ := e1'
                        intro i i1 i2
                        by_cases hin : i < a.o + len * sz
                        · obtain ⟨z, u, z1, z2, z3⟩ := f7 i i1 (by omega)
                          refine ⟨z, u, ?_, ?_, z3⟩
                          · rw [List.getElem?_append_left (by simp; omega), List.getElem?_take, if_pos hin]
                            exact z1
                          · have q := s5 (i - L.sh)
                            have hno : ¬ (a.o - L.sh + len * sz + 0 ≤ i - L.sh ∧ i - L.sh < a.o - L.sh + len * sz + 0 + vs.size) := by omega
                            rw [if_neg hno] at q
                            rw [q]; exact z2
                        · have hx1 : xs[i - (a.o + len * sz)]? = some xs[i - (a.o + len * sz)] := List.getElem?_eq_getElem (by omega)
                          obtain ⟨u, u1, u2⟩ := hrel.nth _ _ hx1
                          refine ⟨_, u, ?_, ?_, u2⟩
                          · rw [List.getElem?_append_right (by simp; omega), ← hx1]
                            congr 1
                            simp
                            omega
                          · have q := s5 (i - L.sh)
                            have hyes : a.o - L.sh + len * sz + 0 ≤ i - L.sh ∧ i - L.sh < a.o - L.sh + len * sz + 0 + vs.size := by omega
                            rw [if_pos hyes] at q
                            rw [q, show i - L.sh - (a.o - L.sh + len * sz + 0) = i - (a.o + len * sz) by omega]
                            exact u1⟩
                      ⟨C, C', e, lo, hi, f2, s3, s4, fun j hj => by
                        have q := s5 j
                        have hno : ¬ (a.o - L.sh + len * sz + 0 ≤ j ∧ j < a.o - L.sh + len * sz + 0 + vs.size) := by omega
                        rw [if_neg hno] at q
                        exact q⟩
                    refine ⟨_, w', .slice (some ⟨L.c, a.o - L.sh, none⟩) (len + n) c, r1, ?_, r2, ?_⟩
                    · rw [append_room hu T hxT hlen hcells hroom]
                      simp only [add_none]
                      simp only [s1, Result.andThen_ok]
                    · simp only [VRel]
                      refine ⟨L, upd_same _ _ _ _, l2, c, _, rfl, hroom, l5, .inl ⟨rfl, ?_, k3⟩⟩
                      simp only
                      omega
                  · -- moved
                    obtain ⟨ovs, o1, o2, o3⟩ : ∃ ovs : Array Value, (Builtin.firstCells sz len (.slice (some ⟨L.c, off, none⟩) len c)).run P w.drew = .ok ovs w.drew ∧ VRels ρ ((l.drop a.o).take (len * sz)) ovs.toList ∧ ovs.size = len * sz := by
                      by_cases hl0 : len = 0
                      · subst hl0
                        exact ⟨#[], by simp [Builtin.firstCells, loadCells, loadCellsFrom], by simp [VRels], by simp⟩
                      · rcases l6 with ⟨rfl, _, _⟩ | l6
                        · have hrd : rdCells H a (len * sz) = some ((l.drop a.o).take (len * sz)) := by
                            unfold rdCells
                            rw [e1]
                            simp only
                            rw [show (Nat.ble low a.lim && (Nat.ble a.lim l.length && Nat.ble (a.o + len * sz) a.lim)) = true by simp only [Bool.and_eq_true, Nat.ble_eq]; omega]
                            rfl
                          exact rd_run (P := P) R.drew hrd l1 l2
                        · omega
                    obtain ⟨cap, C2, c1, c2, c3, c4⟩ := append_move (P := P) (w := w) (t := t) hu T E hxT (base := some ⟨L.c, off, none⟩) (sLen := len) (sCap := c) hlen (olds := ovs) o1 hcells2 (by omega) g2 g3 (by rw [o3, hmul]; omega)
                    have hcap : (len + n) * sz ≤ cap * sz := Nat.mul_le_mul_right _ c1
                    have hall := VRels.append o2 hrel2
                    have holen : ((l.drop a.o).take (len * sz)).length = len * sz := by simp; omega
                    obtain ⟨r1, r2⟩ := R.drew.grown hg l1 (w' := w.drew.alloc (.cells C2 elem)) (N := ⟨w.heap.size, a.o, C2.size, true⟩) rfl rfl rfl (by simp) (fun i hi _ => RowKit.Below.heap_alloc _ _ _ hi) (.inr ⟨Nat.le_refl _, by simp⟩)
                      ⟨C2, elem, 0, 0, by show (w.heap.push _)[w.heap.size]? = _; simp, rfl, ⟨fun i _ => by omega, Nat.le_refl _⟩, fun l' low' e1' => by
                        rw [e1] at e1'
                        simp only [Option.some.injEq, AObj.cells.injEq, and_true] at e1'
                        obtain ⟨rfl, rfl⟩ := e1'
                        intro i i1 i2
                        simp only at i1
                        obtain ⟨z, hx1⟩ : ∃ z, ((l.drop a.o).take (len * sz) ++ xs)[i - a.o]? = some z := ⟨_, List.getElem?_eq_getElem (by rw [List.length_append, holen]; omega)⟩
                        obtain ⟨u, u1, u2⟩ := hall.nth _ _ hx1
                        refine ⟨_, u, ?_, ?_, u2⟩
                        · rw [← hx1]
                          by_cases hin : i < a.o + len * sz
                          · rw [List.getElem?_append_left (by simp; omega), List.getElem?_append_left (by rw [holen]; omega), List.getElem?_take, if_pos hin, List.getElem?_take, if_pos (by omega), List.getElem?_drop]
                            congr 1
                            omega
                          · rw [List.getElem?_append_right (by simp; omega), List.getElem?_append_right (by rw [holen]; omega), holen]
                            congr 1
                            simp
                            omega
                        · show C2[i - a.o]? = some u
                          rw [c3 (i - a.o) (by omega)]
                          exact u1⟩
                      ⟨C, C, e, lo, hi, f2, by rw [RowKit.Below.heap_alloc w.drew _ _ (R.dom _ _ _ l1).2]; exact f2, rfl, fun _ _ => rfl⟩
                    refine ⟨_, _, _, r1, c4, r2, ?_⟩
                    simp only [VRel]
                    refine ⟨_, upd_same _ _ _ _, Nat.le_refl _, ?_⟩
                    simp only [SliceRel]
                    refine ⟨cap, 0, ?_, by omega, l5, .inl ⟨by simp, by first | omega | (simp only; omega), by first | omega | (simp only [c2]; omega)⟩⟩
                    rfl
                · simp at h
      · simp at h
end
end Go.Abs
