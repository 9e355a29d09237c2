/- The abstract machine, part 8: conversions, equality, signs, function values, copy. -/
import Derived.Test.YtndeemjhengoiaaA7
import Derived.Laws.BytesString
import Derived.Lib.ConvBytes
namespace Go.Abs
section
variable {P : Program} {Prot : Gh} {w0 : World} {ρ : Pl} {H H' : AHeap} {w : World}

/-! ### conversions -/
def aConv (k : IntKind) : AVal → Option AVal
  | .int _ n => some (.int k (wrF k n))
  | _ => none
theorem conv_ok {src dst : TypeId} {k : IntKind} {d : TypeDesc} (hs : P.underlying src = some d) (hu : P.underlying dst = some (.int k)) {x y : AVal} {v : Value} (hx : VRel ρ x v) (h : aConv k x = some y) (w : World) :
    ∃ u, (convert src dst v).run P w = .ok u w ∧ VRel ρ y u := by
  unfold aConv at h
  simp only [wrF_eq] at h
  split at h
  · rename_i k' n
    simp only [Option.some.injEq] at h
    subst h
    simp only [VRel] at hx
    subst hx
    exact ⟨.int k (k.wrap n), by cases d <;> simp [convert, run_underlying hs, run_underlying hu, Conv.intToInt], rfl⟩
  · simp at h

def aSB (H : AHeap) : AVal → Option (AVal × AHeap)
  | .str s => some (.slice (some ⟨H.next, s.length, 0⟩) s.length (.open_ 1), H.push (.cells (s.map fun b => .int .u8 b.toNat) 0 false))
  | _ => none
theorem sb_ok (R : Rel Prot w0 ρ H w) {src dst e : TypeId} {d : TypeDesc} (hs : P.underlying src = some d) (hd : P.underlying dst = some (.slice e)) (he : P.underlying e = some (.int .u8))
    {x y : AVal} {v : Value} (hx : VRel ρ x v) (h : aSB H x = some (y, H')) : GoodV P Prot w0 ρ w (convert src dst v) y H' := by
  unfold aSB at h
  split at h
  · rename_i s
    simp only [Option.some.injEq, Prod.mk.injEq] at h
    obtain ⟨rfl, rfl⟩ := h
    simp only [VRel] at hx
    subst hx
    have hrun := Lib.run_convert_string_bytes (P := P) w src dst e (strOf s) hs hd he
    have e2 : (strOf s).size = s.length := by simp [strOf, ByteArray.size]
    rw [e2] at hrun
    have hcap : s.length ≤ grownCap w s.length 0 e := by simp only [grownCap, Question.cut]; omega
    have hsz : (Lib.bytesCells w e (strOf s)).size = grownCap w s.length 0 e := by
      have : (strOf s).data.size = s.length := e2
      simp only [Lib.bytesCells, Array.size_append, Array.size_map, this, e2, Array.size_replicate]
      omega
    have hlen : (s.map fun b => (AVal.int .u8 b.toNat)).length = s.length := by simp
    obtain ⟨h1, h2⟩ := R.push' (w' := Lib.bytesWorld w e (strOf s)) rfl rfl rfl (Lib.bytesWorld_size _ _ _) (fun i hi => Lib.bytesWorld_at_old _ _ _ _ hi)
      (x := .cells (s.map fun b => .int .u8 b.toNat) 0 false) (o := .cells (Lib.bytesCells w e (strOf s)) e ((Lib.bytesCells w e (strOf s)).size, (Lib.bytesCells w e (strOf s)).size + 1))
      (lim := s.length) (n := grownCap w s.length 0 e) (cl := false) (Lib.bytesWorld_at_new _ _ _) (by
        simp only [ORel]
        refine ⟨_, _, _, _, rfl, hsz, fun _ => ⟨fun i hi => by omega, by simp⟩, by simp, fun _ i i1 i2 => ?_⟩
        simp only at i1
        have hb : s[i]? = some s[i] := List.getElem?_eq_getElem i2
        refine ⟨.int .u8 (s[i]).toNat, .int .u8 (s[i]).toNat, by simp [hb], ?_, rfl⟩
        simp only [Lib.bytesCells]
        rw [Array.getElem?_append_left (by simp [strOf]; omega)]
        simp [strOf, hb])
    refine ⟨_, _, _, h1, hrun, h2, ?_⟩
    simp only [VRel]
    refine ⟨_, upd_same _ _ _ _, Nat.zero_le _, ?_⟩
    exact ⟨grownCap w s.length 0 e, 0, rfl, hcap, by omega, .inl ⟨by simp, by simp only; omega, by simp only; omega⟩⟩
  · simp at h

def bytesOf : List AVal → Option (List UInt8)
  | [] => some []
  | .int .u8 n :: r => match bytesOf r with
    | some l => some (UInt8.ofNat n.toNat :: l)
    | none => none
  | _ :: _ => none
theorem bytesOf_ok : ∀ {xs : List AVal} {vs : List Value} {l : List UInt8}, VRels ρ xs vs → bytesOf xs = some l → ∃ ns : List Int, vs = ns.map (Value.int .u8) ∧ l = ns.map fun n => UInt8.ofNat n.toNat := by
  intro xs
  induction xs with
  | nil => intro vs l h1 h2; simp only [VRels] at h1; subst h1; simp only [bytesOf, Option.some.injEq] at h2; subst h2; exact ⟨[], rfl, rfl⟩
  | cons x xs ih =>
    intro vs l h1 h2
    simp only [VRels] at h1
    obtain ⟨v, r, rfl, hv, hr⟩ := h1
    unfold bytesOf at h2
    split at h2
    · rename_i heq; simp at heq
    · rename_i n r' heq
      simp only [List.cons.injEq] at heq
      obtain ⟨rfl, rfl⟩ := heq
      split at h2
      · rename_i l' hl'
        simp only [Option.some.injEq] at h2
        subst h2
        obtain ⟨ns, rfl, rfl⟩ := ih hr hl'
        simp only [VRel] at hv
        subst hv
        exact ⟨n :: ns, rfl, rfl⟩
      · simp at h2
    · simp at h2
theorem foldl_push (ns : List Int) : ∀ s : ByteArray, (ns.foldl (fun r n => r.push (UInt8.ofNat n.toNat)) s).data.toList = s.data.toList ++ ns.map fun n => UInt8.ofNat n.toNat := by
  induction ns with
  | nil => intro s; simp
  | cons n ns ih => intro s; simp only [List.foldl_cons, ih, List.map_cons]; simp [ByteArray.push]
def aBS (H : AHeap) : AVal → Option AVal
  | .slice none _ _ => some (.str [])
  | .slice (some a) n _ => match rdCells H a n with
    | some xs => match bytesOf xs with
      | some l => some (.str l)
      | none => none
    | none => none
  | _ => none
theorem bs_ok (R : Rel Prot w0 ρ H w) {src dst e : TypeId} (hs : P.underlying src = some (.slice e)) (he : P.underlying e = some (.int .u8)) (hd : P.underlying dst = some .string)
    {x y : AVal} {v : Value} (hx : VRel ρ x v) (h : aBS H x = some y) : ∃ u, (convert src dst v).run P w = .ok u w ∧ VRel ρ y u := by
  unfold aBS at h
  split at h
  · simp only [Option.some.injEq] at h
    subst h
    simp only [VRel] at hx
    obtain ⟨_, _, rfl⟩ := hx
    refine ⟨.string ByteArray.empty, ?_, by simp only [VRel]; rfl⟩
    rw [run_convert_bytes_string w src dst e none 0 0 hs he hd]
    rfl
  · rename_i a n r
    split at h
    · rename_i xs hxs
      split at h
      · rename_i l hl
        simp only [Option.some.injEq] at h
        subst h
        obtain ⟨L, off, c, h1, h2, rfl, h3, h4⟩ := slice_off hx
        obtain ⟨vs, q1, q2, q3⟩ := rd_run (P := P) R hxs h1 h2
        obtain ⟨ns, e1, rfl⟩ := bytesOf_ok q2 hl
        have hvs : vs = (ns.map (Value.int .u8)).toArray := by rw [← e1]
        refine ⟨.string (ns.foldl (fun r n => r.push (UInt8.ofNat n.toNat)) ByteArray.empty), ?_, ?_⟩
        · rw [run_convert_bytes_string w src dst e _ _ _ hs he hd]
          refine run_bytesToString w _ n c ns ?_
          by_cases hn : n = 0
          · subst hn
            have : vs = #[] := by simpa using q3
            rw [← hvs, this]
            rfl
          · have := h4 (by omega)
            subst this
            rw [← hvs]
            exact q1
        · simp only [VRel]
          congr 1
          have := foldl_push ns ByteArray.empty
          unfold strOf
          cases hx : ns.foldl (fun r n => r.push (UInt8.ofNat n.toNat)) ByteArray.empty with | mk d =>
          rw [hx] at this
          congr 1
          exact Array.toList_inj.1 (by simpa using this)
      · simp at h
    · simp at h
  · simp at h

/-! ### signs -/
def aUn (op : UnOp) : AVal → Option AVal
  | .int k n => match op with
    | .neg => some (.int k (wrF k (0 - n)))
    | .xor => some (.int k (k.wrap (BitVec.ofInt k.bits (if k.signed then -1 else k.max) ^^^ BitVec.ofInt k.bits n).toNat))
    | _ => none
  | .bool b => match op with
    | .not => some (.bool (!b))
    | _ => none
  | _ => none
theorem un_ok {op : UnOp} {x y : AVal} {v : Value} (hx : VRel ρ x v) (h : aUn op x = some y) (w : World) : ∃ u, (Op.unary op v).run P w = .ok u w ∧ VRel ρ y u := by
  unfold aUn at h
  simp only [wrF_eq] at h
  split at h
  · simp only [VRel] at hx
    subst hx
    split at h <;> simp only [Option.some.injEq, reduceCtorEq] at h
    all_goals
      subst h
      exact ⟨_, by simp [Op.unary, Op.intArith, Op.intBits], rfl⟩
  · simp only [VRel] at hx
    subst hx
    split at h <;> simp only [Option.some.injEq, reduceCtorEq] at h
    subst h
    exact ⟨_, rfl, rfl⟩
  · simp at h
end
end Go.Abs
