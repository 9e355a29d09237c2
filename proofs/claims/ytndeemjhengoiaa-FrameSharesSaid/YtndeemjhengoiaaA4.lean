/- The abstract machine, part 4: what operations do to abstract values, and that the model's do the same. -/
import Derived.Test.YtndeemjhengoiaaA3
import Derived.ChangeKeysEq
import Derived.Lib.Strings
namespace Go.Abs
section
variable {P : Program} {Prot : Gh} {w0 : World} {ρ : Pl} {H H' : AHeap} {w : World}

/-- a run that ends well, at a value that stands to x -/
def GoodV (P : Program) (Prot : Gh) (w0 : World) (ρ : Pl) (w : World) (s : Sem Value) (x : AVal) (H' : AHeap) : Prop :=
  ∃ ρ' w' v, ρ.le ρ' ∧ s.run P w = .ok v w' ∧ Rel Prot w0 ρ' H' w' ∧ VRel ρ' x v

theorem GoodV.pure (R : Rel Prot w0 ρ H w) {x : AVal} {v : Value} {s : Sem Value} (hr : s.run P w = .ok v w) (h : VRel ρ x v) : GoodV P Prot w0 ρ w s x H :=
  ⟨ρ, w, v, Pl.le_refl _, hr, R, h⟩

/-- of a type: is it a struct or an array; how many cells -/
structure Ty (P : Program) (t : TypeId) (agg : Bool) (size : Nat) : Prop where
  agg : ∀ w, (isAgg t).run P w = .ok agg w
  size : ∀ w, (sizeOf t).run P w = .ok size w

def tyOf (P : Program) (t : TypeId) : Option (Bool × Nat) :=
  match P.underlying t, P.info? t with
  | some (.struct _), some i => some (true, i.size)
  | some (.array _ _), some i => some (true, i.size)
  | some _, some i => some (false, i.size)
  | _, _ => none
theorem ty_of {t : TypeId} {a : Bool} {n : Nat} (h : tyOf P t = some (a, n)) : Ty P t a n := by
  unfold tyOf at h
  split at h <;> simp only [Option.some.injEq, Prod.mk.injEq, reduceCtorEq] at h
  all_goals
    obtain ⟨rfl, rfl⟩ := h
    rename_i hu hi
    refine ⟨fun w => ?_, fun w => by simp [sizeOf, run_typeInfo w hi]⟩
    unfold isAgg
    simp only [Sem.run_bind, run_underlying hu, Result.andThen_ok]
  · rfl
  · rfl
  · rename_i d _ q2 q1
    cases d <;> first | rfl | exact absurd rfl (q1 _) | exact absurd rfl (q2 _ _)

/-! ### memory -/
def oLoad (agg : Bool) (size : Nat) (H : AHeap) : AVal → Option AVal
  | .ptr (some a) =>
    match rdCells H a size with
    | some xs => bif agg then some (.agg xs) else match xs with | [x] => some x | _ => none
    | none => none
  | _ => none

theorem load_ok (R : Rel Prot w0 ρ H w) {t : TypeId} {agg : Bool} {size : Nat} (T : Ty P t agg size) {x : AVal} {v : Value} (hx : VRel ρ x v) {y : AVal} (h : oLoad agg size H x = some y) :
    ∃ u, (Instr.loadAt t v).run P w = .ok u w ∧ VRel ρ y u := by
  unfold oLoad at h
  split at h
  · rename_i a
    split at h
    · rename_i xs hxs
      simp only [VRel] at hx
      obtain ⟨L, hL, hs, rfl⟩ := hx
      obtain ⟨vs, h1, h2, h3⟩ := rd_run (P := P) R hxs hL hs
      cases agg with
      | true =>
        simp only [cond_true, Option.some.injEq] at h
        subst h
        refine ⟨.agg vs, ?_, by simp only [VRel]; exact ⟨vs, rfl, h2⟩⟩
        simp [Instr.loadAt, Instr.sureAddr, loadVar, T.agg, T.size, h1]
      | false =>
        simp only [cond_false] at h
        split at h
        · rename_i xs0 z hz
          simp only [Option.some.injEq] at h
          subst h
          have hl := VRels.len h2
          have hz1 : size = 1 := by simp at hl; omega
          subst hz1
          simp only [VRels] at h2
          obtain ⟨u, r, hu, hr, hnil⟩ := h2
          refine ⟨u, ?_, hr⟩
          have e : vs = #[u] := by
            have : vs.toList = [u] := by rw [hu, hnil]
            exact Array.toList_inj.1 (by simpa using this)
          subst e
          simp only [loadCells, loadCellsFrom, Sem.run_bind, add_none, Nat.add_zero] at h1
          simp only [Instr.loadAt, Instr.sureAddr, loadVar, T.agg, Sem.run_bind, Sem.run_pure, Result.andThen_ok, Bool.false_eq_true, if_false]
          cases hq : (Go.load (⟨L.c, a.o - L.sh, none⟩ : Addr) Mode.plain).run P w with
          | ok q wq =>
            rw [hq] at h1
            simp at h1
            obtain ⟨rfl, rfl⟩ := h1
            rfl
          | halt q wq => rw [hq] at h1; simp at h1
        · simp at h
    · simp at h
  · simp at h

def oStore (size : Nat) (H : AHeap) (a x : AVal) : Option AHeap :=
  match a with
  | .ptr (some a) => bif Nat.beq x.cells.length size then wrCells H a x.cells else none
  | _ => none

theorem store_ok (R : Rel Prot w0 ρ H w) {t : TypeId} {agg : Bool} {size : Nat} (T : Ty P t agg size) {a x : AVal} {av v : Value} (ha : VRel ρ a av) (hx : VRel ρ x v) (h : oStore size H a x = some H') :
    ∃ w', (Instr.storeAt t av v).run P w = .ok () w' ∧ Rel Prot w0 ρ H' w' := by
  unfold oStore at h
  split at h
  · rename_i a
    cases hb : Nat.beq x.cells.length size with
    | false => rw [hb] at h; simp at h
    | true =>
      rw [hb] at h
      simp only [cond_true] at h
      have hn := Nat.eq_of_beq_eq_true hb
      simp only [VRel] at ha
      obtain ⟨L, hL, hs, rfl⟩ := ha
      have hc := hx.cells
      obtain ⟨w', h1, h2⟩ := wr_run (P := P) R h hL hs hc
      refine ⟨w', ?_, h2⟩
      have hsz : v.cells.size = size := by have := VRels.len hc; simp at this; omega
      simp [Instr.storeAt, Instr.sureAddr, storeVar, T.size, hsz, h1]
  · simp at h

/-- a new row: a value's cells -/
def oNew (H : AHeap) (xs : List AVal) : AVal × AHeap := (.ptr (some ⟨H.next, xs.length, 0⟩), H.push (.cells xs 0 false))

theorem newRow_ok (R : Rel Prot w0 ρ H w) {xs : List AVal} {C : Array Value} (e : TypeId) (h : VRels ρ xs C.toList) :
    ∃ ρ' w', ρ.le ρ' ∧ (newRow e C).run P w = .ok ⟨w.heap.size, 0, none⟩ w' ∧ Rel Prot w0 ρ' (H.push (.cells xs 0 false)) w' ∧ ρ' H.next xs.length = some ⟨w.heap.size, 0, C.size, true⟩ := by
  obtain ⟨ρ', L, h1, h2, h3, h4⟩ := new_run (e := e) (C := C) R h (fun i hi => by rw [Array.getElem?_toList])
  subst h3
  exact ⟨ρ', _, h1, rfl, h4, h2⟩
theorem new_ok (R : Rel Prot w0 ρ H w) {x : AVal} {v : Value} (e : TypeId) (h : VRel ρ x v) :
    GoodV P Prot w0 ρ w (do pure (.pointer (some (← newVar e v)))) (oNew H x.cells).1 (oNew H x.cells).2 := by
  obtain ⟨ρ', w', h1, h2, h3, h4⟩ := newRow_ok (P := P) R e h.cells
  refine ⟨ρ', w', _, h1, by simp only [newVar, Sem.run_bind, h2, Result.andThen_ok]; rfl, h3, ?_⟩
  simp only [oNew, VRel]
  exact ⟨_, h4, Nat.zero_le _, rfl⟩

/-! ### integers that the kernel reckons fast -/
def uwr (N : Nat) : Int → Int
  | .ofNat m => .ofNat (m % N)
  | .negSucc m => .ofNat (N - 1 - m % N)
def swr (N h : Nat) : Int → Int
  | .ofNat m => bif Nat.ble h (m % N) then .negSucc (N - 1 - m % N) else .ofNat (m % N)
  | .negSucc m => bif Nat.ble h (m % N) then .ofNat (N - 1 - m % N) else .negSucc (m % N)
def wrF : IntKind → Int → Int
  | .i8 => swr 256 128
  | .i16 => swr 65536 32768
  | .i32 => swr 4294967296 2147483648
  | .i64 => swr 18446744073709551616 9223372036854775808
  | .u8 => uwr 256
  | .u16 => uwr 65536
  | .u32 => uwr 4294967296
  | .u64 => uwr 18446744073709551616
theorem ble_dec (a b : Nat) : Nat.ble a b = decide (a ≤ b) := by
  cases h : Nat.ble a b with
  | true => rw [decide_eq_true (Nat.le_of_ble_eq_true h)]
  | false => rw [decide_eq_false (fun e => by rw [Nat.ble_eq_true_of_le e] at h; simp at h)]
theorem wrF_eq (k : IntKind) (n : Int) : wrF k n = k.wrap n := by
  cases k <;> cases n <;> simp only [wrF, uwr, swr, IntKind.wrap, IntKind.signed, IntKind.bits, ble_dec, Bool.cond_decide] <;> simp <;> (try split) <;> omega
def ltF : Int → Int → Bool
  | .ofNat m, .ofNat n => Nat.ble (m + 1) n
  | .ofNat _, .negSucc _ => false
  | .negSucc _, .ofNat _ => true
  | .negSucc m, .negSucc n => Nat.ble (n + 1) m
theorem ltF_eq (a b : Int) : ltF a b = decide (a < b) := by
  cases a <;> cases b <;> simp only [ltF, ble_dec] <;> first
    | (congr 1; simp only [eq_iff_iff]; omega)
    | (symm; simp; omega)
def eqF : Int → Int → Bool
  | .ofNat m, .ofNat n => Nat.beq m n
  | .negSucc m, .negSucc n => Nat.beq m n
  | _, _ => false
theorem beq_dec (a b : Nat) : Nat.beq a b = decide (a = b) := by
  cases h : Nat.beq a b with
  | true => rw [decide_eq_true (Nat.eq_of_beq_eq_true h)]
  | false => rw [decide_eq_false (fun e => by rw [e, Nat.beq_refl] at h; simp at h)]
theorem eqF_eq (a b : Int) : eqF a b = (a == b) := by
  have : (a == b) = decide (a = b) := by by_cases h : a = b <;> simp [h]
  rw [this]
  cases a <;> cases b <;> simp [eqF, beq_dec]
  omega
def mulP : Int → Nat → Int
  | .ofNat m, p => .ofNat (m * p)
  | .negSucc m, p => .negSucc ((m + 1) * p - 1)
theorem mulP_eq (a : Int) (n : Nat) : mulP a (2 ^ n) = a * 2 ^ n := by
  have hp : 0 < 2 ^ n := Nat.two_pow_pos n
  have e : ((2 : Int) ^ n) = ((2 ^ n : Nat) : Int) := by simp
  rw [e]
  cases a with
  | ofNat m => simp [mulP]
  | negSucc m =>
    simp only [mulP]
    have h1 : 1 ≤ (m + 1) * 2 ^ n := Nat.mul_pos (by omega) hp
    rw [Int.negSucc_eq, Int.negSucc_eq]
    rw [Int.natCast_sub h1, Int.natCast_mul]
    simp only [Int.neg_mul]
    push_cast
    omega
def divP : Int → Nat → Int
  | .ofNat m, p => .ofNat (m / p)
  | .negSucc m, p => .negSucc (m / p)
theorem divP_eq (a : Int) (n : Nat) : divP a (2 ^ n) = a.fdiv (2 ^ n) := by
  have e : ((2 : Int) ^ n) = ((2 ^ n : Nat) : Int) := by simp
  rw [e]
  have hp : 0 < 2 ^ n := Nat.two_pow_pos n
  obtain ⟨p, hp'⟩ : ∃ p, 2 ^ n = p + 1 := ⟨2 ^ n - 1, by omega⟩
  rw [hp']
  cases a with
  | ofNat m => rw [Int.fdiv_eq_ediv_of_nonneg _ (by omega)]; rfl
  | negSucc m => rfl
def bitsF (k : IntKind) (f : Nat → Nat → Nat) (g : Int) : Int → Int → Int
  | .ofNat m, .ofNat n => wrF k (.ofNat (f (m % 2 ^ k.bits) (n % 2 ^ k.bits)))
  | _, _ => g

/-! ### integers, strings -/
def aInt (op : BinOp) (k : IntKind) (a b : Int) : Option AVal :=
  match op with
  | .add => some (.int k (k.wrap (a + b)))
  | .sub => some (.int k (k.wrap (a - b)))
  | .mul => some (.int k (k.wrap (a * b)))
  | .quo => if b = 0 then none else some (.int k (k.wrap (a.tdiv b)))
  | .rem => if b = 0 then none else some (.int k (a.tmod b))
  | .and => some (.int k (k.wrap (BitVec.ofInt k.bits a &&& BitVec.ofInt k.bits b).toNat))
  | .or => some (.int k (k.wrap (BitVec.ofInt k.bits a ||| BitVec.ofInt k.bits b).toNat))
  | .xor => some (.int k (k.wrap (BitVec.ofInt k.bits a ^^^ BitVec.ofInt k.bits b).toNat))
  | .andNot => some (.int k (k.wrap (BitVec.ofInt k.bits a &&& ~~~BitVec.ofInt k.bits b).toNat))
  | .eql => some (.bool (a == b))
  | .neq => some (.bool (a != b))
  | .lss => some (.bool (decide (a < b)))
  | .leq => some (.bool (decide (a ≤ b)))
  | .gtr => some (.bool (decide (a > b)))
  | .geq => some (.bool (decide (a ≥ b)))
  | _ => none
def aShift (op : BinOp) (k : IntKind) (a b : Int) : Option AVal :=
  match op with
  | .shl => if b < 0 then none else some (.int k (k.wrap (a * 2 ^ (min b.toNat k.bits))))
  | .shr => if b < 0 then none else some (.int k (a.fdiv (2 ^ (min b.toNat k.bits))))
  | _ => none
def aIntF (op : BinOp) (k : IntKind) (a b : Int) : Option AVal :=
  match op with
  | .add => some (.int k (wrF k (a + b)))
  | .sub => some (.int k (wrF k (a - b)))
  | .mul => some (.int k (wrF k (a * b)))
  | .quo => bif eqF b 0 then none else some (.int k (wrF k (a.tdiv b)))
  | .rem => bif eqF b 0 then none else some (.int k (a.tmod b))
  | .and => some (.int k (bitsF k Nat.land (k.wrap (BitVec.ofInt k.bits a &&& BitVec.ofInt k.bits b).toNat) a b))
  | .or => some (.int k (bitsF k Nat.lor (k.wrap (BitVec.ofInt k.bits a ||| BitVec.ofInt k.bits b).toNat) a b))
  | .xor => some (.int k (bitsF k Nat.xor (k.wrap (BitVec.ofInt k.bits a ^^^ BitVec.ofInt k.bits b).toNat) a b))
  | .eql => some (.bool (eqF a b))
  | .neq => some (.bool (!eqF a b))
  | .lss => some (.bool (ltF a b))
  | .leq => some (.bool (!ltF b a))
  | .gtr => some (.bool (ltF b a))
  | .geq => some (.bool (!ltF a b))
  | op => aInt op k a b
theorem bitsF_eq (k : IntKind) (a b : Int) {f : Nat → Nat → Nat} {g : BitVec k.bits → BitVec k.bits → BitVec k.bits} (hfg : ∀ x y : BitVec k.bits, (g x y).toNat = f x.toNat y.toNat) :
    bitsF k f (k.wrap (g (BitVec.ofInt k.bits a) (BitVec.ofInt k.bits b)).toNat) a b = k.wrap (g (BitVec.ofInt k.bits a) (BitVec.ofInt k.bits b)).toNat := by
  unfold bitsF
  split
  · rename_i m n
    rw [wrF_eq, hfg]
    have e : ∀ m : Nat, (BitVec.ofInt k.bits (.ofNat m)).toNat = m % 2 ^ k.bits := fun m => by
      rw [BitVec.toNat_ofInt]
      show ((m : Int) % ((2 ^ k.bits : Nat) : Int)).toNat = _
      rw [← Int.natCast_emod]
      rfl
    rw [e, e]
    rfl
  · rfl
theorem aIntF_eq (op : BinOp) (k : IntKind) (a b : Int) : aIntF op k a b = aInt op k a b := by
  cases op <;> simp only [aIntF, aInt, wrF_eq, eqF_eq, ltF_eq]
  case quo =>
    by_cases h : b = 0
    · simp [h]
    · have : (b == 0) = false := by simpa using h
      simp [this, h]
  case rem =>
    by_cases h : b = 0
    · simp [h]
    · have : (b == 0) = false := by simpa using h
      simp [this, h]
  case and => rw [bitsF_eq k a b (f := Nat.land) (g := fun x y => x &&& y) (fun x y => BitVec.toNat_and x y)]
  case or => rw [bitsF_eq k a b (f := Nat.lor) (g := fun x y => x ||| y) (fun x y => BitVec.toNat_or x y)]
  case xor => rw [bitsF_eq k a b (f := Nat.xor) (g := fun x y => x ^^^ y) (fun x y => BitVec.toNat_xor x y)]
  case leq => congr 2; by_cases h : a ≤ b <;> simp [h] <;> omega
  case geq => congr 2; by_cases h : a ≥ b <;> simp [h] <;> omega
  all_goals first | rfl | (simp [bne]; done)
def aShiftF (op : BinOp) (k : IntKind) (a b : Int) : Option AVal :=
  match op, b with
  | .shl, .ofNat n => some (.int k (wrF k (mulP a (2 ^ (bif Nat.ble n k.bits then n else k.bits)))))
  | .shr, .ofNat n => some (.int k (divP a (2 ^ (bif Nat.ble n k.bits then n else k.bits))))
  | _, _ => none
theorem aShiftF_eq (op : BinOp) (k : IntKind) (a b : Int) : aShiftF op k a b = aShift op k a b := by
  cases b with
  | ofNat n =>
    have hm : (bif Nat.ble n k.bits then n else k.bits) = min n k.bits := by
      rw [ble_dec]; by_cases h : n ≤ k.bits <;> simp [h] <;> omega
    have h0 : ¬ ((Int.ofNat n) < 0) := by simp
    cases op <;> simp only [aShiftF, aShift, wrF_eq, mulP_eq, divP_eq, hm]
    · rw [if_neg h0]; rfl
    · rw [if_neg h0]; rfl
  | negSucc n =>
    have h0 : (Int.negSucc n) < 0 := Int.negSucc_lt_zero n
    cases op <;> simp only [aShiftF, aShift]
    · rw [if_pos h0]
    · rw [if_pos h0]
def bless : List UInt8 → List UInt8 → Bool := Op.bytesLess
def aStr (op : BinOp) (x y : List UInt8) : Option AVal :=
  match op with
  | .add => bif Nat.ble (x.length + y.length) 9223372036854775807 then some (.str (x ++ y)) else none
  | .eql => some (.bool (x == y))
  | .neq => some (.bool (!(x == y)))
  | .lss => some (.bool (bless x y))
  | .leq => some (.bool (bless x y || x == y))
  | .gtr => some (.bool (!(bless x y || x == y)))
  | .geq => some (.bool (!bless x y))
  | _ => none
def isShift : BinOp → Bool
  | .shl | .shr => true
  | _ => false
def aBin (op : BinOp) : AVal → AVal → Option AVal
  | .int k a, .int k' b => bif isShift op then aShiftF op k a b else if k = k' then aIntF op k a b else none
  | .str x, .str y => aStr op x y
  | _, _ => none

theorem binOp_int {op : BinOp} {t : TypeId} {k k' : IntKind} {a b : Int} (hs : isShift op = false) (hk : k = k') :
    binOp op t (.int k a) (.int k' b) = match op with
      | .add | .sub | .mul => Op.intArith op k a b
      | .quo | .rem => Op.intDiv op k a b
      | .and | .or | .xor | .andNot => Op.intBits op k a b
      | _ => Op.intCmp op a b := by
  subst hk
  cases op <;> first | (simp [binOp]; done) | (simp [isShift] at hs)

theorem bin_ok {op : BinOp} {t : TypeId} {x y r : AVal} {u v : Value} (hx : VRel ρ x u) (hy : VRel ρ y v) (h : aBin op x y = some r) (w : World) :
    ∃ z, (binOp op t u v).run P w = .ok z w ∧ VRel ρ r z := by
  unfold aBin at h
  simp only [aIntF_eq, aShiftF_eq] at h
  split at h
  · rename_i k a k' b
    simp only [VRel] at hx hy
    subst hx hy
    cases hs : isShift op with
    | true =>
      rw [hs] at h
      cases op <;> simp only [isShift, Bool.false_eq_true] at hs
      all_goals
        simp only [cond_true, aShift] at h
        split at h
        · simp at h
        · rename_i hb
          simp only [Option.some.injEq] at h
          subst h
          refine ⟨_, ?_, rfl⟩
          simp [binOp, Op.shift, hb]
    | false =>
      rw [hs] at h
      simp only [cond_false] at h
      split at h
      · rename_i hk
        rw [binOp_int hs hk]
        cases op <;> simp only [aInt, Option.some.injEq, reduceCtorEq] at h
        all_goals first
          | (split at h
             · simp at h
             · rename_i hb
               simp only [Option.some.injEq] at h
               subst h
               refine ⟨_, ?_, rfl⟩
               simp [Op.intDiv, hb])
          | (subst h
             refine ⟨_, ?_, rfl⟩
             first | rfl | simp [Op.intArith, Op.intBits, Op.intCmp])
      · simp at h
  · rename_i s1 s2
    simp only [VRel] at hx hy
    subst hx hy
    have hb : binOp op t (.string (strOf s1)) (.string (strOf s2)) = Op.stringOp op (strOf s1) (strOf s2) := by cases op <;> rfl
    rw [hb]
    have e1 : ∀ s : List UInt8, (strOf s).toList = s := fun s => by
      rw [Lib.toList_data]; rfl
    have e2 : ∀ s : List UInt8, (strOf s).size = s.length := fun s => by simp [strOf, ByteArray.size]
    cases op <;> simp only [aStr, Option.some.injEq, reduceCtorEq] at h
    case add =>
      cases hb : Nat.ble (s1.length + s2.length) 9223372036854775807 with
      | false => rw [hb] at h; simp at h
      | true =>
        rw [hb] at h
        simp only [cond_true, Option.some.injEq] at h
        subst h
        have := Nat.le_of_ble_eq_true hb
        refine ⟨.string (strOf s1 ++ strOf s2), ?_, ?_⟩
        · simp only [Op.stringOp, e2, IntKind.max, IntKind.signed, IntKind.bits]
          rw [if_neg (by simp; omega)]
          rfl
        · simp only [VRel]
          congr 1
    all_goals
      subst h
      refine ⟨_, ?_, rfl⟩
      simp [Op.stringOp, e1, bless]
  · simp at h
end
end Go.Abs
