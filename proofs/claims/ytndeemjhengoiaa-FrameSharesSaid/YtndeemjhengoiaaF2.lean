/- The fast machine, part 2: forcing, integers, strings. Each is the abstract machine's own operation, told on. Plain Lean. -/
import Derived.Test.YtndeemjhengoiaaF1
namespace Go.Abs.F
open Go.Abs
noncomputable section

def ifb (b : Bool) (x y : R) : R := @Bool.rec (fun _ => R) y x b
theorem ifb_eq (b : Bool) (x y : R) : ifb b x y = bif b then x else y := by cases b <;> rfl
def fN (m : Nat) (k : Nat → R) : R := @Nat.rec (fun _ => R) (k (nat_lit 0)) (fun n _ => k (Nat.succ n)) m
theorem fN_eq (m : Nat) (k : Nat → R) : fN m k = k m := by cases m <;> rfl
def fI (n : Int) (k : Int → R) : R := @Int.rec (fun _ => R) (fun m => fN m fun m => k (.ofNat m)) (fun m => fN m fun m => k (.negSucc m)) n
theorem fI_eq (n : Int) (k : Int → R) : fI n k = k n := by cases n <;> simp only [fI, fN_eq]
def fB (b : Bool) (k : Bool → R) : R := @Bool.rec (fun _ => R) (k false) (k true) b
theorem fB_eq (b : Bool) (k : Bool → R) : fB b k = k b := by cases b <;> rfl
def fBy : List UInt8 → (List UInt8 → R) → R := @List.rec UInt8 (fun _ => (List UInt8 → R) → R) (fun k => k []) (fun b _ ih k => ih fun l => k (b :: l))
theorem fBy_eq : ∀ (l : List UInt8) (k : List UInt8 → R), fBy l k = k l
  | [], _ => rfl
  | b :: l, k => fBy_eq l fun l => k (b :: l)
def fA (a : Ad) (k : Ad → R) : R := @Ad.rec (fun _ => R) (fun b l o => fN b fun b => fN l fun l => fN o fun o => k ⟨b, l, o⟩) a
theorem fA_eq (a : Ad) (k : Ad → R) : fA a k = k a := by cases a; simp only [fA, fN_eq]
def fAO (a : Option Ad) (k : Option Ad → R) : R := @Option.rec Ad (fun _ => R) (k none) (fun a => fA a fun a => k (some a)) a
theorem fAO_eq (a : Option Ad) (k : Option Ad → R) : fAO a k = k a := by cases a <;> simp only [fAO, fA_eq]
def fNO (a : Option Nat) (k : Option Nat → R) : R := @Option.rec Nat (fun _ => R) (k none) (fun a => fN a fun a => k (some a)) a
theorem fNO_eq (a : Option Nat) (k : Option Nat → R) : fNO a k = k a := by cases a <;> simp only [fNO, fN_eq]
def fRm (r : Room) (k : Room → R) : R := @Room.rec (fun _ => R) (fun c => fN c fun c => k (.known c)) (fun c => fN c fun c => k (.open_ c)) r
theorem fRm_eq (r : Room) (k : Room → R) : fRm r k = k r := by cases r <;> simp only [fRm, fN_eq]

/-- a whole value -/
def fV : AVal → (AVal → R) → R := @AVal.rec (fun _ => (AVal → R) → R) (fun _ => (List AVal → R) → R)
  (fun b k => fB b fun b => k (.bool b)) (fun kd n k => fI n fun n => k (.int kd n)) (fun s k => fBy s fun s => k (.str s)) (fun a k => fAO a fun a => k (.ptr a))
  (fun a n r k => fAO a fun a => fN n fun n => fRm r fun r => k (.slice a n r)) (fun a k => fNO a fun a => k (.map a)) (fun fn _ _ ia ib k => ia fun a => ib fun b => k (.func fn a b))
  (fun k => k .nilFunc) (fun t _ ih k => ih fun v => k (.iface t v)) (fun k => k .nilIface) (fun _ ih k => ih fun l => k (.agg l)) (fun _ ih k => ih fun l => k (.tuple l)) (fun v k => k (.val v))
  (fun k => k []) (fun _ _ ix il k => ix fun x => il fun l => k (x :: l))
def fVs : List AVal → (List AVal → R) → R := @List.rec AVal (fun _ => (List AVal → R) → R) (fun k => k []) (fun x _ il k => fV x fun x => il fun l => k (x :: l))
theorem fV_eq (x : AVal) : ∀ k, fV x k = k x := by
  refine @AVal.rec (fun x => ∀ k, fV x k = k x) (fun l => ∀ k, @AVal.rec_1 (fun _ => (AVal → R) → R) (fun _ => (List AVal → R) → R)
    (fun b k => fB b fun b => k (.bool b)) (fun kd n k => fI n fun n => k (.int kd n)) (fun s k => fBy s fun s => k (.str s)) (fun a k => fAO a fun a => k (.ptr a))
    (fun a n r k => fAO a fun a => fN n fun n => fRm r fun r => k (.slice a n r)) (fun a k => fNO a fun a => k (.map a)) (fun fn _ _ ia ib k => ia fun a => ib fun b => k (.func fn a b))
    (fun k => k .nilFunc) (fun t _ ih k => ih fun v => k (.iface t v)) (fun k => k .nilIface) (fun _ ih k => ih fun l => k (.agg l)) (fun _ ih k => ih fun l => k (.tuple l)) (fun v k => k (.val v))
    (fun k => k []) (fun _ _ ix il k => ix fun x => il fun l => k (x :: l)) l k = k l) ?_ ?_ ?_ ?_ ?_ ?_ ?_ ?_ ?_ ?_ ?_ ?_ ?_ ?_ ?_ x
  · intro b k; exact fB_eq b fun b => k (.bool b)
  · intro kd n k; exact fI_eq n fun n => k (.int kd n)
  · intro s k; exact fBy_eq s fun s => k (.str s)
  · intro a k; exact fAO_eq a fun a => k (.ptr a)
  · intro a n r k
    show (fAO a fun a => fN n fun n => fRm r fun r => k (.slice a n r)) = _
    simp only [fAO_eq, fN_eq, fRm_eq]
  · intro a k; exact fNO_eq a fun a => k (.map a)
  · intro fn a b ha hb k; exact (ha _).trans (hb _)
  · intro k; rfl
  · intro t v ih k; exact ih _
  · intro k; rfl
  · intro l ih k; exact ih _
  · intro l ih k; exact ih _
  · intro v k; rfl
  · intro k; rfl
  · intro v l hv hl k; exact (hv _).trans (hl _)
theorem fVs_eq : ∀ (l : List AVal) (k : List AVal → R), fVs l k = k l
  | [], _ => rfl
  | x :: l, k => (fV_eq x _).trans (fVs_eq l _)

def vInt (x : AVal) (k : IntKind → Int → R) : R := @AVal.rec (fun _ => R) (fun _ => Unit) (fun _ => .no) (k) (fun _ => .no) (fun _ => .no) (fun _ _ _ => .no) (fun _ => .no) (fun _ _ _ _ _ => .no) .no (fun _ _ _ => .no) .no (fun _ _ => .no) (fun _ _ => .no) (fun _ => .no) () (fun _ _ _ _ => ()) x
def vIS (x : AVal) (k : IntKind → Int → R) (s : List UInt8 → R) : R := @AVal.rec (fun _ => R) (fun _ => Unit) (fun _ => .no) (k) (s) (fun _ => .no) (fun _ _ _ => .no) (fun _ => .no) (fun _ _ _ _ _ => .no) .no (fun _ _ _ => .no) .no (fun _ _ => .no) (fun _ _ => .no) (fun _ => .no) () (fun _ _ _ _ => ()) x
def vStr (x : AVal) (k : List UInt8 → R) : R := @AVal.rec (fun _ => R) (fun _ => Unit) (fun _ => .no) (fun _ _ => .no) (k) (fun _ => .no) (fun _ _ _ => .no) (fun _ => .no) (fun _ _ _ _ _ => .no) .no (fun _ _ _ => .no) .no (fun _ _ => .no) (fun _ _ => .no) (fun _ => .no) () (fun _ _ _ _ => ()) x
def vBool (x : AVal) (k : Bool → R) : R := @AVal.rec (fun _ => R) (fun _ => Unit) (k) (fun _ _ => .no) (fun _ => .no) (fun _ => .no) (fun _ _ _ => .no) (fun _ => .no) (fun _ _ _ _ _ => .no) .no (fun _ _ _ => .no) .no (fun _ _ => .no) (fun _ _ => .no) (fun _ => .no) () (fun _ _ _ _ => ()) x
def vPtr (x : AVal) (k : Ad → R) : R := @AVal.rec (fun _ => R) (fun _ => Unit) (fun _ => .no) (fun _ _ => .no) (fun _ => .no) (fun a => @Option.rec Ad (fun _ => R) .no k a) (fun _ _ _ => .no) (fun _ => .no) (fun _ _ _ _ _ => .no) .no (fun _ _ _ => .no) .no (fun _ _ => .no) (fun _ _ => .no) (fun _ => .no) () (fun _ _ _ _ => ()) x
def vSl (x : AVal) (k : Option Ad → Nat → Room → R) : R := @AVal.rec (fun _ => R) (fun _ => Unit) (fun _ => .no) (fun _ _ => .no) (fun _ => .no) (fun _ => .no) (k) (fun _ => .no) (fun _ _ _ _ _ => .no) .no (fun _ _ _ => .no) .no (fun _ _ => .no) (fun _ _ => .no) (fun _ => .no) () (fun _ _ _ _ => ()) x
def vSS (x : AVal) (k : Option Ad → Nat → Room → R) (s : List UInt8 → R) : R := @AVal.rec (fun _ => R) (fun _ => Unit) (fun _ => .no) (fun _ _ => .no) (s) (fun _ => .no) (k) (fun _ => .no) (fun _ _ _ _ _ => .no) .no (fun _ _ _ => .no) .no (fun _ _ => .no) (fun _ _ => .no) (fun _ => .no) () (fun _ _ _ _ => ()) x
def vAgg (x : AVal) (k : List AVal → R) : R := @AVal.rec (fun _ => R) (fun _ => Unit) (fun _ => .no) (fun _ _ => .no) (fun _ => .no) (fun _ => .no) (fun _ _ _ => .no) (fun _ => .no) (fun _ _ _ _ _ => .no) .no (fun _ _ _ => .no) .no (fun l _ => k l) (fun _ _ => .no) (fun _ => .no) () (fun _ _ _ _ => ()) x
def vTup (x : AVal) (k : List AVal → R) : R := @AVal.rec (fun _ => R) (fun _ => Unit) (fun _ => .no) (fun _ _ => .no) (fun _ => .no) (fun _ => .no) (fun _ _ _ => .no) (fun _ => .no) (fun _ _ _ _ _ => .no) .no (fun _ _ _ => .no) .no (fun _ _ => .no) (fun l _ => k l) (fun _ => .no) () (fun _ _ _ _ => ()) x
def vFn (x : AVal) (k : Fn → List AVal → List AVal → R) : R := @AVal.rec (fun _ => R) (fun _ => Unit) (fun _ => .no) (fun _ _ => .no) (fun _ => .no) (fun _ => .no) (fun _ _ _ => .no) (fun _ => .no) (fun f a b _ _ => k f a b) .no (fun _ _ _ => .no) .no (fun _ _ => .no) (fun _ _ => .no) (fun _ => .no) () (fun _ _ _ _ => ()) x
def vOne (x : AVal) (y n : R) : R := @AVal.rec (fun _ => R) (fun _ => Unit) (fun _ => y) (fun _ _ => y) (fun _ => y) (fun _ => y) (fun _ _ _ => y) (fun _ => y) (fun _ _ _ _ _ => y) (y) (fun _ _ _ => y) (y) (fun _ _ => n) (fun _ _ => n) (fun _ => y) () (fun _ _ _ _ => ()) x

theorem vOne_eq (x : AVal) (y n : R) : vOne x y n = bif x.one then y else n := by cases x <;> rfl

/-! ### integers -/
def mx (k : IntKind) : Nat := @IntKind.rec (fun _ => Nat) (nat_lit 127) (nat_lit 32767) (nat_lit 2147483647) (nat_lit 9223372036854775807) (nat_lit 255) (nat_lit 65535) (nat_lit 4294967295) (nat_lit 18446744073709551615) k
theorem wrF_small {k : IntKind} {m : Nat} (h : m ≤ mx k) : wrF k (.ofNat m) = .ofNat m := by
  cases k <;> simp only [mx, wrF, uwr, swr, ble_dec, Bool.cond_decide] at h ⊢ <;> (try split) <;> (try congr 1) <;> omega
def fW (kd : IntKind) (m : Nat) (k : AVal → R) : R := ifb (Nat.ble m (mx kd)) (fN m fun m => k (.int kd (.ofNat m))) (fI (wrF kd (.ofNat m)) fun n => k (.int kd n))
theorem fW_eq (kd : IntKind) (m : Nat) (k : AVal → R) : fW kd m k = k (.int kd (wrF kd (.ofNat m))) := by
  simp only [fW, ifb_eq, fN_eq, fI_eq]
  cases h : Nat.ble m (mx kd) with
  | true => rw [wrF_small (Nat.le_of_ble_eq_true h)]; rfl
  | false => rfl
def fWI (kd : IntKind) (n : Int) (k : AVal → R) : R := fI (wrF kd n) fun n => k (.int kd n)
theorem fWI_eq (kd : IntKind) (n : Int) (k : AVal → R) : fWI kd n k = k (.int kd (wrF kd n)) := fI_eq _ _
def iNN (a b : Int) (f : Nat → Nat → R) (z : R) : R := @Int.rec (fun _ => R) (fun m => @Int.rec (fun _ => R) (fun n => f m n) (fun _ => z) b) (fun _ => z) a
def kn (k : IntKind) : Nat := @IntKind.rec (fun _ => Nat) (nat_lit 0) (nat_lit 1) (nat_lit 2) (nat_lit 3) (nat_lit 4) (nat_lit 5) (nat_lit 6) (nat_lit 7) k
def fK (a b : IntKind) (y : R) : R := ifb (Nat.beq (kn a) (kn b)) y .no
theorem fK_eq (a b : IntKind) (y : R) : fK a b y = if a = b then y else .no := by
  simp only [fK, ifb_eq, beq_dec]
  cases a <;> cases b <;> rfl
/-- told on -/
def on (r : Option AVal) (k : AVal → R) : R := match r with | some v => k v | none => .no
def onF (r : Option AVal) (k : AVal → R) : R := @Option.rec AVal (fun _ => R) .no (fun v => fV v k) r
theorem onF_eq (r : Option AVal) (k : AVal → R) : onF r k = on r k := by cases r with | none => rfl | some v => exact fV_eq v k

def sApp : List UInt8 → List UInt8 → (List UInt8 → R) → R := @List.rec UInt8 (fun _ => List UInt8 → (List UInt8 → R) → R) (fun y k => k y) (fun b _ ih y k => ih y fun l => k (b :: l))
theorem sApp_eq : ∀ (x y : List UInt8) (k : List UInt8 → R), sApp x y k = k (x ++ y)
  | [], _, _ => rfl
  | b :: x, y, k => sApp_eq x y fun l => k (b :: l)
def sLen : List UInt8 → Nat → (Nat → R) → R := @List.rec UInt8 (fun _ => Nat → (Nat → R) → R) (fun n k => k n) (fun _ _ ih n k => fN (Nat.succ n) fun n => ih n k)
theorem sLen_eq : ∀ (x : List UInt8) (n : Nat) (k : Nat → R), sLen x n k = k (x.length + n)
  | [], n, k => by show k n = _; simp
  | b :: x, n, k => by
    show fN (Nat.succ n) (fun n => sLen x n k) = _
    rw [fN_eq, sLen_eq x]; congr 1; simp only [List.length_cons]; omega
def sEq : List UInt8 → List UInt8 → Bool := @List.rec UInt8 (fun _ => List UInt8 → Bool) (@List.rec UInt8 (fun _ => Bool) true (fun _ _ _ => false))
  (fun b _ ih y => @List.rec UInt8 (fun _ => Bool) false (fun c t _ => @Bool.rec (fun _ => Bool) false (ih t) (Nat.beq b.toNat c.toNat)) y)
theorem sEq_eq : ∀ x y : List UInt8, sEq x y = (x == y)
  | [], [] => rfl
  | [], _ :: _ => rfl
  | _ :: _, [] => rfl
  | b :: x, c :: y => by
    show @Bool.rec (fun _ => Bool) false (sEq x y) (Nat.beq b.toNat c.toNat) = _
    rw [sEq_eq x y, beq_dec]
    by_cases h : b = c
    · subst h; simp
    · have : ¬ b.toNat = c.toNat := fun e => h (UInt8.toNat_inj.1 e)
      simp [h, this]
def fAdd (x y : AVal) (k : AVal → R) : R := vIS x (fun kd a => vInt y fun kd' b => fK kd kd' (iNN a b (fun m n => fW kd (Nat.add m n) k) (fWI kd (Int.add a b) k)))
  (fun s => vStr y fun t => sLen s (nat_lit 0) fun n => sLen t n fun n => ifb (Nat.ble n (nat_lit 9223372036854775807)) (sApp s t fun l => k (.str l)) .no)
theorem fAdd_eq (x y : AVal) (k : AVal → R) : fAdd x y k = on (aBin .add x y) k := by
  cases x <;> (try (cases y <;> rfl))
  case int kd a =>
    cases y <;> (try rfl)
    case int kd' b =>
      show fK kd kd' _ = on (if kd = kd' then aIntF .add kd a b else none) k
      rw [fK_eq]
      split
      · cases a <;> cases b <;> simp only [iNN, fW_eq, fWI_eq, on, aIntF] <;> rfl
      · rfl
  case str s =>
    cases y <;> (try rfl)
    case str t =>
      show (sLen s 0 fun n => sLen t n fun n => ifb _ _ _) = on (aStr .add s t) k
      simp only [sLen_eq, sApp_eq, ifb_eq, aStr, Nat.add_zero, Nat.add_comm t.length]
      cases Nat.ble (s.length + t.length) 9223372036854775807 <;> rfl
def fArith (op : BinOp) (f : IntKind → Nat → Nat → (AVal → R) → R) (x y : AVal) (k : AVal → R) : R :=
  vInt x fun kd a => vInt y fun kd' b => fK kd kd' (iNN a b (fun m n => f kd m n k) (onF (aIntF op kd a b) k))
theorem fArith_eq {op : BinOp} (hs : isShift op = false) {f : IntKind → Nat → Nat → (AVal → R) → R} (hf : ∀ kd m n k, f kd m n k = on (aIntF op kd (.ofNat m) (.ofNat n)) k) {x y : AVal} (hx : ∃ kd a, x = .int kd a) (k : AVal → R) :
    fArith op f x y k = on (aBin op x y) k := by
  obtain ⟨kd, a, rfl⟩ := hx
  cases y <;> (try rfl)
  case int kd' b =>
    show fK kd kd' _ = on (bif isShift op then aShiftF op kd a b else if kd = kd' then aIntF op kd a b else none) k
    rw [fK_eq, hs]
    simp only [cond_false]
    split
    · cases a <;> cases b <;> simp only [iNN, onF_eq, hf]
    · rfl
theorem fArith_no {op : BinOp} {f : IntKind → Nat → Nat → (AVal → R) → R} {x y : AVal} (hx : ∀ kd a, x ≠ .int kd a) (k : AVal → R) : fArith op f x y k = .no := by
  cases x <;> (try rfl)
  exact absurd rfl (hx _ _)
def fSub := fArith .sub fun kd m n k => ifb (Nat.ble n m) (fW kd (Nat.sub m n) k) (fWI kd (Int.sub (.ofNat m) (.ofNat n)) k)
def fMul := fArith .mul fun kd m n k => fW kd (Nat.mul m n) k
def fQuo := fArith .quo fun kd m n k => ifb (Nat.beq n (nat_lit 0)) .no (fW kd (Nat.div m n) k)
def fRem := fArith .rem fun kd m n k => ifb (Nat.beq n (nat_lit 0)) .no (fN (Nat.mod m n) fun r => k (.int kd (.ofNat r)))
def fBit (op : BinOp) (g : Nat → Nat → Nat) := fArith op fun kd m n k => ifb (Nat.ble m (mx kd)) (ifb (Nat.ble n (mx kd)) (fW kd (g m n) k) .no) .no
/-- one way: what the fast one tells, the other tells -/
def OneWay (f : (AVal → R) → R) (r : Option AVal) : Prop := (∀ k, f k = .no) ∨ ∃ v, r = some v ∧ ∀ k, f k = k v
theorem oneWay_on {f : (AVal → R) → R} {r : Option AVal} (h : ∀ k, f k = on r k) : OneWay f r := by
  cases r with
  | none => exact .inl h
  | some v => exact .inr ⟨v, rfl, h⟩
theorem oneWay_no {f : (AVal → R) → R} {r : Option AVal} (h : ∀ k, f k = .no) : OneWay f r := .inl h
theorem fArith_way {op : BinOp} (hs : isShift op = false) {f : IntKind → Nat → Nat → (AVal → R) → R} (hf : ∀ kd m n k, f kd m n k = on (aIntF op kd (.ofNat m) (.ofNat n)) k) (x y : AVal) : OneWay (fArith op f x y) (aBin op x y) := by
  by_cases h : ∃ kd a, x = .int kd a
  · exact oneWay_on (fArith_eq hs hf h)
  · exact oneWay_no (fArith_no fun kd a e => h ⟨kd, a, e⟩)
theorem fAdd_way (x y : AVal) : OneWay (fAdd x y) (aBin .add x y) := oneWay_on (fAdd_eq x y)
theorem fSub_way (x y : AVal) : OneWay (fSub x y) (aBin .sub x y) := fArith_way rfl (fun kd m n k => by
  simp only [ifb_eq, fW_eq, fWI_eq, aIntF, on]
  cases h : Nat.ble n m with
  | true =>
    have := Nat.le_of_ble_eq_true h
    have e : (Int.ofNat m - Int.ofNat n) = Int.ofNat (Nat.sub m n) := by simp only [Int.ofNat_eq_natCast]; have : Nat.sub m n = m - n := rfl; omega
    rw [e]; rfl
  | false => rfl) x y
theorem fMul_way (x y : AVal) : OneWay (fMul x y) (aBin .mul x y) := fArith_way rfl (fun kd m n k => by simp only [fW_eq, aIntF, on]; rfl) x y
theorem fQuo_way (x y : AVal) : OneWay (fQuo x y) (aBin .quo x y) := fArith_way rfl (fun kd m n k => by
  simp only [ifb_eq, fW_eq, aIntF]
  have e : eqF (.ofNat n) 0 = Nat.beq n 0 := rfl
  rw [e]
  cases h : Nat.beq n 0 <;> rfl) x y
theorem fRem_way (x y : AVal) : OneWay (fRem x y) (aBin .rem x y) := fArith_way rfl (fun kd m n k => by
  simp only [ifb_eq, fN_eq, aIntF]
  have e : eqF (.ofNat n) 0 = Nat.beq n 0 := rfl
  rw [e]
  cases h : Nat.beq n 0 <;> rfl) x y
theorem mx_lt (k : IntKind) : mx k < 2 ^ k.bits := by cases k <;> simp [mx, IntKind.bits]
theorem fBit_way {op : BinOp} {g : Nat → Nat → Nat} {z : IntKind → Int → Int → Int} (hs : isShift op = false) (hg : ∀ k a b, aIntF op k a b = some (.int k (bitsF k g (z k a b) a b))) (x y : AVal) : OneWay (fBit op g x y) (aBin op x y) := by
  by_cases h : ∃ kd a, x = .int kd a
  · obtain ⟨kd, a, rfl⟩ := h
    cases y
    case int kd' b =>
      by_cases hk : kd = kd'
      · subst hk
        have hb : aBin op (.int kd a) (.int kd b) = aIntF op kd a b := by simp only [aBin, hs, cond_false, if_true]
        have hu : ∀ k, fBit op g (.int kd a) (.int kd b) k = iNN a b (fun m n => ifb (Nat.ble m (mx kd)) (ifb (Nat.ble n (mx kd)) (fW kd (g m n) k) .no) .no) (onF (aIntF op kd a b) k) := fun k => by
          show fK kd kd _ = _
          rw [fK_eq, if_pos rfl]
        rw [hb]
        cases a with
        | negSucc a => exact oneWay_on fun k => by rw [hu]; exact onF_eq _ _
        | ofNat m => cases b with
          | negSucc b => exact oneWay_on fun k => by rw [hu]; exact onF_eq _ _
          | ofNat n =>
            cases h1 : Nat.ble m (mx kd) with
            | false => exact oneWay_no fun k => by rw [hu]; simp only [iNN, ifb_eq, h1]; rfl
            | true =>
              cases h2 : Nat.ble n (mx kd) with
              | false => exact oneWay_no fun k => by rw [hu]; simp only [iNN, ifb_eq, h1, h2]; rfl
              | true =>
                refine oneWay_on fun k => ?_
                rw [hu]
                have q1 := Nat.lt_of_le_of_lt (Nat.le_of_ble_eq_true h1) (mx_lt kd)
                have q2 := Nat.lt_of_le_of_lt (Nat.le_of_ble_eq_true h2) (mx_lt kd)
                simp only [iNN, ifb_eq, h1, h2, fW_eq, hg, bitsF, on, Nat.mod_eq_of_lt q1, Nat.mod_eq_of_lt q2, cond_true]
      · exact oneWay_no fun k => by
          show fK kd kd' _ = _
          rw [fK_eq, if_neg hk]
    all_goals exact oneWay_no fun k => rfl
  · exact oneWay_no (fArith_no fun kd a e => h ⟨kd, a, e⟩)
theorem fAnd_way (x y : AVal) : OneWay (fBit .and Nat.land x y) (aBin .and x y) := fBit_way rfl (fun _ _ _ => rfl) x y
theorem fOr_way (x y : AVal) : OneWay (fBit .or Nat.lor x y) (aBin .or x y) := fBit_way rfl (fun _ _ _ => rfl) x y
theorem fXor_way (x y : AVal) : OneWay (fBit .xor Nat.xor x y) (aBin .xor x y) := fBit_way rfl (fun _ _ _ => rfl) x y
def fGenB (op : BinOp) (x y : AVal) (k : AVal → R) : R := onF (aBin op x y) k
theorem fGenB_way (op : BinOp) (x y : AVal) : OneWay (fGenB op x y) (aBin op x y) := oneWay_on fun k => onF_eq _ k
def shN (kd : IntKind) (n : Nat) : Nat := @Bool.rec (fun _ => Nat) kd.bits n (Nat.ble n kd.bits)
def fShl (x y : AVal) (k : AVal → R) : R := vInt x fun kd a => vInt y fun _ b => iNN a b (fun m n => fW kd (Nat.mul m (Nat.pow (nat_lit 2) (shN kd n))) k) (onF (aShiftF .shl kd a b) k)
def fShr (x y : AVal) (k : AVal → R) : R := vInt x fun kd a => vInt y fun _ b => iNN a b (fun m n => fN (Nat.div m (Nat.pow (nat_lit 2) (shN kd n))) fun r => k (.int kd (.ofNat r))) (onF (aShiftF .shr kd a b) k)
theorem shN_eq (kd : IntKind) (n : Nat) : shN kd n = bif Nat.ble n kd.bits then n else kd.bits := by unfold shN; cases Nat.ble n kd.bits <;> rfl
theorem fShl_way (x y : AVal) : OneWay (fShl x y) (aBin .shl x y) := by
  refine oneWay_on fun k => ?_
  cases x <;> (try (cases y <;> rfl))
  case int kd a =>
    cases y <;> (try rfl)
    case int kd' b =>
      show iNN a b _ _ = on (aShiftF .shl kd a b) k
      cases a <;> cases b <;> simp only [iNN, onF_eq, fW_eq, aShiftF, on, mulP, shN_eq] <;> rfl
theorem fShr_way (x y : AVal) : OneWay (fShr x y) (aBin .shr x y) := by
  refine oneWay_on fun k => ?_
  cases x <;> (try (cases y <;> rfl))
  case int kd a =>
    cases y <;> (try rfl)
    case int kd' b =>
      show iNN a b _ _ = on (aShiftF .shr kd a b) k
      cases a <;> cases b <;> simp only [iNN, onF_eq, fN_eq, aShiftF, on, divP, shN_eq] <;> rfl
/-! comparing -/
def fCmp (q : Nat → Nat → Bool) (qi : Int → Int → Bool) (qs : List UInt8 → List UInt8 → Bool) (x y : AVal) (k : AVal → R) : R :=
  vIS x (fun kd a => vInt y fun kd' b => fK kd kd' (iNN a b (fun m n => fB (q m n) fun r => k (.bool r)) (fB (qi a b) fun r => k (.bool r)))) (fun s => vStr y fun t => fB (qs s t) fun r => k (.bool r))
theorem fCmp_way {op : BinOp} {q : Nat → Nat → Bool} {qi : Int → Int → Bool} {qs : List UInt8 → List UInt8 → Bool} (hs : isShift op = false) (h1 : ∀ k a b, aIntF op k a b = some (.bool (qi a b))) (h2 : ∀ m n, qi (.ofNat m) (.ofNat n) = q m n)
    (h3 : ∀ s t, aStr op s t = some (.bool (qs s t))) (x y : AVal) : OneWay (fCmp q qi qs x y) (aBin op x y) := by
  refine oneWay_on fun k => ?_
  cases x <;> (try (cases y <;> rfl))
  case int kd a =>
    cases y <;> (try rfl)
    case int kd' b =>
      show fK kd kd' _ = on (bif isShift op then aShiftF op kd a b else if kd = kd' then aIntF op kd a b else none) k
      rw [fK_eq, hs]
      simp only [cond_false]
      split
      · cases a <;> cases b <;> simp only [iNN, fB_eq, h1, on, h2]
      · rfl
  case str s =>
    cases y <;> (try rfl)
    case str t =>
      show fB (qs s t) (fun r => k (.bool r)) = on (aStr op s t) k
      rw [fB_eq, h3]; rfl
def nt (b : Bool) : Bool := @Bool.rec (fun _ => Bool) true false b
theorem nt_eq (b : Bool) : nt b = !b := by cases b <;> rfl
def fEql := fCmp Nat.beq eqF sEq
def fNeq := fCmp (fun m n => nt (Nat.beq m n)) (fun a b => nt (eqF a b)) (fun s t => nt (sEq s t))
def fLss := fCmp (fun m n => Nat.ble (Nat.succ m) n) ltF bless
def fLeq := fCmp (fun m n => nt (Nat.ble (Nat.succ n) m)) (fun a b => nt (ltF b a)) (fun s t => bless s t || s == t)
def fGtr := fCmp (fun m n => Nat.ble (Nat.succ n) m) (fun a b => ltF b a) (fun s t => !(bless s t || s == t))
def fGeq := fCmp (fun m n => nt (Nat.ble (Nat.succ m) n)) (fun a b => nt (ltF a b)) (fun s t => !(bless s t))
theorem fEql_way (x y : AVal) : OneWay (fEql x y) (aBin .eql x y) := fCmp_way (op := .eql) (q := Nat.beq) (qi := eqF) (qs := sEq) rfl (fun _ _ _ => rfl) (fun _ _ => rfl) (fun s t => by rw [sEq_eq]; rfl) x y
theorem fNeq_way (x y : AVal) : OneWay (fNeq x y) (aBin .neq x y) := fCmp_way (op := .neq) (q := (fun m n => nt (Nat.beq m n))) (qi := (fun a b => nt (eqF a b))) (qs := (fun s t => nt (sEq s t))) rfl (fun _ _ _ => by simp only [nt_eq]; rfl) (fun _ _ => rfl) (fun s t => by rw [sEq_eq, nt_eq]; rfl) x y
theorem fLss_way (x y : AVal) : OneWay (fLss x y) (aBin .lss x y) := fCmp_way (op := .lss) (q := (fun m n => Nat.ble (Nat.succ m) n)) (qi := ltF) (qs := bless) rfl (fun _ _ _ => rfl) (fun _ _ => rfl) (fun _ _ => rfl) x y
theorem fLeq_way (x y : AVal) : OneWay (fLeq x y) (aBin .leq x y) := fCmp_way (op := .leq) (q := (fun m n => nt (Nat.ble (Nat.succ n) m))) (qi := (fun a b => nt (ltF b a))) (qs := (fun s t => bless s t || s == t)) rfl (fun _ _ _ => by simp only [nt_eq]; rfl) (fun _ _ => rfl) (fun _ _ => rfl) x y
theorem fGtr_way (x y : AVal) : OneWay (fGtr x y) (aBin .gtr x y) := fCmp_way (op := .gtr) (q := (fun m n => Nat.ble (Nat.succ n) m)) (qi := (fun a b => ltF b a)) (qs := (fun s t => !(bless s t || s == t))) rfl (fun _ _ _ => rfl) (fun _ _ => rfl) (fun _ _ => rfl) x y
theorem fGeq_way (x y : AVal) : OneWay (fGeq x y) (aBin .geq x y) := fCmp_way (op := .geq) (q := (fun m n => nt (Nat.ble (Nat.succ m) n))) (qi := (fun a b => nt (ltF a b))) (qs := (fun s t => !(bless s t))) rfl (fun _ _ _ => by simp only [nt_eq]; rfl) (fun _ _ => rfl) (fun _ _ => rfl) x y
def fBinOp : BinOp → AVal → AVal → (AVal → R) → R
  | .add => fAdd | .sub => fSub | .mul => fMul | .quo => fQuo | .rem => fRem | .and => fBit .and Nat.land | .or => fBit .or Nat.lor | .xor => fBit .xor Nat.xor
  | .shl => fShl | .shr => fShr | .eql => fEql | .neq => fNeq | .lss => fLss | .leq => fLeq | .gtr => fGtr | .geq => fGeq | op => fGenB op
theorem fBinOp_way (op : BinOp) (x y : AVal) : OneWay (fBinOp op x y) (aBin op x y) := by
  cases op
  case add => exact fAdd_way x y
  case sub => exact fSub_way x y
  case mul => exact fMul_way x y
  case quo => exact fQuo_way x y
  case rem => exact fRem_way x y
  case and => exact fAnd_way x y
  case or => exact fOr_way x y
  case xor => exact fXor_way x y
  case shl => exact fShl_way x y
  case shr => exact fShr_way x y
  case eql => exact fEql_way x y
  case neq => exact fNeq_way x y
  case lss => exact fLss_way x y
  case leq => exact fLeq_way x y
  case gtr => exact fGtr_way x y
  case geq => exact fGeq_way x y
  all_goals exact fGenB_way _ x y
def fConv (kd : IntKind) (x : AVal) (k : AVal → R) : R := vInt x fun _ n => @Int.rec (fun _ => R) (fun m => fW kd m k) (fun m => fWI kd (.negSucc m) k) n
theorem fConv_way (kd : IntKind) (x : AVal) : OneWay (fConv kd x) (aConv kd x) := by
  refine oneWay_on fun k => ?_
  cases x <;> (try rfl)
  case int k' n => cases n <;> simp only [fConv, aConv, on, vInt, fW_eq, fWI_eq]
end
end Go.Abs.F

