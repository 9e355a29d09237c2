/- Part of a proof (N4 RN3 RN4 R1 R2); no condition. -/
import Derived.Test.YthdkgakoogjoaaaDoorP6
import Derived.Test.YthdkgakoogjoaaaDoorP7
import Derived.Test.YthdkgakoogjoaaaDoorP11
set_option linter.unusedSimpArgs false
set_option linter.unusedVariables false
set_option linter.unnecessarySimpa false
/- Functions that were run at each of some arguments, as functions that are given. Plain Lean. -/
namespace Go.Abs
open Go.Abs.S (Glo)
section
variable {P : Program}
/-- the world holds these rows; they may have more cells -/
structure GHold (W : World) (n : Nat) (l : List (Nat × List AVal)) : Prop where
  size : n ≤ W.heap.size
  rows : ∀ p ∈ l, p.1 < n ∧ ∃ (C : Array Value) (e : TypeId) (fz : Nat × Nat), W.heap[p.1]? = some (.cells C e fz) ∧ p.2.length ≤ C.size ∧ ∀ (i : Nat) (x : AVal), p.2[i]? = some x → ∃ v : Value, C[i]? = some v ∧ ∀ ρ, VRel ρ x v
def gPl2 (W : World) (H : AHeap) : Pl := fun b l => match H.get b, W.heap[b]? with
  | some (.cells xs _ true), some (.cells C _ _) => if l = xs.length then some ⟨b, 0, C.size, false⟩ else none
  | _, _ => none
theorem gPl2_inv {W : World} {H : AHeap} {b l : Nat} {L : Loc} (h : gPl2 W H b l = some L) : ∃ xs low C e fz, H.get b = some (.cells xs low true) ∧ W.heap[b]? = some (.cells C e fz) ∧ l = xs.length ∧ L = ⟨b, 0, C.size, false⟩ := by
  unfold gPl2 at h
  split at h
  · rename_i xs low C e fz hg hw
    split at h
    · rename_i he
      simp only [Option.some.injEq] at h
      exact ⟨xs, low, C, e, fz, hg, hw, he, h.symm⟩
    · simp at h
  · simp at h
theorem rel_gstart2 {W : World} {n : Nat} {l : List (Nat × List AVal)} (hG : GHold W n l) : Rel ⟨fun c => c < W.heap.size, fun _ => False⟩ W (gPl2 W (gHeap n l)) (gHeap n l) W := by
  have hget : ∀ b o, (gHeap n l).get b = some o → ∃ xs, (b, xs) ∈ l ∧ o = .cells xs 0 true := fun b o h => gTr_get l b o h
  have hrow : ∀ b xs low ro, (gHeap n l).get b = some (.cells xs low ro) → low = 0 ∧ ro = true ∧ b < n ∧ ∃ (C : Array Value) (e : TypeId) (fz : Nat × Nat), W.heap[b]? = some (.cells C e fz) ∧ xs.length ≤ C.size ∧ ∀ (i : Nat) (x : AVal), xs[i]? = some x → ∃ v : Value, C[i]? = some v ∧ ∀ ρ, VRel ρ x v := by
    intro b xs low ro h
    obtain ⟨ys, h1, h2⟩ := hget b _ h
    simp only [AObj.cells.injEq] at h2
    obtain ⟨rfl, rfl, rfl⟩ := h2
    obtain ⟨h3, h4⟩ := hG.rows _ h1
    exact ⟨rfl, rfl, h3, h4⟩
  have hrw : ∀ b x, (gHeap n l).get b = some x → x.rw = false := by
    intro b x h
    obtain ⟨ys, _, rfl⟩ := hget b x h
    rfl
  refine ⟨rfl, rfl, rfl, Nat.le_refl _, fun _ hc => ⟨hc, rfl⟩, fun b l' L h => ?_, fun b l' L h => ?_, fun b l' L x _ hx hr => ?_, fun b l' L b' l'' L' x _ _ _ hx hr => ?_, fun _ h => h.elim, fun b l' low h => ?_⟩
  · obtain ⟨xs, low, C, e, fz, h1, _, rfl, rfl⟩ := gPl2_inv h
    obtain ⟨_, _, h2, _⟩ := hrow _ _ _ _ h1
    exact ⟨h2, Nat.lt_of_lt_of_le h2 hG.size⟩
  · obtain ⟨xs, low, C, e, fz, h1, hw, rfl, rfl⟩ := gPl2_inv h
    obtain ⟨rfl, _, _, C', e', fz', h3, h4, h5⟩ := hrow _ _ _ _ h1
    have hw' : W.heap[b]? = some (.cells C e fz) := hw
    rw [h3] at hw'
    simp only [Option.some.injEq, Obj.cells.injEq] at hw'
    obtain ⟨rfl, rfl, rfl⟩ := hw'
    obtain ⟨lo, hi⟩ := fz'
    refine ⟨_, _, h1, h3, ?_⟩
    simp only [ORel]
    refine ⟨C', e', lo, hi, rfl, rfl, fun h => by simp at h, Nat.le_refl _, fun _ i _ hi => ?_⟩
    have hx : xs[i]? = some (xs[i]'hi) := List.getElem?_eq_getElem hi
    obtain ⟨v, q1, q2⟩ := h5 _ _ hx
    exact ⟨_, v, hx, by simpa using q1, q2 _⟩
  · rw [hrw _ _ hx] at hr; simp at hr
  · rw [hrw _ _ hx] at hr; simp at hr
  · obtain ⟨rfl, _, _, C, e, fz, h3, _⟩ := hrow _ _ _ _ h
    refine ⟨⟨b, 0, C.size, false⟩, ?_, rfl, rfl⟩
    unfold gPl2
    rw [h, h3]
    simp
/-- rows that are only read, in the world -/
theorem ghold_of_rel {Prot : Gh} {w0 : World} {ρ : Pl} {H : AHeap} {w : World} (R : Rel Prot w0 ρ H w) {n : Nat} {l : List (Nat × List AVal)} (hn : n ≤ w.heap.size) (hl : ∀ p ∈ l, p.1 < n ∧ Glo H p.1 p.2 ∧ ∀ x ∈ p.2, ∃ k m, x = .int k m) : GHold w n l := by
  refine ⟨hn, fun p hp => ?_⟩
  obtain ⟨h1, h2, h3⟩ := hl p hp
  refine ⟨h1, ?_⟩
  have hg : H.get p.1 = some (.cells p.2 0 true) := h2
  obtain ⟨L, g1, g2, g3⟩ := R.glob _ _ _ hg
  obtain ⟨x, o, q1, q2, q3⟩ := R.obj _ _ _ g1
  rw [hg] at q1
  simp only [Option.some.injEq] at q1
  subst q1
  simp only [ORel] at q3
  obtain ⟨C, e, lo, hi, rfl, q4, _, q5, q6⟩ := q3
  rw [g2] at q2
  have q7 := q6 (Nat.zero_le _)
  refine ⟨C, e, _, q2, ?_, fun i x hx => ?_⟩
  · by_cases h0 : p.2.length = 0
    · omega
    · obtain ⟨x, v, _, r2, _⟩ := q7 (p.2.length - 1) (by omega) (by omega)
      have := (Array.getElem?_eq_some_iff.1 r2).1
      omega
  · have hlt := (List.getElem?_eq_some_iff.1 hx).1
    obtain ⟨y, v, r1, r2, r3⟩ := q7 i (by omega) hlt
    rw [hx] at r1
    simp only [Option.some.injEq] at r1
    subst r1
    rw [g3, Nat.sub_zero] at r2
    refine ⟨v, r2, fun ρ' => ?_⟩
    obtain ⟨k, m, rfl⟩ := h3 x (List.mem_of_getElem? hx)
    simpa only [VRel] using r3
end
/-- numbers alone -/
def isInts : List AVal → Option (List (IntKind × Int))
  | [] => some []
  | .int k n :: r => match isInts r with
    | some l => some ((k, n) :: l)
    | none => none
  | _ :: _ => none
def mkInt (p : IntKind × Int) : Value := .int p.1 p.2
theorem isInts_rel {ρ : Pl} : ∀ {args : List AVal} {l : List (IntKind × Int)}, isInts args = some l → ∀ {vs : List Value}, VRels ρ args vs → vs = l.map mkInt := by
  intro args
  induction args with
  | nil =>
    intro l h vs hv
    simp only [isInts, Option.some.injEq] at h
    subst h
    simpa [VRels] using hv
  | cons x r ih =>
    intro l h vs hv
    simp only [VRels] at hv
    obtain ⟨v, vs', rfl, h1, h2⟩ := hv
    cases x <;> simp only [isInts, reduceCtorEq] at h
    split at h
    · rename_i l' hl
      simp only [Option.some.injEq] at h
      subst h
      simp only [VRel] at h1
      rw [ih hl h2, h1]; rfl
    · simp at h
theorem isInts_mk : ∀ (l : List (IntKind × Int)), isInts (l.map fun p => .int p.1 p.2) = some l
  | [] => rfl
  | (k, n) :: l => by simp only [List.map_cons, isInts, isInts_mk l]
/-- a value that needs no memory -/
def litV : AVal → Value
  | .bool b => .bool b
  | .str s => .string (strOf s)
  | _ => .nilIface
open Classical in
/-- what is told at such numbers, where the tables are as they should be -/
noncomputable def aClosed (l : List (Nat × List AVal)) (F : List (IntKind × Int) → Option AVal) (args : List AVal) (H : AHeap) : Option (AVal × AHeap) := match isInts args with
  | some a => match F a with
    | some x => if (∀ p ∈ l, Glo H p.1 p.2) then some (x, H) else none
    | none => none
  | none => none
/-- it was run at each of them -/
structure Closed (P : Program) (f : FuncId) (n : Nat) (l : List (Nat × List AVal)) (F : List (IntKind × Int) → Option AVal) : Prop where
  tabs : ∀ p ∈ l, p.1 < n ∧ ∀ x ∈ p.2, ∃ k m, x = .int k m
  top : n = 0 ∨ ∃ p ∈ l, p.1 + 1 = n
  lit : ∀ a x, F a = some x → ∀ ρ, VRel ρ x (litV x)
  run : ∀ a x, F a = some x → ∀ W, GHold W n l → Calls P f (a.map mkInt).toArray W fun e w' => e = .returned (litV x) ∧ RowKit.Below W.heap.size W w'
theorem closed_sim {P : Program} {f : FuncId} {n : Nat} {l : List (Nat × List AVal)} {F : List (IntKind × Int) → Option AVal} (h : Closed P f n l F) {args : List AVal} {H H' : AHeap} {v : AVal} (hr : aClosed l F args H = some (v, H'))
    {Prot : Gh} {w0 : World} {ρ : Pl} {w : World} {vs : Array Value} (R : Rel Prot w0 ρ H w) (hv : VRels ρ args vs.toList) : Calls P f vs w fun e w' => ∃ ρ' u, ρ.le ρ' ∧ e = .returned u ∧ Rel Prot w0 ρ' H' w' ∧ VRel ρ' v u := by
  unfold aClosed at hr
  split at hr
  · rename_i a ha
    split at hr
    · rename_i x hx
      split at hr
      · rename_i hG
        simp only [Option.some.injEq, Prod.mk.injEq] at hr
        obtain ⟨rfl, rfl⟩ := hr
        have hvs : vs = (a.map mkInt).toArray := Array.toList_inj.1 (by simpa using isInts_rel ha hv)
        subst hvs
        have hn : n ≤ w.heap.size := by
          rcases h.top with rfl | ⟨p, hp, rfl⟩
          · exact Nat.zero_le _
          · have hg : H.get p.1 = some (.cells p.2 0 true) := hG p hp
            obtain ⟨L, g1, g2, _⟩ := R.glob _ _ _ hg
            have := (R.dom _ _ _ g1).2
            omega
        exact (h.run a x hx w (ghold_of_rel R hn fun p hp => ⟨(h.tabs p hp).1, hG p hp, (h.tabs p hp).2⟩)).mono fun e w' ⟨he, hk⟩ => ⟨ρ, _, Pl.le_refl _, he, R.keep hk, h.lit a x hx ρ⟩
      · simp at hr
    · simp at hr
  · simp at hr
end Go.Abs
namespace Go.Abs.F
open Go.Abs
noncomputable section
def allR : Nat → (Nat → R) → R := @Nat.rec (fun _ => (Nat → R) → R) (fun _ => .yes) (fun k ih p => @R.rec (fun _ => R) (ih p) .no (fun _ _ => .no) (p k))
theorem allR_ok : ∀ (n : Nat) (p : Nat → R), allR n p = .yes → ∀ k, k < n → p k = .yes
  | 0, p, _, k, hk => by omega
  | n + 1, p, h, k, hk => by
    have hu : allR (n + 1) p = @R.rec (fun _ => R) (allR n p) .no (fun _ _ => .no) (p n) := rfl
    rw [hu] at h
    cases hp : p n with
    | yes =>
      rw [hp] at h
      by_cases e : k = n
      · subst e; exact hp
      · exact allR_ok n p h k (by omega)
    | no => rw [hp] at h; exact absurd (show R.no = R.yes from h) (by simp)
    | val v hh => rw [hp] at h; exact absurd (show R.no = R.yes from h) (by simp)
def strT (s : List UInt8) (v : AVal) (_ : FHeap) : R := vStr v fun l => ifb (sEq l s) .yes .no
theorem strT_ok {s : List UInt8} {v : AVal} {h : FHeap} (e : strT s v h = .yes) : v = .str s := by
  unfold strT at e
  rcases vStr_way v with q | ⟨l, hl, q⟩
  · rw [q] at e; simp at e
  · rw [q, ifb_eq, sEq_eq] at e
    cases hb : (l == s) with
    | true => rw [hl]; congr 1; simpa using hb
    | false => rw [hb] at e; simp at e
def boolT (b : Bool) (v : AVal) (_ : FHeap) : R := vBool v fun c => ifb c (ifb b .yes .no) (ifb b .no .yes)
theorem boolT_ok {b : Bool} {v : AVal} {h : FHeap} (e : boolT b v h = .yes) : v = .bool b := by
  cases v
  case bool c => cases c <;> cases b <;> first | rfl | exact absurd e (by simp [boolT, vBool, ifb])
  all_goals exact absurd e (by simp [boolT, vBool])
/-- a call that needs some package-level variables and tells a value without memory -/
theorem g_closedV {P : Program} {N : ANat} (hfol : P.follows .mixedOrders = true) (hN : NatOK P N) {tab : Tab} (hT : TabF P N tab) {n m : Nat} {l : List (Nat × List AVal)} {f : FuncId} {args : List AVal} {vs : Array Value} (hv : ∀ ρ, VRels ρ args vs.toList) (hm : Nat.ble m 32768 = true)
    {T : AVal → FHeap → R} {x : AVal} {u : Value} (hx : ∀ ρ u', VRel ρ x u' → u' = u) (hTx : ∀ v h, T v h = .yes → v = x)
    (h : gStart l ⟨m, e5⟩ (fun h0 => fcall tab n f args h0 T) = .yes) {W : World} (hG : GHold W m l) : Calls P f vs W fun e w' => e = .returned u ∧ RowKit.Below W.heap.size W w' := by
  obtain ⟨A, hA, hR⟩ := hT
  rcases gStart_way (hr_empty m (Nat.le_of_ble_eq_true hm)) l with q | ⟨h0, q0, Q⟩
  · rw [q] at h; simp at h
  · rw [q0] at h
    rcases fcall_ok hR n f args h0 _ Q with q | ⟨v, h', H', q1, q3, _, q4⟩
    · rw [q] at h; simp at h
    · rw [q4] at h
      have hvx := hTx _ _ h
      subst hvx
      refine (acall_ok hfol hN hA n _ _ _ _ _ q3 _ W _ W vs (rel_gstart2 hG) (hv _)).mono fun e w' hx' => ?_
      obtain ⟨ρ', u', _, rfl, R, hu⟩ := hx'
      exact ⟨by rw [hx _ _ hu], R.below⟩
theorem lit_str (s : List UInt8) (ρ : Pl) (u : Value) (h : VRel ρ (.str s) u) : u = litV (.str s) := by simpa only [VRel, litV] using h
theorem lit_bool (b : Bool) (ρ : Pl) (u : Value) (h : VRel ρ (.bool b) u) : u = litV (.bool b) := by simpa only [VRel, litV] using h
/-- a number in digits -/
def dgB (d : Nat) : UInt8 := UInt8.ofNat (bif Nat.blt d 10 then 48 + d else 87 + d)
def dgF (b : Nat) : Nat → Nat → List UInt8 → List UInt8 := @Nat.rec (fun _ => Nat → List UInt8 → List UInt8) (fun _ l => l) fun _ ih n l => bif Nat.blt n b then dgB n :: l else ih (n / b) (dgB (n % b) :: l)
end
end Go.Abs.F
/- Reply: functions that were run at each of some numbers; strings.ToLower: given to the machine. Plain Lean. -/
namespace Go.Proofs.Re
open Go.Abs Go.Abs.F Go.Abs.S
open Go.Abs.TReplyNumbers (tab tab_ok)
def powL : List Int := [1, 10, 100, 1000, 10000, 100000, 1000000, 10000000, 100000000, 1000000000, 10000000000, 100000000000, 1000000000000, 10000000000000, 100000000000000, 1000000000000000, 10000000000000000, 100000000000000000, 1000000000000000000, 10000000000000000000]
def b64L : List Int := [0, 1, 56, 2, 57, 49, 28, 3, 61, 58, 42, 50, 38, 29, 17, 4, 62, 47, 59, 36, 45, 43, 51, 22, 53, 39, 33, 30, 24, 18, 12, 5, 63, 55, 48, 27, 60, 41, 37, 16, 46, 35, 44, 21, 52, 32, 23, 11, 54, 26, 40, 15, 34, 20, 31, 10, 25, 14, 19, 9, 13, 8, 7, 6]
def gl : List (Nat × List AVal) := [(0, powL.map (.int .u64)), (3, b64L.map (.int .u8))]
abbrev Bs := List UInt8
/-- a number from 0 to 1000 in digits -/
def dec (n : Nat) : Bs := dgF 10 8 n []
def hex (n : Nat) : Bs := dgF 16 8 n []
/-- may a byte be a name's? -/
def tchB (n : Nat) : Bool := (Nat.ble 48 n && Nat.ble n 57) || ((Nat.ble 97 n && Nat.ble n 122) || ((Nat.ble 65 n && Nat.ble n 90) || (Nat.beq n 33 || (Nat.beq n 35 || (Nat.beq n 36 || (Nat.beq n 37 || (Nat.beq n 38 || (Nat.beq n 39 || (Nat.beq n 42 || (Nat.beq n 43 || (Nat.beq n 45 || (Nat.beq n 46 || (Nat.beq n 94 || (Nat.beq n 95 || (Nat.beq n 96 || (Nat.beq n 124 || Nat.beq n 126))))))))))))))))
theorem run24 : allR 1001 (fun n => gStart gl ⟨4, e5⟩ fun h0 => fcall tab 300 24 [.int .i64 (.ofNat n)] h0 (strT (dec n))) = .yes := by kernel_rfl
theorem run27 : allR 1001 (fun n => gStart gl ⟨4, e5⟩ fun h0 => fcall tab 300 27 [.int .i64 (.ofNat n), .int .i64 16] h0 (strT (hex n))) = .yes := by kernel_rfl
theorem run28a : allR 1001 (fun n => gStart gl ⟨4, e5⟩ fun h0 => fcall tab 300 28 [.int .i64 (.ofNat n), .int .i64 10] h0 (strT (dec n))) = .yes := by kernel_rfl
theorem run28b : allR 1001 (fun n => gStart gl ⟨4, e5⟩ fun h0 => fcall tab 300 28 [.int .i64 (.ofNat n), .int .i64 16] h0 (strT (hex n))) = .yes := by kernel_rfl
theorem run36 : allR 256 (fun n => gStart gl ⟨4, e5⟩ fun h0 => fcall tab 300 36 [.int .u8 (.ofNat n)] h0 (boolT (tchB n))) = .yes := by kernel_rfl
theorem run73 : allR 256 (fun n => gStart gl ⟨4, e5⟩ fun h0 => fcall tab 300 73 [.int .u8 (.ofNat n)] h0 (boolT (tchB n))) = .yes := by kernel_rfl
theorem run16 : gStart gl ⟨4, e5⟩ (fun h0 => fcall tab 3000 16 [] h0 (boolT true)) = .yes := by kernel_rfl
end Go.Proofs.Re
/- Reply: functions that were run at each of some numbers, as functions that are given; strings.ToLower. Plain Lean. -/
namespace Go.Proofs.Re
open Go.Abs Go.Abs.F Go.Abs.S
open Go.Abs.TReplyNumbers (tab tab_ok)
theorem gl_tabs : ∀ p ∈ gl, p.1 < 4 ∧ ∀ x ∈ p.2, ∃ k m, x = AVal.int k m := by
  intro p hp
  have hp' : p = (0, powL.map (.int .u64)) ∨ p = (3, b64L.map (.int .u8)) := by simpa [gl] using hp
  rcases hp' with rfl | rfl
  · exact ⟨by show (0 : Nat) < 4; omega, fun x hx => by obtain ⟨m, _, rfl⟩ := List.mem_map.1 hx; exact ⟨_, _, rfl⟩⟩
  · exact ⟨by show (3 : Nat) < 4; omega, fun x hx => by obtain ⟨m, _, rfl⟩ := List.mem_map.1 hx; exact ⟨_, _, rfl⟩⟩
theorem gl_top : (4 : Nat) = 0 ∨ ∃ p ∈ gl, p.1 + 1 = 4 := .inr ⟨(3, b64L.map (.int .u8)), by simp [gl], rfl⟩
/-- what is told -/
def F1 (D : Nat → AVal) (k : IntKind) (b : Nat) : List (IntKind × Int) → Option AVal
  | [(j, .ofNat n)] => if j = k ∧ n < b then some (D n) else none
  | _ => none
def F2 (d : Int) (D : Nat → AVal) (b : Nat) : List (IntKind × Int) → Option AVal
  | [(j, .ofNat n), (j', m)] => if j = .i64 ∧ j' = .i64 ∧ m = d ∧ n < b then some (D n) else none
  | _ => none
def F28 (a : List (IntKind × Int)) : Option AVal := match F2 10 (fun n => .str (dec n)) 1001 a with
  | some x => some x
  | none => F2 16 (fun n => .str (hex n)) 1001 a
def F0 : List (IntKind × Int) → Option AVal
  | [] => some (.bool true)
  | _ => none
theorem vr1 (k : IntKind) (n : Int) (ρ : Pl) : VRels ρ [.int k n] ([(k, n)].map mkInt).toArray.toList := by
  simp only [List.map_cons, List.map_nil, mkInt, VRels, VRel]
  exact ⟨_, _, rfl, rfl, rfl⟩
theorem vr2 (k k' : IntKind) (n m : Int) (ρ : Pl) : VRels ρ [.int k n, .int k' m] ([(k, n), (k', m)].map mkInt).toArray.toList := by
  simp only [List.map_cons, List.map_nil, mkInt, VRels, VRel]
  exact ⟨_, _, rfl, rfl, _, _, rfl, rfl, rfl⟩
theorem F1_spec {D : Nat → AVal} {k : IntKind} {b : Nat} {a : List (IntKind × Int)} {x : AVal} (h : F1 D k b a = some x) : ∃ n, n < b ∧ a = [(k, .ofNat n)] ∧ x = D n := by
  unfold F1 at h
  split at h
  · split at h
    · rename_i hc
      obtain ⟨rfl, hn⟩ := hc
      simp only [Option.some.injEq] at h
      exact ⟨_, hn, rfl, h.symm⟩
    · simp at h
  · simp at h
theorem F2_spec {d : Int} {D : Nat → AVal} {b : Nat} {a : List (IntKind × Int)} {x : AVal} (h : F2 d D b a = some x) : ∃ n, n < b ∧ a = [(.i64, .ofNat n), (.i64, d)] ∧ x = D n := by
  unfold F2 at h
  split at h
  · split at h
    · rename_i hc
      obtain ⟨rfl, rfl, rfl, hn⟩ := hc
      simp only [Option.some.injEq] at h
      exact ⟨_, hn, rfl, h.symm⟩
    · simp at h
  · simp at h
theorem fol : Tryd.prog.follows .mixedOrders = true := by kernel_rfl
theorem cl24 : Closed Tryd.prog 24 4 gl (F1 (fun n => .str (dec n)) .i64 1001) := by
  refine ⟨gl_tabs, gl_top, fun a x h ρ => ?_, fun a x h W hG => ?_⟩
  · obtain ⟨n, _, _, rfl⟩ := F1_spec h
    simp only [VRel, litV]
  · obtain ⟨n, hn, rfl, rfl⟩ := F1_spec h
    exact g_closedV fol RNat.nat_ok tab_ok (vr1 _ _) rfl (lit_str _) (fun v h => strT_ok) (allR_ok _ _ run24 n hn) hG
theorem cl27 : Closed Tryd.prog 27 4 gl (F2 16 (fun n => .str (hex n)) 1001) := by
  refine ⟨gl_tabs, gl_top, fun a x h ρ => ?_, fun a x h W hG => ?_⟩
  · obtain ⟨n, _, _, rfl⟩ := F2_spec h
    simp only [VRel, litV]
  · obtain ⟨n, hn, rfl, rfl⟩ := F2_spec h
    exact g_closedV fol RNat.nat_ok tab_ok (vr2 _ _ _ _) rfl (lit_str _) (fun v h => strT_ok) (allR_ok _ _ run27 n hn) hG
theorem cl28 : Closed Tryd.prog 28 4 gl F28 := by
  have key : ∀ a x, F28 a = some x → ∃ n, n < 1001 ∧ ((a = [(.i64, .ofNat n), (.i64, 10)] ∧ x = .str (dec n)) ∨ (a = [(.i64, .ofNat n), (.i64, 16)] ∧ x = .str (hex n))) := by
    intro a x h
    unfold F28 at h
    split at h
    · rename_i y hy
      simp only [Option.some.injEq] at h
      subst h
      obtain ⟨n, h1, h2, h3⟩ := F2_spec hy
      exact ⟨n, h1, .inl ⟨h2, h3⟩⟩
    · obtain ⟨n, h1, h2, h3⟩ := F2_spec h
      exact ⟨n, h1, .inr ⟨h2, h3⟩⟩
  refine ⟨gl_tabs, gl_top, fun a x h ρ => ?_, fun a x h W hG => ?_⟩
  · obtain ⟨n, _, ⟨_, rfl⟩ | ⟨_, rfl⟩⟩ := key a x h <;> simp only [VRel, litV]
  · obtain ⟨n, hn, ⟨rfl, rfl⟩ | ⟨rfl, rfl⟩⟩ := key a x h
    · exact g_closedV fol RNat.nat_ok tab_ok (vr2 _ _ _ _) rfl (lit_str _) (fun v h => strT_ok) (allR_ok _ _ run28a n hn) hG
    · exact g_closedV fol RNat.nat_ok tab_ok (vr2 _ _ _ _) rfl (lit_str _) (fun v h => strT_ok) (allR_ok _ _ run28b n hn) hG
theorem cl36 : Closed Tryd.prog 36 4 gl (F1 (fun n => .bool (tchB n)) .u8 256) := by
  refine ⟨gl_tabs, gl_top, fun a x h ρ => ?_, fun a x h W hG => ?_⟩
  · obtain ⟨n, _, _, rfl⟩ := F1_spec h
    simp only [VRel, litV]
  · obtain ⟨n, hn, rfl, rfl⟩ := F1_spec h
    exact g_closedV fol RNat.nat_ok tab_ok (vr1 _ _) rfl (lit_bool _) (fun v h => boolT_ok) (allR_ok _ _ run36 n hn) hG
theorem cl73 : Closed Tryd.prog 73 4 gl (F1 (fun n => .bool (tchB n)) .u8 256) := by
  refine ⟨gl_tabs, gl_top, fun a x h ρ => ?_, fun a x h W hG => ?_⟩
  · obtain ⟨n, _, _, rfl⟩ := F1_spec h
    simp only [VRel, litV]
  · obtain ⟨n, hn, rfl, rfl⟩ := F1_spec h
    exact g_closedV fol RNat.nat_ok tab_ok (vr1 _ _) rfl (lit_bool _) (fun v h => boolT_ok) (allR_ok _ _ run73 n hn) hG
theorem cl16 : Closed Tryd.prog 16 4 gl F0 := by
  have key : ∀ a x, F0 a = some x → a = [] ∧ x = .bool true := by
    intro a x h
    cases a with
    | nil => simp only [F0, Option.some.injEq] at h; exact ⟨rfl, h.symm⟩
    | cons y r => simp [F0] at h
  refine ⟨gl_tabs, gl_top, fun a x h ρ => ?_, fun a x h W hG => ?_⟩
  · obtain ⟨rfl, rfl⟩ := key a x h
    simp only [VRel, litV]
  · obtain ⟨rfl, rfl⟩ := key a x h
    exact g_closedV fol RNat.nat_ok tab_ok (args := []) (fun ρ => by simp [VRels]) rfl (lit_bool _) (fun v h => boolT_ok) run16 hG
noncomputable def natR : ANat := ⟨fun f => Nat.beq f 16 || (Nat.beq f 24 || (Nat.beq f 27 || (Nat.beq f 28 || (Nat.beq f 36 || (Nat.beq f 37 || Nat.beq f 73))))), fun f args H =>
  bif Nat.beq f 16 then aClosed gl F0 args H else bif Nat.beq f 24 then aClosed gl (F1 (fun n => .str (dec n)) .i64 1001) args H else bif Nat.beq f 27 then aClosed gl (F2 16 (fun n => .str (hex n)) 1001) args H
  else bif Nat.beq f 28 then aClosed gl F28 args H else bif Nat.beq f 36 then aClosed gl (F1 (fun n => .bool (tchB n)) .u8 256) args H else bif Nat.beq f 37 then aLower H args
  else bif Nat.beq f 73 then aClosed gl (F1 (fun n => .bool (tchB n)) .u8 256) args H else none⟩
theorem beq_cases (f g : Nat) : (Nat.beq f g = true ∧ f = g) ∨ Nat.beq f g = false := by
  cases h : Nat.beq f g with
  | true => exact .inl ⟨rfl, Nat.eq_of_beq_eq_true h⟩
  | false => exact .inr rfl
theorem hb16 : hasBody Tryd.prog 16 = true := by kernel_rfl
theorem hb24 : hasBody Tryd.prog 24 = true := by kernel_rfl
theorem hb27 : hasBody Tryd.prog 27 = true := by kernel_rfl
theorem hb28 : hasBody Tryd.prog 28 = true := by kernel_rfl
theorem hb36 : hasBody Tryd.prog 36 = true := by kernel_rfl
theorem hb37 : hasBody Tryd.prog 37 = true := by kernel_rfl
theorem hb73 : hasBody Tryd.prog 73 = true := by kernel_rfl
theorem natR_ok : NatOK Tryd.prog natR := by
  refine ⟨fun f h => ?_, fun f args H v H' hr Prot w0 ρ w vs R hv => ?_⟩
  · have h' : (Nat.beq f 16 || (Nat.beq f 24 || (Nat.beq f 27 || (Nat.beq f 28 || (Nat.beq f 36 || (Nat.beq f 37 || Nat.beq f 73)))))) = true := h
    simp only [Bool.or_eq_true] at h'
    rcases h' with h | h | h | h | h | h | h
    · obtain rfl : f = 16 := Nat.eq_of_beq_eq_true h
      exact hb16
    · obtain rfl : f = 24 := Nat.eq_of_beq_eq_true h
      exact hb24
    · obtain rfl : f = 27 := Nat.eq_of_beq_eq_true h
      exact hb27
    · obtain rfl : f = 28 := Nat.eq_of_beq_eq_true h
      exact hb28
    · obtain rfl : f = 36 := Nat.eq_of_beq_eq_true h
      exact hb36
    · obtain rfl : f = 37 := Nat.eq_of_beq_eq_true h
      exact hb37
    · obtain rfl : f = 73 := Nat.eq_of_beq_eq_true h
      exact hb73
  · simp only [natR] at hr
    rcases beq_cases f 16 with ⟨e, rfl⟩ | e
    · rw [e, cond_true] at hr; exact closed_sim cl16 hr R hv
    rw [e, cond_false] at hr
    rcases beq_cases f 24 with ⟨e, rfl⟩ | e
    · rw [e, cond_true] at hr; exact closed_sim cl24 hr R hv
    rw [e, cond_false] at hr
    rcases beq_cases f 27 with ⟨e, rfl⟩ | e
    · rw [e, cond_true] at hr; exact closed_sim cl27 hr R hv
    rw [e, cond_false] at hr
    rcases beq_cases f 28 with ⟨e, rfl⟩ | e
    · rw [e, cond_true] at hr; exact closed_sim cl28 hr R hv
    rw [e, cond_false] at hr
    rcases beq_cases f 36 with ⟨e, rfl⟩ | e
    · rw [e, cond_true] at hr; exact closed_sim cl36 hr R hv
    rw [e, cond_false] at hr
    rcases beq_cases f 37 with ⟨e, rfl⟩ | e
    · rw [e, cond_true] at hr; exact lower_sim RNat.said hr R hv
    rw [e, cond_false] at hr
    rcases beq_cases f 73 with ⟨e, rfl⟩ | e
    · rw [e, cond_true] at hr; exact closed_sim cl73 hr R hv
    rw [e, cond_false] at hr
    simp at hr
/-- the tables lie as they should -/
structure GG (H : AHeap) : Prop where
  g0 : Glo H 0 (powL.map (.int .u64))
  g3 : Glo H 3 (b64L.map (.int .u8))
  nx : 4 ≤ H.next
theorem GG.all {H : AHeap} (h : GG H) : ∀ p ∈ gl, Glo H p.1 p.2 := by
  intro p hp
  have hp' : p = (0, powL.map (.int .u64)) ∨ p = (3, b64L.map (.int .u8)) := by simpa [gl] using hp
  rcases hp' with rfl | rfl
  · exact h.g0
  · exact h.g3
theorem GG.ext {n : Nat} {H H' : AHeap} (h : GG H) (hn : 4 ≤ n) (e : Ext n H H') : GG H' := ⟨h.g0.ext (by omega) e, h.g3.ext (by omega) e, Nat.le_trans h.nx e.next⟩
theorem closed_run {F : List (IntKind × Int) → Option AVal} {a : List (IntKind × Int)} {x : AVal} {H : AHeap} (hG : GG H) (h : F a = some x) : aClosed gl F (a.map fun p => .int p.1 p.2) H = some (x, H) := by
  unfold aClosed
  rw [isInts_mk]
  simp only [h]
  rw [if_pos hG.all]
section
variable {H : AHeap} {K : AVal → AHeap → Prop}
theorem awake_call (hG : GG H) (h : K (.bool true) H) : ACalls Tryd.prog natR 16 [] H K := acalls_nat rfl (closed_run (F := F0) (a := []) hG rfl) h
theorem itoa_call (hG : GG H) {n : Nat} (hn : n < 1001) (h : K (.str (dec n)) H) : ACalls Tryd.prog natR 24 [.int .i64 (n : Int)] H K :=
  acalls_nat rfl (closed_run (F := F1 (fun n => .str (dec n)) .i64 1001) (a := [(.i64, (n : Int))]) hG (by show (if _ ∧ n < 1001 then _ else _) = _; rw [if_pos ⟨rfl, hn⟩])) h
theorem hex_call (hG : GG H) {n : Nat} (hn : n < 1001) (h : K (.str (hex n)) H) : ACalls Tryd.prog natR 27 [.int .i64 (n : Int), .int .i64 16] H K :=
  acalls_nat rfl (closed_run (F := F2 16 (fun n => .str (hex n)) 1001) (a := [(.i64, (n : Int)), (.i64, 16)]) hG (by show (if _ ∧ _ ∧ _ ∧ n < 1001 then _ else _) = _; rw [if_pos ⟨rfl, rfl, rfl, hn⟩])) h
theorem digits_call (hG : GG H) {n : Nat} (hn : n < 1001) (h : K (.str (dec n)) H) : ACalls Tryd.prog natR 28 [.int .i64 (n : Int), .int .i64 10] H K :=
  acalls_nat rfl (closed_run (F := F28) (a := [(.i64, (n : Int)), (.i64, 10)]) hG (by
    have : F2 10 (fun n => .str (dec n)) 1001 [(.i64, (n : Int)), (.i64, 10)] = some (.str (dec n)) := by show (if _ ∧ _ ∧ _ ∧ n < 1001 then _ else _) = _; rw [if_pos ⟨rfl, rfl, rfl, hn⟩]
    simp only [F28, this])) h
theorem digits16_call (hG : GG H) {n : Nat} (hn : n < 1001) (h : K (.str (hex n)) H) : ACalls Tryd.prog natR 28 [.int .i64 (n : Int), .int .i64 16] H K :=
  acalls_nat rfl (closed_run (F := F28) (a := [(.i64, (n : Int)), (.i64, 16)]) hG (by
    have : F2 10 (fun n => .str (dec n)) 1001 [(.i64, (n : Int)), (.i64, 16)] = none := by simp [F2]
    have h2 : F2 16 (fun n => .str (hex n)) 1001 [(.i64, (n : Int)), (.i64, 16)] = some (.str (hex n)) := by show (if _ ∧ _ ∧ _ ∧ n < 1001 then _ else _) = _; rw [if_pos ⟨rfl, rfl, rfl, hn⟩]
    simp only [F28, this, h2])) h
def tch (b : UInt8) : Bool := tchB b.toNat
theorem tch_call (hG : GG H) (b : UInt8) (h : K (.bool (tch b)) H) : ACalls Tryd.prog natR 36 [.int .u8 (b.toNat : Int)] H K :=
  acalls_nat rfl (closed_run (F := F1 (fun n => .bool (tchB n)) .u8 256) (a := [(.u8, (b.toNat : Int))]) hG (by show (if _ ∧ b.toNat < 256 then _ else _) = _; rw [if_pos ⟨rfl, b.toNat_lt⟩]; rfl)) h
theorem tch2_call (hG : GG H) (b : UInt8) (h : K (.bool (tch b)) H) : ACalls Tryd.prog natR 73 [.int .u8 (b.toNat : Int)] H K :=
  acalls_nat rfl (closed_run (F := F1 (fun n => .bool (tchB n)) .u8 256) (a := [(.u8, (b.toNat : Int))]) hG (by show (if _ ∧ b.toNat < 256 then _ else _) = _; rw [if_pos ⟨rfl, b.toNat_lt⟩]; rfl)) h
theorem lower_call {s : Bs} (hs : s.length ≤ 140737488355328) (ha : asciiB s = true) (h : K (.str (Lib.toLowerA s)) H) : ACalls Tryd.prog natR 37 [.str s] H K :=
  acalls_nat rfl (by show aLower H [.str s] = _; simp only [aLower, Nat.ble_eq_true_of_le hs, ha, Bool.and_self, cond_true]) h
end
end Go.Proofs.Re
/- Reply: what names, values, headers may be, in plain words: the document's way of asking and the program's are the same. Plain Lean. -/
namespace Go.Proofs.Re
open Go.Abs Go.Abs.F Go.Abs.S
def valB (b : UInt8) : Bool := Nat.beq b.toNat 9 || (Nat.ble 32 b.toNat && !Nat.beq b.toNat 127)
def blk (b : UInt8) : Bool := Nat.beq b.toNat 32 || Nat.beq b.toNat 9
def low (s : Bs) : Bs := Lib.toLowerA s
theorem low_len (s : Bs) : (low s).length = s.length := by simp [low, Lib.toLowerA]
def clN : Bs := [99, 111, 110, 116, 101, 110, 116, 45, 108, 101, 110, 103, 116, 104]
def teN : Bs := [116, 114, 97, 110, 115, 102, 101, 114, 45, 101, 110, 99, 111, 100, 105, 110, 103]
def nameB (s : Bs) : Bool := (!decide (s = []) && s.all tch) && (!decide (low s = clN) && !decide (low s = teN))
def headOK (s : Bs) : Bool := match s with
  | [] => true
  | b :: _ => !blk b
def lastOK (s : Bs) : Bool := headOK s.reverse
def valueB (s : Bs) : Bool := s.all valB && (headOK s && lastOK s)
def hdrB (p : Bs × Bs) : Bool := nameB p.1 && valueB p.2
def bare (s : Bs) : Bs := ((s.dropWhile blk).reverse.dropWhile blk).reverse
def find (s : Bs) (b : UInt8) : Nat := s.findIdx (· == b)
def fieldF (s : Bs) : Option (Bs × Bs) :=
  if find s 58 = s.length ∨ ((s.take (find s 58)).all tch && !decide (s.take (find s 58) = [])) = false then none
  else if bare (s.drop (find s 58 + 1)) ≠ [] ∧ (bare (s.drop (find s 58 + 1))).all valB = false then none
  else some (low (s.take (find s 58)), bare (s.drop (find s 58 + 1)))
def rightF (p : Bs × Bs) : Bool := !(p.2.any (· == 10)) && match fieldF (p.1 ++ [58] ++ p.2) with
  | none => false
  | some (n, v) => (decide (n = low p.1) && decide (v = p.2)) && (!decide (low p.1 = clN) && !decide (low p.1 = teN))
theorem dropWhile_le (p : UInt8 → Bool) : ∀ s : Bs, (s.dropWhile p).length ≤ s.length
  | [] => Nat.le_refl _
  | b :: s => by
    rw [List.dropWhile_cons]
    split
    · have := dropWhile_le p s; simp; omega
    · exact Nat.le_refl _
theorem dropWhile_self {p : UInt8 → Bool} : ∀ (s : Bs), s.dropWhile p = s ↔ (match s with | [] => true | b :: _ => !p b) = true
  | [] => by simp
  | b :: s => by
    cases h : p b with
    | true =>
      simp only [List.dropWhile_cons, h, if_true, Bool.not_true, Bool.false_eq_true, iff_false]
      intro e
      have := congrArg List.length e
      have h2 := dropWhile_le p s
      simp at this
      omega
    | false => simp [List.dropWhile_cons, h]
theorem dropWhile_len {p : UInt8 → Bool} (s : Bs) (h : (s.dropWhile p).length = s.length) : s.dropWhile p = s := by
  cases s with
  | nil => rfl
  | cons b s =>
    rw [List.dropWhile_cons] at h ⊢
    split at h
    · have h2 := dropWhile_le p s
      simp at h
      omega
    · rename_i hn; rw [if_neg hn]
theorem headOK_iff (s : Bs) : headOK s = true ↔ s.dropWhile blk = s := by
  rw [dropWhile_self]; cases s <;> rfl
theorem bare_iff (s : Bs) : bare s = s ↔ (headOK s && lastOK s) = true := by
  rw [Bool.and_eq_true, lastOK, headOK_iff, headOK_iff]
  constructor
  · intro h
    have l1 := dropWhile_le blk s
    have l2 := dropWhile_le blk (s.dropWhile blk).reverse
    have h1 := congrArg List.length h
    simp only [bare, List.length_reverse] at h1 l2
    have e1 : s.dropWhile blk = s := dropWhile_len s (by omega)
    refine ⟨e1, ?_⟩
    have h2 : (s.reverse.dropWhile blk).reverse = s := by have := h; unfold bare at this; rwa [e1] at this
    have := congrArg List.reverse h2
    simpa using this
  · rintro ⟨h1, h2⟩
    unfold bare
    rw [h1, h2, List.reverse_reverse]
theorem tch58 : tch 58 = false := rfl
theorem val10 : valB 10 = false := rfl
theorem find_free {s r : Bs} (h : ∀ b ∈ s, b ≠ 58) : find (s ++ 58 :: r) 58 = s.length := by
  induction s with
  | nil => simp [find, List.findIdx_cons]
  | cons b s ih =>
    have hb : (b == 58) = false := by simpa using h b (by simp)
    have := ih fun c hc => h c (by simp [hc])
    unfold find at this ⊢
    simp only [List.cons_append, List.findIdx_cons, hb, cond_false, this, List.length_cons]
theorem find_in {s r : Bs} (h : 58 ∈ s) : find (s ++ r) 58 < s.length := by
  induction s with
  | nil => simp at h
  | cons b s ih =>
    unfold find at ih ⊢
    simp only [List.cons_append, List.findIdx_cons]
    cases hb : (b == 58) with
    | true => simp
    | false =>
      have : 58 ∈ s := by
        rcases List.mem_cons.1 h with e | e
        · subst e; simp at hb
        · exact e
      have := ih this
      simp only [cond_false, List.length_cons]
      omega
theorem no10 {s : Bs} (h : s.all valB = true) : s.any (· == 10) = false := by
  rw [Bool.eq_false_iff]
  intro hc
  obtain ⟨b, hb, he⟩ := List.any_eq_true.1 hc
  have e : b = 10 := by simpa using he
  subst e
  have := List.all_eq_true.1 h 10 hb
  rw [val10] at this
  simp at this
theorem right_eq (p : Bs × Bs) : rightF p = hdrB p := by
  obtain ⟨n, v⟩ := p
  by_cases hc : (58 : UInt8) ∈ n
  · have h1 : n.all tch = false := by
      rw [Bool.eq_false_iff]
      intro h
      have := List.all_eq_true.1 h 58 hc
      rw [tch58] at this; simp at this
    have h2 : hdrB (n, v) = false := by simp [hdrB, nameB, h1]
    rw [h2]
    have hf := find_in (r := [58] ++ v) hc
    rw [← List.append_assoc] at hf
    unfold rightF
    cases hx : fieldF (n ++ [58] ++ v) with
    | none => simp
    | some q =>
      obtain ⟨a, b⟩ := q
      unfold fieldF at hx
      split at hx
      · simp at hx
      · split at hx
        · simp at hx
        · simp only [Option.some.injEq, Prod.mk.injEq] at hx
          have hne : a ≠ low n := by
            intro e
            have := congrArg List.length e
            rw [← hx.1, low_len, low_len, List.length_take] at this
            omega
          simp [hne]
  · have hf : find (n ++ [58] ++ v) 58 = n.length := by
      rw [List.append_assoc]
      exact find_free fun b hb e => hc (e ▸ hb)
    have ht : (n ++ [58] ++ v).take n.length = n := by rw [List.append_assoc]; simp
    have hd : (n ++ [58] ++ v).drop (n.length + 1) = v := by
      rw [show n.length + 1 = (n ++ [58]).length by simp, List.drop_left]
    have hl : ¬ n.length = (n ++ [58] ++ v).length := by simp
    unfold rightF fieldF
    simp only [hf, ht, hd]
    cases hb : (headOK v && lastOK v) with
    | false =>
      have hne : bare v ≠ v := fun e => by rw [(bare_iff v).1 e] at hb; simp at hb
      have h2 : hdrB (n, v) = false := by simp [hdrB, valueB, hb]
      rw [h2]
      split
      · simp at *
      · rename_i a b he
        split at he
        · simp at he
        · split at he
          · simp at he
          · simp only [Option.some.injEq, Prod.mk.injEq] at he
            rw [← he.2]
            simp [hne]
    | true =>
      have e := (bare_iff v).2 hb
      rw [e]
      cases hn : (n.all tch && !decide (n = [])) with
      | false =>
        have h2 : hdrB (n, v) = false := by
          have : (!decide (n = []) && n.all tch) = false := by rw [Bool.and_comm]; exact hn
          simp [hdrB, nameB, this]
        rw [h2]
        simp
      | true =>
        have h1 : (!decide (n = []) && n.all tch) = true := by rw [Bool.and_comm]; exact hn
        rw [if_neg (by simp)]
        cases hv : v.all valB with
        | true =>
          rw [if_neg (by simp)]
          have h10 := no10 hv
          simp only [h10, Bool.not_false, Bool.true_and, decide_true, Bool.and_self]
          simp only [hdrB, nameB, h1, valueB, hv, hb, Bool.and_self, Bool.true_and, Bool.and_true]
        | false =>
          have hne : v ≠ [] := fun e => by rw [e] at hv; simp at hv
          rw [if_pos ⟨hne, rfl⟩]
          simp [hdrB, valueB, hv]
/-! what is told -/
def crlf : Bs := [13, 10]
def lineF (p : Bs × Bs) : Bs := p.1 ++ [58, 32] ++ p.2 ++ crlf
def hdrsF (l : List (Bs × Bs)) : Bs := l.flatMap lineF
def checkF (l : List (Bs × Bs)) : Nat := if 40 < l.length then 3 else if l.all hdrB then 0 else 21
def reasons : List (Int × Bs) := [(200, [79, 75]), (201, [67, 114, 101, 97, 116, 101, 100]), (204, [78, 111, 32, 67, 111, 110, 116, 101, 110, 116]), (400, [66, 97, 100, 32, 82, 101, 113, 117, 101, 115, 116]), (401, [85, 110, 97, 117, 116, 104, 111, 114, 105, 122, 101, 100]), (404, [78, 111, 116, 32, 70, 111, 117, 110, 100]), (405, [77, 101, 116, 104, 111, 100, 32, 78, 111, 116, 32, 65, 108, 108, 111, 119, 101, 100]), (409, [67, 111, 110, 102, 108, 105, 99, 116]), (413, [67, 111, 110, 116, 101, 110, 116, 32, 84, 111, 111, 32, 76, 97, 114, 103, 101]), (422, [85, 110, 112, 114, 111, 99, 101, 115, 115, 97, 98, 108, 101, 32, 67, 111, 110, 116, 101, 110, 116]), (429, [84, 111, 111, 32, 77, 97, 110, 121, 32, 82, 101, 113, 117, 101, 115, 116, 115]), (500, [73, 110, 116, 101, 114, 110, 97, 108, 32, 83, 101, 114, 118, 101, 114, 32, 69, 114, 114, 111, 114]), (503, [83, 101, 114, 118, 105, 99, 101, 32, 85, 110, 97, 118, 97, 105, 108, 97, 98, 108, 101]), (507, [73, 110, 115, 117, 102, 102, 105, 99, 105, 101, 110, 116, 32, 83, 116, 111, 114, 97, 103, 101])]
def reasonF (n : Int) : Bs := match reasons.find? (·.1 == n) with
  | some p => p.2
  | none => []
end Go.Proofs.Re
/- Reply: bytes of a kind, all bytes of a text, the place of a byte: the contracts. -/
namespace Go.Proofs.Re
open Go.Abs Go.Abs.S
set_option linter.unusedSimpArgs false
abbrev by8 (c : UInt8) : AVal := .int .u8 (c.toNat : Int)
def Says (g : Nat) (p : UInt8 → Bool) : Prop := ∀ (c : UInt8) (H : AHeap), GG H → ACalls Tryd.prog natR g [by8 c] H fun v H' => v = .bool (p c) ∧ H = H'
theorem says_tch : Says 36 tch := fun c H hG => tch_call hG c ⟨rfl, rfl⟩
theorem says_tch2 : Says 73 tch := fun c H hG => tch2_call hG c ⟨rfl, rfl⟩
theorem valB_int (c : UInt8) : valB c = (decide ((c.toNat : Int) = 9) || (decide ((32 : Int) ≤ c.toNat) && !decide ((c.toNat : Int) = 127))) := by
  rw [Bool.eq_iff_iff]; simp only [valB, beq_dec, ble_dec, Bool.or_eq_true, Bool.and_eq_true, Bool.not_eq_true', decide_eq_true_eq, decide_eq_false_iff_not]; omega
theorem valB_int2 (c : UInt8) : valB c = ((decide ((c.toNat : Int) = 9) || (decide ((32 : Int) ≤ c.toNat) && decide ((c.toNat : Int) ≤ 126))) || decide ((128 : Int) ≤ c.toNat)) := by
  have := c.toNat_lt
  rw [Bool.eq_iff_iff]; simp only [valB, beq_dec, ble_dec, Bool.or_eq_true, Bool.and_eq_true, Bool.not_eq_true', decide_eq_true_eq, decide_eq_false_iff_not]; omega
theorem blk_int (c : UInt8) : blk c = (decide ((c.toNat : Int) = 32) || decide ((c.toNat : Int) = 9)) := by
  rw [Bool.eq_iff_iff]; simp only [blk, beq_dec, ble_dec, Bool.or_eq_true, Bool.and_eq_true, Bool.not_eq_true', decide_eq_true_eq, decide_eq_false_iff_not]; omega
theorem says_val : Says 38 valB := by
  intro c H hG
  refine acalls_ofN rfl za38 rfl ?_
  rw [valB_int]
  by_cases h1 : (c.toNat : Int) = 9 <;> by_cases h2 : (32 : Int) ≤ (c.toNat : Int) <;> by_cases h3 : (c.toNat : Int) = 127
  all_goals first
    | (exfalso; omega)
    | (simp only [c38, pf_min, undef_bool, str_len, str_eql, str_neq, conv_in, un_not, eq_self, decide_true, decide_false, Bool.not_true, Bool.not_false, argE_0, argE_1, argE_2, argE_3, argE_4, aw_skip, aw_reg, aw_seq, aw_cond, aw_block, aw_exit, aw_ret, inSeq_normal, inSeq_exit, inSeq_ret, inBlk_exit, inBlk_normal, inBlk_ret, OptK_some, OptH_some, OptS_some, kont_app, ar_nil, ar_guard, ar_mv, ar_pick, ar_new, ar_box, ar_build, ar_buildSl, ar_load, ar_store, ar_nilChk, ar_bin, ar_un, ar_conv, ar_convSB, ar_convBS, ar_mkFunc, ar_mkIface, ar_mkSlice, ar_sl, ar_slStr, ar_fieldA, ar_field, ar_idxA, ar_idxArr, ar_idx, ar_idxS, ar_extract, ar_append, ar_len, ar_call, ar_callv, callvP_func, List.nil_append, List.cons_append, List.append_nil, ar_pf, ar_hf, ar_slA, upO_some, upO_none, sX_t, sX_c, sX_f, sXs, sXO, sXP, fin_t, fin_t2, fin_t3, up_same, up_ne, ne_eq, not_false_eq_true, AVal.bool.injEq, decide_eq_true_eq, decide_eq_false_iff_not, Int.ofNat_eq_natCast, Int.reduceNegSucc, Int.cast_ofNat_Int, reduceCtorEq, bin_lss, bin_leq, bin_gtr, bin_geq, bin_eql, bin_neq, bin_add, bin_sub, bin_mul, Bool.not_eq_true', Bool.not_eq_false', Bool.true_eq_false, Bool.false_eq_true, Nat.reduceEqDiff, ↓reduceIte, if_true, if_false, Nat.reduceAdd, Int.reduceEq, Int.reduceLT, Int.reduceLE, h1, h2, h3]
       exact ⟨by simp, (by first | trivial | rfl | assumption)⟩)
theorem says_blk : Says 39 blk := by
  intro c H hG
  refine acalls_ofN rfl za39 rfl ?_
  rw [blk_int]
  by_cases h1 : (c.toNat : Int) = 32 <;> by_cases h2 : (c.toNat : Int) = 9
  all_goals first
    | (exfalso; omega)
    | (simp only [c39, pf_min, undef_bool, str_len, str_eql, str_neq, conv_in, un_not, eq_self, decide_true, decide_false, Bool.not_true, Bool.not_false, argE_0, argE_1, argE_2, argE_3, argE_4, aw_skip, aw_reg, aw_seq, aw_cond, aw_block, aw_exit, aw_ret, inSeq_normal, inSeq_exit, inSeq_ret, inBlk_exit, inBlk_normal, inBlk_ret, OptK_some, OptH_some, OptS_some, kont_app, ar_nil, ar_guard, ar_mv, ar_pick, ar_new, ar_box, ar_build, ar_buildSl, ar_load, ar_store, ar_nilChk, ar_bin, ar_un, ar_conv, ar_convSB, ar_convBS, ar_mkFunc, ar_mkIface, ar_mkSlice, ar_sl, ar_slStr, ar_fieldA, ar_field, ar_idxA, ar_idxArr, ar_idx, ar_idxS, ar_extract, ar_append, ar_len, ar_call, ar_callv, callvP_func, List.nil_append, List.cons_append, List.append_nil, ar_pf, ar_hf, ar_slA, upO_some, upO_none, sX_t, sX_c, sX_f, sXs, sXO, sXP, fin_t, fin_t2, fin_t3, up_same, up_ne, ne_eq, not_false_eq_true, AVal.bool.injEq, decide_eq_true_eq, decide_eq_false_iff_not, Int.ofNat_eq_natCast, Int.reduceNegSucc, Int.cast_ofNat_Int, reduceCtorEq, bin_lss, bin_leq, bin_gtr, bin_geq, bin_eql, bin_neq, bin_add, bin_sub, bin_mul, Bool.not_eq_true', Bool.not_eq_false', Bool.true_eq_false, Bool.false_eq_true, Nat.reduceEqDiff, ↓reduceIte, if_true, if_false, Nat.reduceAdd, Int.reduceEq, Int.reduceLT, Int.reduceLE, h1, h2]
       exact ⟨by simp, (by first | trivial | rfl | assumption)⟩)
theorem digit_any (c : UInt8) (H : AHeap) : ACalls Tryd.prog natR 72 [by8 c] H fun v H' => (∃ b, v = .bool b) ∧ H = H' := by
  refine acalls_ofN rfl za72 rfl ?_
  by_cases h1 : (48 : Int) ≤ (c.toNat : Int) <;> by_cases h2 : (c.toNat : Int) ≤ 57
  all_goals
    simp only [c72, pf_min, undef_bool, str_len, str_eql, str_neq, conv_in, un_not, eq_self, decide_true, decide_false, Bool.not_true, Bool.not_false, argE_0, argE_1, argE_2, argE_3, argE_4, aw_skip, aw_reg, aw_seq, aw_cond, aw_block, aw_exit, aw_ret, inSeq_normal, inSeq_exit, inSeq_ret, inBlk_exit, inBlk_normal, inBlk_ret, OptK_some, OptH_some, OptS_some, kont_app, ar_nil, ar_guard, ar_mv, ar_pick, ar_new, ar_box, ar_build, ar_buildSl, ar_load, ar_store, ar_nilChk, ar_bin, ar_un, ar_conv, ar_convSB, ar_convBS, ar_mkFunc, ar_mkIface, ar_mkSlice, ar_sl, ar_slStr, ar_fieldA, ar_field, ar_idxA, ar_idxArr, ar_idx, ar_idxS, ar_extract, ar_append, ar_len, ar_call, ar_callv, callvP_func, List.nil_append, List.cons_append, List.append_nil, ar_pf, ar_hf, ar_slA, upO_some, upO_none, sX_t, sX_c, sX_f, sXs, sXO, sXP, fin_t, fin_t2, fin_t3, up_same, up_ne, ne_eq, not_false_eq_true, AVal.bool.injEq, decide_eq_true_eq, decide_eq_false_iff_not, Int.ofNat_eq_natCast, Int.reduceNegSucc, Int.cast_ofNat_Int, reduceCtorEq, bin_lss, bin_leq, bin_gtr, bin_geq, bin_eql, bin_neq, bin_add, bin_sub, bin_mul, Bool.not_eq_true', Bool.not_eq_false', Bool.true_eq_false, Bool.false_eq_true, Nat.reduceEqDiff, ↓reduceIte, if_true, if_false, Nat.reduceAdd, Int.reduceEq, Int.reduceLT, Int.reduceLE, h1, h2]
    exact ⟨⟨_, rfl⟩, (by first | trivial | rfl | assumption)⟩
theorem small_spec (c : UInt8) (H : AHeap) : ACalls Tryd.prog natR 58 [by8 c] H fun v H' => v = by8 (Lib.lowerB c) ∧ H = H' := by
  refine acalls_ofN rfl za58 rfl ?_
  have e := Go.Abs.F.lowerB_nat c
  by_cases h1 : (65 : Int) ≤ (c.toNat : Int) <;> by_cases h2 : (c.toNat : Int) ≤ 90
  · have hw : IntKind.u8.wrap ((c.toNat : Int) + 32) = ((Lib.lowerB c).toNat : Int) := by
      rw [wrapU8 (by omega) (by omega), e, Nat.ble_eq_true_of_le (show 65 ≤ c.toNat by omega), Nat.ble_eq_true_of_le (show c.toNat ≤ 90 by omega)]
      simp only [Bool.and_self, cond_true, UInt8.toNat_ofNat']
      omega
    simp only [c58, pf_min, undef_bool, str_len, str_eql, str_neq, conv_in, un_not, eq_self, decide_true, decide_false, Bool.not_true, Bool.not_false, argE_0, argE_1, argE_2, argE_3, argE_4, aw_skip, aw_reg, aw_seq, aw_cond, aw_block, aw_exit, aw_ret, inSeq_normal, inSeq_exit, inSeq_ret, inBlk_exit, inBlk_normal, inBlk_ret, OptK_some, OptH_some, OptS_some, kont_app, ar_nil, ar_guard, ar_mv, ar_pick, ar_new, ar_box, ar_build, ar_buildSl, ar_load, ar_store, ar_nilChk, ar_bin, ar_un, ar_conv, ar_convSB, ar_convBS, ar_mkFunc, ar_mkIface, ar_mkSlice, ar_sl, ar_slStr, ar_fieldA, ar_field, ar_idxA, ar_idxArr, ar_idx, ar_idxS, ar_extract, ar_append, ar_len, ar_call, ar_callv, callvP_func, List.nil_append, List.cons_append, List.append_nil, ar_pf, ar_hf, ar_slA, upO_some, upO_none, sX_t, sX_c, sX_f, sXs, sXO, sXP, fin_t, fin_t2, fin_t3, up_same, up_ne, ne_eq, not_false_eq_true, AVal.bool.injEq, decide_eq_true_eq, decide_eq_false_iff_not, Int.ofNat_eq_natCast, Int.reduceNegSucc, Int.cast_ofNat_Int, reduceCtorEq, bin_lss, bin_leq, bin_gtr, bin_geq, bin_eql, bin_neq, bin_add, bin_sub, bin_mul, Bool.not_eq_true', Bool.not_eq_false', Bool.true_eq_false, Bool.false_eq_true, Nat.reduceEqDiff, ↓reduceIte, if_true, if_false, Nat.reduceAdd, Int.reduceEq, Int.reduceLT, Int.reduceLE, h1, h2, hw]
    exact ⟨(by first | trivial | rfl | assumption), (by first | trivial | rfl | assumption)⟩
  · have hb : Nat.ble c.toNat 90 = false := by rw [ble_dec]; exact decide_eq_false (by omega)
    rw [hb, Bool.and_false, cond_false] at e
    simp only [c58, pf_min, undef_bool, str_len, str_eql, str_neq, conv_in, un_not, eq_self, decide_true, decide_false, Bool.not_true, Bool.not_false, argE_0, argE_1, argE_2, argE_3, argE_4, aw_skip, aw_reg, aw_seq, aw_cond, aw_block, aw_exit, aw_ret, inSeq_normal, inSeq_exit, inSeq_ret, inBlk_exit, inBlk_normal, inBlk_ret, OptK_some, OptH_some, OptS_some, kont_app, ar_nil, ar_guard, ar_mv, ar_pick, ar_new, ar_box, ar_build, ar_buildSl, ar_load, ar_store, ar_nilChk, ar_bin, ar_un, ar_conv, ar_convSB, ar_convBS, ar_mkFunc, ar_mkIface, ar_mkSlice, ar_sl, ar_slStr, ar_fieldA, ar_field, ar_idxA, ar_idxArr, ar_idx, ar_idxS, ar_extract, ar_append, ar_len, ar_call, ar_callv, callvP_func, List.nil_append, List.cons_append, List.append_nil, ar_pf, ar_hf, ar_slA, upO_some, upO_none, sX_t, sX_c, sX_f, sXs, sXO, sXP, fin_t, fin_t2, fin_t3, up_same, up_ne, ne_eq, not_false_eq_true, AVal.bool.injEq, decide_eq_true_eq, decide_eq_false_iff_not, Int.ofNat_eq_natCast, Int.reduceNegSucc, Int.cast_ofNat_Int, reduceCtorEq, bin_lss, bin_leq, bin_gtr, bin_geq, bin_eql, bin_neq, bin_add, bin_sub, bin_mul, Bool.not_eq_true', Bool.not_eq_false', Bool.true_eq_false, Bool.false_eq_true, Nat.reduceEqDiff, ↓reduceIte, if_true, if_false, Nat.reduceAdd, Int.reduceEq, Int.reduceLT, Int.reduceLE, h1, h2]
    exact ⟨by rw [e], (by first | trivial | rfl | assumption)⟩
  · have hb : Nat.ble 65 c.toNat = false := by rw [ble_dec]; exact decide_eq_false (by omega)
    rw [hb, Bool.false_and, cond_false] at e
    simp only [c58, pf_min, undef_bool, str_len, str_eql, str_neq, conv_in, un_not, eq_self, decide_true, decide_false, Bool.not_true, Bool.not_false, argE_0, argE_1, argE_2, argE_3, argE_4, aw_skip, aw_reg, aw_seq, aw_cond, aw_block, aw_exit, aw_ret, inSeq_normal, inSeq_exit, inSeq_ret, inBlk_exit, inBlk_normal, inBlk_ret, OptK_some, OptH_some, OptS_some, kont_app, ar_nil, ar_guard, ar_mv, ar_pick, ar_new, ar_box, ar_build, ar_buildSl, ar_load, ar_store, ar_nilChk, ar_bin, ar_un, ar_conv, ar_convSB, ar_convBS, ar_mkFunc, ar_mkIface, ar_mkSlice, ar_sl, ar_slStr, ar_fieldA, ar_field, ar_idxA, ar_idxArr, ar_idx, ar_idxS, ar_extract, ar_append, ar_len, ar_call, ar_callv, callvP_func, List.nil_append, List.cons_append, List.append_nil, ar_pf, ar_hf, ar_slA, upO_some, upO_none, sX_t, sX_c, sX_f, sXs, sXO, sXP, fin_t, fin_t2, fin_t3, up_same, up_ne, ne_eq, not_false_eq_true, AVal.bool.injEq, decide_eq_true_eq, decide_eq_false_iff_not, Int.ofNat_eq_natCast, Int.reduceNegSucc, Int.cast_ofNat_Int, reduceCtorEq, bin_lss, bin_leq, bin_gtr, bin_geq, bin_eql, bin_neq, bin_add, bin_sub, bin_mul, Bool.not_eq_true', Bool.not_eq_false', Bool.true_eq_false, Bool.false_eq_true, Nat.reduceEqDiff, ↓reduceIte, if_true, if_false, Nat.reduceAdd, Int.reduceEq, Int.reduceLT, Int.reduceLE, h1, h2]
    exact ⟨by rw [e], (by first | trivial | rfl | assumption)⟩
  · exfalso; omega
theorem all_spec {g : Nat} {p : UInt8 → Bool} (hp : Says g p) {H : AHeap} (hG : GG H) (s : Bs) (hs : s.length ≤ 4611686018427387904) :
    ACalls Tryd.prog natR 35 [.str s, .func (.func g) [] []] H fun v H' => v = .bool (s.all p) ∧ H = H' := by
  refine acalls_ofN rfl za35 rfl ?_
  simp only [c35, pf_min, undef_bool, str_len, str_eql, str_neq, conv_in, un_not, eq_self, decide_true, decide_false, Bool.not_true, Bool.not_false, argE_0, argE_1, argE_2, argE_3, argE_4, aw_skip, aw_reg, aw_seq, aw_cond, aw_block, aw_exit, aw_ret, inSeq_normal, inSeq_exit, inSeq_ret, inBlk_exit, inBlk_normal, inBlk_ret, OptK_some, OptH_some, OptS_some, kont_app, ar_nil, ar_guard, ar_mv, ar_pick, ar_new, ar_box, ar_build, ar_buildSl, ar_load, ar_store, ar_nilChk, ar_bin, ar_un, ar_conv, ar_convSB, ar_convBS, ar_mkFunc, ar_mkIface, ar_mkSlice, ar_sl, ar_slStr, ar_fieldA, ar_field, ar_idxA, ar_idxArr, ar_idx, ar_idxS, ar_extract, ar_append, ar_len, ar_call, ar_callv, callvP_func, List.nil_append, List.cons_append, List.append_nil, ar_pf, ar_hf, ar_slA, upO_some, upO_none, sX_t, sX_c, sX_f, sXs, sXO, sXP, fin_t, fin_t2, fin_t3, up_same, up_ne, ne_eq, not_false_eq_true, AVal.bool.injEq, decide_eq_true_eq, decide_eq_false_iff_not, Int.ofNat_eq_natCast, Int.reduceNegSucc, Int.cast_ofNat_Int, reduceCtorEq, bin_lss, bin_leq, bin_gtr, bin_geq, bin_eql, bin_neq, bin_add, bin_sub, bin_mul, Bool.not_eq_true', Bool.not_eq_false', Bool.true_eq_false, Bool.false_eq_true, Nat.reduceEqDiff, ↓reduceIte, if_true, if_false, Nat.reduceAdd, Int.reduceEq, Int.reduceLT, Int.reduceLE]
  refine aw_loop (fun q (T : Env) H' => ∃ j : Nat, j ≤ s.length ∧ q = s.length - j ∧ T 0 = .str s ∧ T 1 = .func (.func g) [] [] ∧ T 7 = .int .i64 (s.length : Int) ∧ T 8 = .int .i64 (j : Int) ∧ (s.take j).all p = true ∧ H = H') s.length
    ⟨0, Nat.zero_le _, rfl, by simp only [pf_min, undef_bool, str_len, str_eql, str_neq, conv_in, un_not, eq_self, decide_true, decide_false, Bool.not_true, Bool.not_false, argE_0, argE_1, argE_2, argE_3, argE_4, aw_skip, aw_reg, aw_seq, aw_cond, aw_block, aw_exit, aw_ret, inSeq_normal, inSeq_exit, inSeq_ret, inBlk_exit, inBlk_normal, inBlk_ret, OptK_some, OptH_some, OptS_some, kont_app, ar_nil, ar_guard, ar_mv, ar_pick, ar_new, ar_box, ar_build, ar_buildSl, ar_load, ar_store, ar_nilChk, ar_bin, ar_un, ar_conv, ar_convSB, ar_convBS, ar_mkFunc, ar_mkIface, ar_mkSlice, ar_sl, ar_slStr, ar_fieldA, ar_field, ar_idxA, ar_idxArr, ar_idx, ar_idxS, ar_extract, ar_append, ar_len, ar_call, ar_callv, callvP_func, List.nil_append, List.cons_append, List.append_nil, ar_pf, ar_hf, ar_slA, upO_some, upO_none, sX_t, sX_c, sX_f, sXs, sXO, sXP, fin_t, fin_t2, fin_t3, up_same, up_ne, ne_eq, not_false_eq_true, AVal.bool.injEq, decide_eq_true_eq, decide_eq_false_iff_not, Int.ofNat_eq_natCast, Int.reduceNegSucc, Int.cast_ofNat_Int, reduceCtorEq, bin_lss, bin_leq, bin_gtr, bin_geq, bin_eql, bin_neq, bin_add, bin_sub, bin_mul, Bool.not_eq_true', Bool.not_eq_false', Bool.true_eq_false, Bool.false_eq_true, Nat.reduceEqDiff, ↓reduceIte, if_true, if_false, Nat.reduceAdd, Int.reduceEq, Int.reduceLT, Int.reduceLE]; try rfl, by simp only [pf_min, undef_bool, str_len, str_eql, str_neq, conv_in, un_not, eq_self, decide_true, decide_false, Bool.not_true, Bool.not_false, argE_0, argE_1, argE_2, argE_3, argE_4, aw_skip, aw_reg, aw_seq, aw_cond, aw_block, aw_exit, aw_ret, inSeq_normal, inSeq_exit, inSeq_ret, inBlk_exit, inBlk_normal, inBlk_ret, OptK_some, OptH_some, OptS_some, kont_app, ar_nil, ar_guard, ar_mv, ar_pick, ar_new, ar_box, ar_build, ar_buildSl, ar_load, ar_store, ar_nilChk, ar_bin, ar_un, ar_conv, ar_convSB, ar_convBS, ar_mkFunc, ar_mkIface, ar_mkSlice, ar_sl, ar_slStr, ar_fieldA, ar_field, ar_idxA, ar_idxArr, ar_idx, ar_idxS, ar_extract, ar_append, ar_len, ar_call, ar_callv, callvP_func, List.nil_append, List.cons_append, List.append_nil, ar_pf, ar_hf, ar_slA, upO_some, upO_none, sX_t, sX_c, sX_f, sXs, sXO, sXP, fin_t, fin_t2, fin_t3, up_same, up_ne, ne_eq, not_false_eq_true, AVal.bool.injEq, decide_eq_true_eq, decide_eq_false_iff_not, Int.ofNat_eq_natCast, Int.reduceNegSucc, Int.cast_ofNat_Int, reduceCtorEq, bin_lss, bin_leq, bin_gtr, bin_geq, bin_eql, bin_neq, bin_add, bin_sub, bin_mul, Bool.not_eq_true', Bool.not_eq_false', Bool.true_eq_false, Bool.false_eq_true, Nat.reduceEqDiff, ↓reduceIte, if_true, if_false, Nat.reduceAdd, Int.reduceEq, Int.reduceLT, Int.reduceLE]; try rfl, by simp only [pf_min, undef_bool, str_len, str_eql, str_neq, conv_in, un_not, eq_self, decide_true, decide_false, Bool.not_true, Bool.not_false, argE_0, argE_1, argE_2, argE_3, argE_4, aw_skip, aw_reg, aw_seq, aw_cond, aw_block, aw_exit, aw_ret, inSeq_normal, inSeq_exit, inSeq_ret, inBlk_exit, inBlk_normal, inBlk_ret, OptK_some, OptH_some, OptS_some, kont_app, ar_nil, ar_guard, ar_mv, ar_pick, ar_new, ar_box, ar_build, ar_buildSl, ar_load, ar_store, ar_nilChk, ar_bin, ar_un, ar_conv, ar_convSB, ar_convBS, ar_mkFunc, ar_mkIface, ar_mkSlice, ar_sl, ar_slStr, ar_fieldA, ar_field, ar_idxA, ar_idxArr, ar_idx, ar_idxS, ar_extract, ar_append, ar_len, ar_call, ar_callv, callvP_func, List.nil_append, List.cons_append, List.append_nil, ar_pf, ar_hf, ar_slA, upO_some, upO_none, sX_t, sX_c, sX_f, sXs, sXO, sXP, fin_t, fin_t2, fin_t3, up_same, up_ne, ne_eq, not_false_eq_true, AVal.bool.injEq, decide_eq_true_eq, decide_eq_false_iff_not, Int.ofNat_eq_natCast, Int.reduceNegSucc, Int.cast_ofNat_Int, reduceCtorEq, bin_lss, bin_leq, bin_gtr, bin_geq, bin_eql, bin_neq, bin_add, bin_sub, bin_mul, Bool.not_eq_true', Bool.not_eq_false', Bool.true_eq_false, Bool.false_eq_true, Nat.reduceEqDiff, ↓reduceIte, if_true, if_false, Nat.reduceAdd, Int.reduceEq, Int.reduceLT, Int.reduceLE]; try rfl, by simp only [pf_min, undef_bool, str_len, str_eql, str_neq, conv_in, un_not, eq_self, decide_true, decide_false, Bool.not_true, Bool.not_false, argE_0, argE_1, argE_2, argE_3, argE_4, aw_skip, aw_reg, aw_seq, aw_cond, aw_block, aw_exit, aw_ret, inSeq_normal, inSeq_exit, inSeq_ret, inBlk_exit, inBlk_normal, inBlk_ret, OptK_some, OptH_some, OptS_some, kont_app, ar_nil, ar_guard, ar_mv, ar_pick, ar_new, ar_box, ar_build, ar_buildSl, ar_load, ar_store, ar_nilChk, ar_bin, ar_un, ar_conv, ar_convSB, ar_convBS, ar_mkFunc, ar_mkIface, ar_mkSlice, ar_sl, ar_slStr, ar_fieldA, ar_field, ar_idxA, ar_idxArr, ar_idx, ar_idxS, ar_extract, ar_append, ar_len, ar_call, ar_callv, callvP_func, List.nil_append, List.cons_append, List.append_nil, ar_pf, ar_hf, ar_slA, upO_some, upO_none, sX_t, sX_c, sX_f, sXs, sXO, sXP, fin_t, fin_t2, fin_t3, up_same, up_ne, ne_eq, not_false_eq_true, AVal.bool.injEq, decide_eq_true_eq, decide_eq_false_iff_not, Int.ofNat_eq_natCast, Int.reduceNegSucc, Int.cast_ofNat_Int, reduceCtorEq, bin_lss, bin_leq, bin_gtr, bin_geq, bin_eql, bin_neq, bin_add, bin_sub, bin_mul, Bool.not_eq_true', Bool.not_eq_false', Bool.true_eq_false, Bool.false_eq_true, Nat.reduceEqDiff, ↓reduceIte, if_true, if_false, Nat.reduceAdd, Int.reduceEq, Int.reduceLT, Int.reduceLE]; try rfl, rfl, rfl⟩ ?_
  rintro q T _ ⟨j, hj, rfl, g0, g1, g7, g8, hA, rfl⟩
  by_cases hlt : j < s.length
  · have hlt' : (j : Int) < (s.length : Int) := by omega
    obtain ⟨c, hc⟩ := isSome_of_lt hlt
    simp only [pf_min, undef_bool, str_len, str_eql, str_neq, conv_in, un_not, eq_self, decide_true, decide_false, Bool.not_true, Bool.not_false, argE_0, argE_1, argE_2, argE_3, argE_4, aw_skip, aw_reg, aw_seq, aw_cond, aw_block, aw_exit, aw_ret, inSeq_normal, inSeq_exit, inSeq_ret, inBlk_exit, inBlk_normal, inBlk_ret, OptK_some, OptH_some, OptS_some, kont_app, ar_nil, ar_guard, ar_mv, ar_pick, ar_new, ar_box, ar_build, ar_buildSl, ar_load, ar_store, ar_nilChk, ar_bin, ar_un, ar_conv, ar_convSB, ar_convBS, ar_mkFunc, ar_mkIface, ar_mkSlice, ar_sl, ar_slStr, ar_fieldA, ar_field, ar_idxA, ar_idxArr, ar_idx, ar_idxS, ar_extract, ar_append, ar_len, ar_call, ar_callv, callvP_func, List.nil_append, List.cons_append, List.append_nil, ar_pf, ar_hf, ar_slA, upO_some, upO_none, sX_t, sX_c, sX_f, sXs, sXO, sXP, fin_t, fin_t2, fin_t3, up_same, up_ne, ne_eq, not_false_eq_true, AVal.bool.injEq, decide_eq_true_eq, decide_eq_false_iff_not, Int.ofNat_eq_natCast, Int.reduceNegSucc, Int.cast_ofNat_Int, reduceCtorEq, bin_lss, bin_leq, bin_gtr, bin_geq, bin_eql, bin_neq, bin_add, bin_sub, bin_mul, Bool.not_eq_true', Bool.not_eq_false', Bool.true_eq_false, Bool.false_eq_true, Nat.reduceEqDiff, ↓reduceIte, if_true, if_false, Nat.reduceAdd, Int.reduceEq, Int.reduceLT, Int.reduceLE, g0, g1, g7, g8, hlt', str_idx hc]
    refine (hp c H hG).mono ?_
    rintro v _ ⟨rfl, rfl⟩
    cases hpc : p c with
    | true =>
      simp only [pf_min, undef_bool, str_len, str_eql, str_neq, conv_in, un_not, eq_self, decide_true, decide_false, Bool.not_true, Bool.not_false, argE_0, argE_1, argE_2, argE_3, argE_4, aw_skip, aw_reg, aw_seq, aw_cond, aw_block, aw_exit, aw_ret, inSeq_normal, inSeq_exit, inSeq_ret, inBlk_exit, inBlk_normal, inBlk_ret, OptK_some, OptH_some, OptS_some, kont_app, ar_nil, ar_guard, ar_mv, ar_pick, ar_new, ar_box, ar_build, ar_buildSl, ar_load, ar_store, ar_nilChk, ar_bin, ar_un, ar_conv, ar_convSB, ar_convBS, ar_mkFunc, ar_mkIface, ar_mkSlice, ar_sl, ar_slStr, ar_fieldA, ar_field, ar_idxA, ar_idxArr, ar_idx, ar_idxS, ar_extract, ar_append, ar_len, ar_call, ar_callv, callvP_func, List.nil_append, List.cons_append, List.append_nil, ar_pf, ar_hf, ar_slA, upO_some, upO_none, sX_t, sX_c, sX_f, sXs, sXO, sXP, fin_t, fin_t2, fin_t3, up_same, up_ne, ne_eq, not_false_eq_true, AVal.bool.injEq, decide_eq_true_eq, decide_eq_false_iff_not, Int.ofNat_eq_natCast, Int.reduceNegSucc, Int.cast_ofNat_Int, reduceCtorEq, bin_lss, bin_leq, bin_gtr, bin_geq, bin_eql, bin_neq, bin_add, bin_sub, bin_mul, Bool.not_eq_true', Bool.not_eq_false', Bool.true_eq_false, Bool.false_eq_true, Nat.reduceEqDiff, ↓reduceIte, if_true, if_false, Nat.reduceAdd, Int.reduceEq, Int.reduceLT, Int.reduceLE, g0, g1, g7, g8, wrap1 j (by omega)]
      refine ⟨_, by omega, j + 1, by omega, rfl, (by first | trivial | rfl | assumption), (by first | trivial | rfl | assumption), (by first | trivial | rfl | assumption), (by first | trivial | rfl | assumption), ?_, (by first | trivial | rfl | assumption)⟩
      rw [List.take_add_one, hc, List.all_append, hA]; simp [hpc]
    | false =>
      simp only [pf_min, undef_bool, str_len, str_eql, str_neq, conv_in, un_not, eq_self, decide_true, decide_false, Bool.not_true, Bool.not_false, argE_0, argE_1, argE_2, argE_3, argE_4, aw_skip, aw_reg, aw_seq, aw_cond, aw_block, aw_exit, aw_ret, inSeq_normal, inSeq_exit, inSeq_ret, inBlk_exit, inBlk_normal, inBlk_ret, OptK_some, OptH_some, OptS_some, kont_app, ar_nil, ar_guard, ar_mv, ar_pick, ar_new, ar_box, ar_build, ar_buildSl, ar_load, ar_store, ar_nilChk, ar_bin, ar_un, ar_conv, ar_convSB, ar_convBS, ar_mkFunc, ar_mkIface, ar_mkSlice, ar_sl, ar_slStr, ar_fieldA, ar_field, ar_idxA, ar_idxArr, ar_idx, ar_idxS, ar_extract, ar_append, ar_len, ar_call, ar_callv, callvP_func, List.nil_append, List.cons_append, List.append_nil, ar_pf, ar_hf, ar_slA, upO_some, upO_none, sX_t, sX_c, sX_f, sXs, sXO, sXP, fin_t, fin_t2, fin_t3, up_same, up_ne, ne_eq, not_false_eq_true, AVal.bool.injEq, decide_eq_true_eq, decide_eq_false_iff_not, Int.ofNat_eq_natCast, Int.reduceNegSucc, Int.cast_ofNat_Int, reduceCtorEq, bin_lss, bin_leq, bin_gtr, bin_geq, bin_eql, bin_neq, bin_add, bin_sub, bin_mul, Bool.not_eq_true', Bool.not_eq_false', Bool.true_eq_false, Bool.false_eq_true, Nat.reduceEqDiff, ↓reduceIte, if_true, if_false, Nat.reduceAdd, Int.reduceEq, Int.reduceLT, Int.reduceLE, g0, g1, g7, g8]
      refine ⟨?_, (by first | trivial | rfl | assumption)⟩
      have : s.all p = false := by
        rw [Bool.eq_false_iff]
        intro h
        have := List.all_eq_true.1 h c (List.mem_of_getElem? hc)
        rw [hpc] at this; simp at this
      rw [this]
  · have hlt' : ¬ (j : Int) < (s.length : Int) := by omega
    simp only [pf_min, undef_bool, str_len, str_eql, str_neq, conv_in, un_not, eq_self, decide_true, decide_false, Bool.not_true, Bool.not_false, argE_0, argE_1, argE_2, argE_3, argE_4, aw_skip, aw_reg, aw_seq, aw_cond, aw_block, aw_exit, aw_ret, inSeq_normal, inSeq_exit, inSeq_ret, inBlk_exit, inBlk_normal, inBlk_ret, OptK_some, OptH_some, OptS_some, kont_app, ar_nil, ar_guard, ar_mv, ar_pick, ar_new, ar_box, ar_build, ar_buildSl, ar_load, ar_store, ar_nilChk, ar_bin, ar_un, ar_conv, ar_convSB, ar_convBS, ar_mkFunc, ar_mkIface, ar_mkSlice, ar_sl, ar_slStr, ar_fieldA, ar_field, ar_idxA, ar_idxArr, ar_idx, ar_idxS, ar_extract, ar_append, ar_len, ar_call, ar_callv, callvP_func, List.nil_append, List.cons_append, List.append_nil, ar_pf, ar_hf, ar_slA, upO_some, upO_none, sX_t, sX_c, sX_f, sXs, sXO, sXP, fin_t, fin_t2, fin_t3, up_same, up_ne, ne_eq, not_false_eq_true, AVal.bool.injEq, decide_eq_true_eq, decide_eq_false_iff_not, Int.ofNat_eq_natCast, Int.reduceNegSucc, Int.cast_ofNat_Int, reduceCtorEq, bin_lss, bin_leq, bin_gtr, bin_geq, bin_eql, bin_neq, bin_add, bin_sub, bin_mul, Bool.not_eq_true', Bool.not_eq_false', Bool.true_eq_false, Bool.false_eq_true, Nat.reduceEqDiff, ↓reduceIte, if_true, if_false, Nat.reduceAdd, Int.reduceEq, Int.reduceLT, Int.reduceLE, g0, g1, g7, g8, hlt']
    refine ⟨?_, (by first | trivial | rfl | assumption)⟩
    rw [List.take_of_length_le (by omega)] at hA
    rw [hA]
theorem find_pre {a r : Bs} {c : UInt8} (h : ∀ b ∈ a, b ≠ c) : find (a ++ c :: r) c = a.length := by
  induction a with
  | nil => simp [find, List.findIdx_cons]
  | cons b a ih =>
    have hb : (b == c) = false := by simpa using h b (by simp)
    have := ih fun c hc => h c (by simp [hc])
    unfold find at this ⊢
    simp only [List.cons_append, List.findIdx_cons, hb, cond_false, this, List.length_cons]
theorem find_no {a : Bs} {c : UInt8} (h : ∀ b ∈ a, b ≠ c) : find a c = a.length := by
  induction a with
  | nil => simp [find, List.findIdx_cons]
  | cons b a ih =>
    have hb : (b == c) = false := by simpa using h b (by simp)
    have := ih fun c hc => h c (by simp [hc])
    unfold find at this ⊢
    simp only [List.findIdx_cons, hb, cond_false, this, List.length_cons]
theorem split_at {s : Bs} {j : Nat} {c : UInt8} (h : s[j]? = some c) : s = s.take j ++ c :: s.drop (j + 1) := by
  obtain ⟨hlt, he⟩ := List.getElem?_eq_some_iff.1 h
  rw [← he, ← List.drop_eq_getElem_cons hlt, List.take_append_drop]
theorem find_spec (s : Bs) (c : UInt8) {H : AHeap} (hs : s.length ≤ 4611686018427387904) : ACalls Tryd.prog natR 59 [.str s, by8 c] H fun v H' => v = .int .i64 (find s c : Int) ∧ H = H' := by
  refine acalls_ofN rfl za59 rfl ?_
  simp only [c59, pf_min, undef_bool, str_len, str_eql, str_neq, conv_in, un_not, eq_self, decide_true, decide_false, Bool.not_true, Bool.not_false, argE_0, argE_1, argE_2, argE_3, argE_4, aw_skip, aw_reg, aw_seq, aw_cond, aw_block, aw_exit, aw_ret, inSeq_normal, inSeq_exit, inSeq_ret, inBlk_exit, inBlk_normal, inBlk_ret, OptK_some, OptH_some, OptS_some, kont_app, ar_nil, ar_guard, ar_mv, ar_pick, ar_new, ar_box, ar_build, ar_buildSl, ar_load, ar_store, ar_nilChk, ar_bin, ar_un, ar_conv, ar_convSB, ar_convBS, ar_mkFunc, ar_mkIface, ar_mkSlice, ar_sl, ar_slStr, ar_fieldA, ar_field, ar_idxA, ar_idxArr, ar_idx, ar_idxS, ar_extract, ar_append, ar_len, ar_call, ar_callv, callvP_func, List.nil_append, List.cons_append, List.append_nil, ar_pf, ar_hf, ar_slA, upO_some, upO_none, sX_t, sX_c, sX_f, sXs, sXO, sXP, fin_t, fin_t2, fin_t3, up_same, up_ne, ne_eq, not_false_eq_true, AVal.bool.injEq, decide_eq_true_eq, decide_eq_false_iff_not, Int.ofNat_eq_natCast, Int.reduceNegSucc, Int.cast_ofNat_Int, reduceCtorEq, bin_lss, bin_leq, bin_gtr, bin_geq, bin_eql, bin_neq, bin_add, bin_sub, bin_mul, Bool.not_eq_true', Bool.not_eq_false', Bool.true_eq_false, Bool.false_eq_true, Nat.reduceEqDiff, ↓reduceIte, if_true, if_false, Nat.reduceAdd, Int.reduceEq, Int.reduceLT, Int.reduceLE]
  refine aw_loop (fun q (T : Env) H' => ∃ j : Nat, j ≤ s.length ∧ q = s.length - j ∧ T 0 = .str s ∧ T 1 = by8 c ∧ T 5 = .int .i64 (j : Int) ∧ (∀ b ∈ s.take j, b ≠ c) ∧ H = H') s.length
    ⟨0, Nat.zero_le _, rfl, by simp only [pf_min, undef_bool, str_len, str_eql, str_neq, conv_in, un_not, eq_self, decide_true, decide_false, Bool.not_true, Bool.not_false, argE_0, argE_1, argE_2, argE_3, argE_4, aw_skip, aw_reg, aw_seq, aw_cond, aw_block, aw_exit, aw_ret, inSeq_normal, inSeq_exit, inSeq_ret, inBlk_exit, inBlk_normal, inBlk_ret, OptK_some, OptH_some, OptS_some, kont_app, ar_nil, ar_guard, ar_mv, ar_pick, ar_new, ar_box, ar_build, ar_buildSl, ar_load, ar_store, ar_nilChk, ar_bin, ar_un, ar_conv, ar_convSB, ar_convBS, ar_mkFunc, ar_mkIface, ar_mkSlice, ar_sl, ar_slStr, ar_fieldA, ar_field, ar_idxA, ar_idxArr, ar_idx, ar_idxS, ar_extract, ar_append, ar_len, ar_call, ar_callv, callvP_func, List.nil_append, List.cons_append, List.append_nil, ar_pf, ar_hf, ar_slA, upO_some, upO_none, sX_t, sX_c, sX_f, sXs, sXO, sXP, fin_t, fin_t2, fin_t3, up_same, up_ne, ne_eq, not_false_eq_true, AVal.bool.injEq, decide_eq_true_eq, decide_eq_false_iff_not, Int.ofNat_eq_natCast, Int.reduceNegSucc, Int.cast_ofNat_Int, reduceCtorEq, bin_lss, bin_leq, bin_gtr, bin_geq, bin_eql, bin_neq, bin_add, bin_sub, bin_mul, Bool.not_eq_true', Bool.not_eq_false', Bool.true_eq_false, Bool.false_eq_true, Nat.reduceEqDiff, ↓reduceIte, if_true, if_false, Nat.reduceAdd, Int.reduceEq, Int.reduceLT, Int.reduceLE]; try rfl, by simp only [pf_min, undef_bool, str_len, str_eql, str_neq, conv_in, un_not, eq_self, decide_true, decide_false, Bool.not_true, Bool.not_false, argE_0, argE_1, argE_2, argE_3, argE_4, aw_skip, aw_reg, aw_seq, aw_cond, aw_block, aw_exit, aw_ret, inSeq_normal, inSeq_exit, inSeq_ret, inBlk_exit, inBlk_normal, inBlk_ret, OptK_some, OptH_some, OptS_some, kont_app, ar_nil, ar_guard, ar_mv, ar_pick, ar_new, ar_box, ar_build, ar_buildSl, ar_load, ar_store, ar_nilChk, ar_bin, ar_un, ar_conv, ar_convSB, ar_convBS, ar_mkFunc, ar_mkIface, ar_mkSlice, ar_sl, ar_slStr, ar_fieldA, ar_field, ar_idxA, ar_idxArr, ar_idx, ar_idxS, ar_extract, ar_append, ar_len, ar_call, ar_callv, callvP_func, List.nil_append, List.cons_append, List.append_nil, ar_pf, ar_hf, ar_slA, upO_some, upO_none, sX_t, sX_c, sX_f, sXs, sXO, sXP, fin_t, fin_t2, fin_t3, up_same, up_ne, ne_eq, not_false_eq_true, AVal.bool.injEq, decide_eq_true_eq, decide_eq_false_iff_not, Int.ofNat_eq_natCast, Int.reduceNegSucc, Int.cast_ofNat_Int, reduceCtorEq, bin_lss, bin_leq, bin_gtr, bin_geq, bin_eql, bin_neq, bin_add, bin_sub, bin_mul, Bool.not_eq_true', Bool.not_eq_false', Bool.true_eq_false, Bool.false_eq_true, Nat.reduceEqDiff, ↓reduceIte, if_true, if_false, Nat.reduceAdd, Int.reduceEq, Int.reduceLT, Int.reduceLE]; try rfl, by simp only [pf_min, undef_bool, str_len, str_eql, str_neq, conv_in, un_not, eq_self, decide_true, decide_false, Bool.not_true, Bool.not_false, argE_0, argE_1, argE_2, argE_3, argE_4, aw_skip, aw_reg, aw_seq, aw_cond, aw_block, aw_exit, aw_ret, inSeq_normal, inSeq_exit, inSeq_ret, inBlk_exit, inBlk_normal, inBlk_ret, OptK_some, OptH_some, OptS_some, kont_app, ar_nil, ar_guard, ar_mv, ar_pick, ar_new, ar_box, ar_build, ar_buildSl, ar_load, ar_store, ar_nilChk, ar_bin, ar_un, ar_conv, ar_convSB, ar_convBS, ar_mkFunc, ar_mkIface, ar_mkSlice, ar_sl, ar_slStr, ar_fieldA, ar_field, ar_idxA, ar_idxArr, ar_idx, ar_idxS, ar_extract, ar_append, ar_len, ar_call, ar_callv, callvP_func, List.nil_append, List.cons_append, List.append_nil, ar_pf, ar_hf, ar_slA, upO_some, upO_none, sX_t, sX_c, sX_f, sXs, sXO, sXP, fin_t, fin_t2, fin_t3, up_same, up_ne, ne_eq, not_false_eq_true, AVal.bool.injEq, decide_eq_true_eq, decide_eq_false_iff_not, Int.ofNat_eq_natCast, Int.reduceNegSucc, Int.cast_ofNat_Int, reduceCtorEq, bin_lss, bin_leq, bin_gtr, bin_geq, bin_eql, bin_neq, bin_add, bin_sub, bin_mul, Bool.not_eq_true', Bool.not_eq_false', Bool.true_eq_false, Bool.false_eq_true, Nat.reduceEqDiff, ↓reduceIte, if_true, if_false, Nat.reduceAdd, Int.reduceEq, Int.reduceLT, Int.reduceLE]; try rfl, by simp, rfl⟩ ?_
  rintro q T _ ⟨j, hj, rfl, g0, g1, g5, hA, rfl⟩
  by_cases hlt : j < s.length
  · have hlt' : (j : Int) < (s.length : Int) := by omega
    obtain ⟨b, hb⟩ := isSome_of_lt hlt
    by_cases he : b = c
    · subst he
      simp only [pf_min, undef_bool, str_len, str_eql, str_neq, conv_in, un_not, eq_self, decide_true, decide_false, Bool.not_true, Bool.not_false, argE_0, argE_1, argE_2, argE_3, argE_4, aw_skip, aw_reg, aw_seq, aw_cond, aw_block, aw_exit, aw_ret, inSeq_normal, inSeq_exit, inSeq_ret, inBlk_exit, inBlk_normal, inBlk_ret, OptK_some, OptH_some, OptS_some, kont_app, ar_nil, ar_guard, ar_mv, ar_pick, ar_new, ar_box, ar_build, ar_buildSl, ar_load, ar_store, ar_nilChk, ar_bin, ar_un, ar_conv, ar_convSB, ar_convBS, ar_mkFunc, ar_mkIface, ar_mkSlice, ar_sl, ar_slStr, ar_fieldA, ar_field, ar_idxA, ar_idxArr, ar_idx, ar_idxS, ar_extract, ar_append, ar_len, ar_call, ar_callv, callvP_func, List.nil_append, List.cons_append, List.append_nil, ar_pf, ar_hf, ar_slA, upO_some, upO_none, sX_t, sX_c, sX_f, sXs, sXO, sXP, fin_t, fin_t2, fin_t3, up_same, up_ne, ne_eq, not_false_eq_true, AVal.bool.injEq, decide_eq_true_eq, decide_eq_false_iff_not, Int.ofNat_eq_natCast, Int.reduceNegSucc, Int.cast_ofNat_Int, reduceCtorEq, bin_lss, bin_leq, bin_gtr, bin_geq, bin_eql, bin_neq, bin_add, bin_sub, bin_mul, Bool.not_eq_true', Bool.not_eq_false', Bool.true_eq_false, Bool.false_eq_true, Nat.reduceEqDiff, ↓reduceIte, if_true, if_false, Nat.reduceAdd, Int.reduceEq, Int.reduceLT, Int.reduceLE, g0, g1, g5, hlt', str_idx hb]
      refine ⟨?_, (by first | trivial | rfl | assumption)⟩
      have e := split_at hb
      have := find_pre (r := s.drop (j + 1)) hA
      rw [← e, List.length_take_of_le hj] at this
      rw [this]
    · have he' : ¬ ((b.toNat : Int) = (c.toNat : Int)) := fun e => he (UInt8.toNat_inj.1 (by omega))
      simp only [pf_min, undef_bool, str_len, str_eql, str_neq, conv_in, un_not, eq_self, decide_true, decide_false, Bool.not_true, Bool.not_false, argE_0, argE_1, argE_2, argE_3, argE_4, aw_skip, aw_reg, aw_seq, aw_cond, aw_block, aw_exit, aw_ret, inSeq_normal, inSeq_exit, inSeq_ret, inBlk_exit, inBlk_normal, inBlk_ret, OptK_some, OptH_some, OptS_some, kont_app, ar_nil, ar_guard, ar_mv, ar_pick, ar_new, ar_box, ar_build, ar_buildSl, ar_load, ar_store, ar_nilChk, ar_bin, ar_un, ar_conv, ar_convSB, ar_convBS, ar_mkFunc, ar_mkIface, ar_mkSlice, ar_sl, ar_slStr, ar_fieldA, ar_field, ar_idxA, ar_idxArr, ar_idx, ar_idxS, ar_extract, ar_append, ar_len, ar_call, ar_callv, callvP_func, List.nil_append, List.cons_append, List.append_nil, ar_pf, ar_hf, ar_slA, upO_some, upO_none, sX_t, sX_c, sX_f, sXs, sXO, sXP, fin_t, fin_t2, fin_t3, up_same, up_ne, ne_eq, not_false_eq_true, AVal.bool.injEq, decide_eq_true_eq, decide_eq_false_iff_not, Int.ofNat_eq_natCast, Int.reduceNegSucc, Int.cast_ofNat_Int, reduceCtorEq, bin_lss, bin_leq, bin_gtr, bin_geq, bin_eql, bin_neq, bin_add, bin_sub, bin_mul, Bool.not_eq_true', Bool.not_eq_false', Bool.true_eq_false, Bool.false_eq_true, Nat.reduceEqDiff, ↓reduceIte, if_true, if_false, Nat.reduceAdd, Int.reduceEq, Int.reduceLT, Int.reduceLE, g0, g1, g5, hlt', str_idx hb, he', wrap1 j (by omega)]
      refine ⟨_, by omega, j + 1, by omega, rfl, (by first | trivial | rfl | assumption), (by first | trivial | rfl | assumption), (by first | trivial | rfl | assumption), ?_, (by first | trivial | rfl | assumption)⟩
      intro x hx
      rw [List.take_add_one, hb] at hx
      rcases List.mem_append.1 hx with hx | hx
      · exact hA x hx
      · have : x = b := by simpa using hx
        rw [this]; exact he
  · have hlt' : ¬ (j : Int) < (s.length : Int) := by omega
    simp only [pf_min, undef_bool, str_len, str_eql, str_neq, conv_in, un_not, eq_self, decide_true, decide_false, Bool.not_true, Bool.not_false, argE_0, argE_1, argE_2, argE_3, argE_4, aw_skip, aw_reg, aw_seq, aw_cond, aw_block, aw_exit, aw_ret, inSeq_normal, inSeq_exit, inSeq_ret, inBlk_exit, inBlk_normal, inBlk_ret, OptK_some, OptH_some, OptS_some, kont_app, ar_nil, ar_guard, ar_mv, ar_pick, ar_new, ar_box, ar_build, ar_buildSl, ar_load, ar_store, ar_nilChk, ar_bin, ar_un, ar_conv, ar_convSB, ar_convBS, ar_mkFunc, ar_mkIface, ar_mkSlice, ar_sl, ar_slStr, ar_fieldA, ar_field, ar_idxA, ar_idxArr, ar_idx, ar_idxS, ar_extract, ar_append, ar_len, ar_call, ar_callv, callvP_func, List.nil_append, List.cons_append, List.append_nil, ar_pf, ar_hf, ar_slA, upO_some, upO_none, sX_t, sX_c, sX_f, sXs, sXO, sXP, fin_t, fin_t2, fin_t3, up_same, up_ne, ne_eq, not_false_eq_true, AVal.bool.injEq, decide_eq_true_eq, decide_eq_false_iff_not, Int.ofNat_eq_natCast, Int.reduceNegSucc, Int.cast_ofNat_Int, reduceCtorEq, bin_lss, bin_leq, bin_gtr, bin_geq, bin_eql, bin_neq, bin_add, bin_sub, bin_mul, Bool.not_eq_true', Bool.not_eq_false', Bool.true_eq_false, Bool.false_eq_true, Nat.reduceEqDiff, ↓reduceIte, if_true, if_false, Nat.reduceAdd, Int.reduceEq, Int.reduceLT, Int.reduceLE, g0, g1, g5, hlt']
    refine ⟨?_, (by first | trivial | rfl | assumption)⟩
    rw [List.take_of_length_le (by omega)] at hA
    rw [find_no hA]
/-- bytes of a kind alone, one at least: names -/
theorem allN_spec {H : AHeap} (hG : GG H) (s : Bs) (hs : s.length ≤ 4611686018427387904) :
    ACalls Tryd.prog natR 60 [.str s, .int .i64 1] H fun v H' => v = .bool (s.all tch && !decide (s = [])) ∧ H = H' := by
  refine acalls_ofN rfl za60 rfl ?_
  simp only [c60, pf_min, undef_bool, str_len, str_eql, str_neq, conv_in, un_not, eq_self, decide_true, decide_false, Bool.not_true, Bool.not_false, argE_0, argE_1, argE_2, argE_3, argE_4, aw_skip, aw_reg, aw_seq, aw_cond, aw_block, aw_exit, aw_ret, inSeq_normal, inSeq_exit, inSeq_ret, inBlk_exit, inBlk_normal, inBlk_ret, OptK_some, OptH_some, OptS_some, kont_app, ar_nil, ar_guard, ar_mv, ar_pick, ar_new, ar_box, ar_build, ar_buildSl, ar_load, ar_store, ar_nilChk, ar_bin, ar_un, ar_conv, ar_convSB, ar_convBS, ar_mkFunc, ar_mkIface, ar_mkSlice, ar_sl, ar_slStr, ar_fieldA, ar_field, ar_idxA, ar_idxArr, ar_idx, ar_idxS, ar_extract, ar_append, ar_len, ar_call, ar_callv, callvP_func, List.nil_append, List.cons_append, List.append_nil, ar_pf, ar_hf, ar_slA, upO_some, upO_none, sX_t, sX_c, sX_f, sXs, sXO, sXP, fin_t, fin_t2, fin_t3, up_same, up_ne, ne_eq, not_false_eq_true, AVal.bool.injEq, decide_eq_true_eq, decide_eq_false_iff_not, Int.ofNat_eq_natCast, Int.reduceNegSucc, Int.cast_ofNat_Int, reduceCtorEq, bin_lss, bin_leq, bin_gtr, bin_geq, bin_eql, bin_neq, bin_add, bin_sub, bin_mul, Bool.not_eq_true', Bool.not_eq_false', Bool.true_eq_false, Bool.false_eq_true, Nat.reduceEqDiff, ↓reduceIte, if_true, if_false, Nat.reduceAdd, Int.reduceEq, Int.reduceLT, Int.reduceLE]
  refine aw_loop (fun q (T : Env) H' => ∃ j : Nat, j ≤ s.length ∧ q = s.length - j ∧ T 0 = .str s ∧ T 1 = .int .i64 1 ∧ T 5 = .int .i64 (j : Int) ∧ (s.take j).all tch = true ∧ H = H') s.length
    ⟨0, Nat.zero_le _, rfl, by simp only [pf_min, undef_bool, str_len, str_eql, str_neq, conv_in, un_not, eq_self, decide_true, decide_false, Bool.not_true, Bool.not_false, argE_0, argE_1, argE_2, argE_3, argE_4, aw_skip, aw_reg, aw_seq, aw_cond, aw_block, aw_exit, aw_ret, inSeq_normal, inSeq_exit, inSeq_ret, inBlk_exit, inBlk_normal, inBlk_ret, OptK_some, OptH_some, OptS_some, kont_app, ar_nil, ar_guard, ar_mv, ar_pick, ar_new, ar_box, ar_build, ar_buildSl, ar_load, ar_store, ar_nilChk, ar_bin, ar_un, ar_conv, ar_convSB, ar_convBS, ar_mkFunc, ar_mkIface, ar_mkSlice, ar_sl, ar_slStr, ar_fieldA, ar_field, ar_idxA, ar_idxArr, ar_idx, ar_idxS, ar_extract, ar_append, ar_len, ar_call, ar_callv, callvP_func, List.nil_append, List.cons_append, List.append_nil, ar_pf, ar_hf, ar_slA, upO_some, upO_none, sX_t, sX_c, sX_f, sXs, sXO, sXP, fin_t, fin_t2, fin_t3, up_same, up_ne, ne_eq, not_false_eq_true, AVal.bool.injEq, decide_eq_true_eq, decide_eq_false_iff_not, Int.ofNat_eq_natCast, Int.reduceNegSucc, Int.cast_ofNat_Int, reduceCtorEq, bin_lss, bin_leq, bin_gtr, bin_geq, bin_eql, bin_neq, bin_add, bin_sub, bin_mul, Bool.not_eq_true', Bool.not_eq_false', Bool.true_eq_false, Bool.false_eq_true, Nat.reduceEqDiff, ↓reduceIte, if_true, if_false, Nat.reduceAdd, Int.reduceEq, Int.reduceLT, Int.reduceLE]; try rfl, by simp only [pf_min, undef_bool, str_len, str_eql, str_neq, conv_in, un_not, eq_self, decide_true, decide_false, Bool.not_true, Bool.not_false, argE_0, argE_1, argE_2, argE_3, argE_4, aw_skip, aw_reg, aw_seq, aw_cond, aw_block, aw_exit, aw_ret, inSeq_normal, inSeq_exit, inSeq_ret, inBlk_exit, inBlk_normal, inBlk_ret, OptK_some, OptH_some, OptS_some, kont_app, ar_nil, ar_guard, ar_mv, ar_pick, ar_new, ar_box, ar_build, ar_buildSl, ar_load, ar_store, ar_nilChk, ar_bin, ar_un, ar_conv, ar_convSB, ar_convBS, ar_mkFunc, ar_mkIface, ar_mkSlice, ar_sl, ar_slStr, ar_fieldA, ar_field, ar_idxA, ar_idxArr, ar_idx, ar_idxS, ar_extract, ar_append, ar_len, ar_call, ar_callv, callvP_func, List.nil_append, List.cons_append, List.append_nil, ar_pf, ar_hf, ar_slA, upO_some, upO_none, sX_t, sX_c, sX_f, sXs, sXO, sXP, fin_t, fin_t2, fin_t3, up_same, up_ne, ne_eq, not_false_eq_true, AVal.bool.injEq, decide_eq_true_eq, decide_eq_false_iff_not, Int.ofNat_eq_natCast, Int.reduceNegSucc, Int.cast_ofNat_Int, reduceCtorEq, bin_lss, bin_leq, bin_gtr, bin_geq, bin_eql, bin_neq, bin_add, bin_sub, bin_mul, Bool.not_eq_true', Bool.not_eq_false', Bool.true_eq_false, Bool.false_eq_true, Nat.reduceEqDiff, ↓reduceIte, if_true, if_false, Nat.reduceAdd, Int.reduceEq, Int.reduceLT, Int.reduceLE]; try rfl, by simp only [pf_min, undef_bool, str_len, str_eql, str_neq, conv_in, un_not, eq_self, decide_true, decide_false, Bool.not_true, Bool.not_false, argE_0, argE_1, argE_2, argE_3, argE_4, aw_skip, aw_reg, aw_seq, aw_cond, aw_block, aw_exit, aw_ret, inSeq_normal, inSeq_exit, inSeq_ret, inBlk_exit, inBlk_normal, inBlk_ret, OptK_some, OptH_some, OptS_some, kont_app, ar_nil, ar_guard, ar_mv, ar_pick, ar_new, ar_box, ar_build, ar_buildSl, ar_load, ar_store, ar_nilChk, ar_bin, ar_un, ar_conv, ar_convSB, ar_convBS, ar_mkFunc, ar_mkIface, ar_mkSlice, ar_sl, ar_slStr, ar_fieldA, ar_field, ar_idxA, ar_idxArr, ar_idx, ar_idxS, ar_extract, ar_append, ar_len, ar_call, ar_callv, callvP_func, List.nil_append, List.cons_append, List.append_nil, ar_pf, ar_hf, ar_slA, upO_some, upO_none, sX_t, sX_c, sX_f, sXs, sXO, sXP, fin_t, fin_t2, fin_t3, up_same, up_ne, ne_eq, not_false_eq_true, AVal.bool.injEq, decide_eq_true_eq, decide_eq_false_iff_not, Int.ofNat_eq_natCast, Int.reduceNegSucc, Int.cast_ofNat_Int, reduceCtorEq, bin_lss, bin_leq, bin_gtr, bin_geq, bin_eql, bin_neq, bin_add, bin_sub, bin_mul, Bool.not_eq_true', Bool.not_eq_false', Bool.true_eq_false, Bool.false_eq_true, Nat.reduceEqDiff, ↓reduceIte, if_true, if_false, Nat.reduceAdd, Int.reduceEq, Int.reduceLT, Int.reduceLE]; try rfl, rfl, rfl⟩ ?_
  rintro q T _ ⟨j, hj, rfl, g0, g1, g5, hA, rfl⟩
  by_cases hlt : j < s.length
  · have hlt' : (j : Int) < (s.length : Int) := by omega
    obtain ⟨c, hc⟩ := isSome_of_lt hlt
    simp only [pf_min, undef_bool, str_len, str_eql, str_neq, conv_in, un_not, eq_self, decide_true, decide_false, Bool.not_true, Bool.not_false, argE_0, argE_1, argE_2, argE_3, argE_4, aw_skip, aw_reg, aw_seq, aw_cond, aw_block, aw_exit, aw_ret, inSeq_normal, inSeq_exit, inSeq_ret, inBlk_exit, inBlk_normal, inBlk_ret, OptK_some, OptH_some, OptS_some, kont_app, ar_nil, ar_guard, ar_mv, ar_pick, ar_new, ar_box, ar_build, ar_buildSl, ar_load, ar_store, ar_nilChk, ar_bin, ar_un, ar_conv, ar_convSB, ar_convBS, ar_mkFunc, ar_mkIface, ar_mkSlice, ar_sl, ar_slStr, ar_fieldA, ar_field, ar_idxA, ar_idxArr, ar_idx, ar_idxS, ar_extract, ar_append, ar_len, ar_call, ar_callv, callvP_func, List.nil_append, List.cons_append, List.append_nil, ar_pf, ar_hf, ar_slA, upO_some, upO_none, sX_t, sX_c, sX_f, sXs, sXO, sXP, fin_t, fin_t2, fin_t3, up_same, up_ne, ne_eq, not_false_eq_true, AVal.bool.injEq, decide_eq_true_eq, decide_eq_false_iff_not, Int.ofNat_eq_natCast, Int.reduceNegSucc, Int.cast_ofNat_Int, reduceCtorEq, bin_lss, bin_leq, bin_gtr, bin_geq, bin_eql, bin_neq, bin_add, bin_sub, bin_mul, Bool.not_eq_true', Bool.not_eq_false', Bool.true_eq_false, Bool.false_eq_true, Nat.reduceEqDiff, ↓reduceIte, if_true, if_false, Nat.reduceAdd, Int.reduceEq, Int.reduceLT, Int.reduceLE, g0, g1, g5, hlt', str_idx hc]
    refine (digit_any c H).mono ?_
    rintro v _ ⟨⟨dg, rfl⟩, rfl⟩
    simp only [pf_min, undef_bool, str_len, str_eql, str_neq, conv_in, un_not, eq_self, decide_true, decide_false, Bool.not_true, Bool.not_false, argE_0, argE_1, argE_2, argE_3, argE_4, aw_skip, aw_reg, aw_seq, aw_cond, aw_block, aw_exit, aw_ret, inSeq_normal, inSeq_exit, inSeq_ret, inBlk_exit, inBlk_normal, inBlk_ret, OptK_some, OptH_some, OptS_some, kont_app, ar_nil, ar_guard, ar_mv, ar_pick, ar_new, ar_box, ar_build, ar_buildSl, ar_load, ar_store, ar_nilChk, ar_bin, ar_un, ar_conv, ar_convSB, ar_convBS, ar_mkFunc, ar_mkIface, ar_mkSlice, ar_sl, ar_slStr, ar_fieldA, ar_field, ar_idxA, ar_idxArr, ar_idx, ar_idxS, ar_extract, ar_append, ar_len, ar_call, ar_callv, callvP_func, List.nil_append, List.cons_append, List.append_nil, ar_pf, ar_hf, ar_slA, upO_some, upO_none, sX_t, sX_c, sX_f, sXs, sXO, sXP, fin_t, fin_t2, fin_t3, up_same, up_ne, ne_eq, not_false_eq_true, AVal.bool.injEq, decide_eq_true_eq, decide_eq_false_iff_not, Int.ofNat_eq_natCast, Int.reduceNegSucc, Int.cast_ofNat_Int, reduceCtorEq, bin_lss, bin_leq, bin_gtr, bin_geq, bin_eql, bin_neq, bin_add, bin_sub, bin_mul, Bool.not_eq_true', Bool.not_eq_false', Bool.true_eq_false, Bool.false_eq_true, Nat.reduceEqDiff, ↓reduceIte, if_true, if_false, Nat.reduceAdd, Int.reduceEq, Int.reduceLT, Int.reduceLE, g0, g1, g5]
    refine (says_tch2 c H hG).mono ?_
    rintro v _ ⟨rfl, rfl⟩
    cases hpc : tch c with
    | true =>
      simp only [pf_min, undef_bool, str_len, str_eql, str_neq, conv_in, un_not, eq_self, decide_true, decide_false, Bool.not_true, Bool.not_false, argE_0, argE_1, argE_2, argE_3, argE_4, aw_skip, aw_reg, aw_seq, aw_cond, aw_block, aw_exit, aw_ret, inSeq_normal, inSeq_exit, inSeq_ret, inBlk_exit, inBlk_normal, inBlk_ret, OptK_some, OptH_some, OptS_some, kont_app, ar_nil, ar_guard, ar_mv, ar_pick, ar_new, ar_box, ar_build, ar_buildSl, ar_load, ar_store, ar_nilChk, ar_bin, ar_un, ar_conv, ar_convSB, ar_convBS, ar_mkFunc, ar_mkIface, ar_mkSlice, ar_sl, ar_slStr, ar_fieldA, ar_field, ar_idxA, ar_idxArr, ar_idx, ar_idxS, ar_extract, ar_append, ar_len, ar_call, ar_callv, callvP_func, List.nil_append, List.cons_append, List.append_nil, ar_pf, ar_hf, ar_slA, upO_some, upO_none, sX_t, sX_c, sX_f, sXs, sXO, sXP, fin_t, fin_t2, fin_t3, up_same, up_ne, ne_eq, not_false_eq_true, AVal.bool.injEq, decide_eq_true_eq, decide_eq_false_iff_not, Int.ofNat_eq_natCast, Int.reduceNegSucc, Int.cast_ofNat_Int, reduceCtorEq, bin_lss, bin_leq, bin_gtr, bin_geq, bin_eql, bin_neq, bin_add, bin_sub, bin_mul, Bool.not_eq_true', Bool.not_eq_false', Bool.true_eq_false, Bool.false_eq_true, Nat.reduceEqDiff, ↓reduceIte, if_true, if_false, Nat.reduceAdd, Int.reduceEq, Int.reduceLT, Int.reduceLE, g0, g1, g5, wrap1 j (by omega)]
      refine ⟨_, by omega, j + 1, by omega, rfl, (by first | trivial | rfl | assumption), (by first | trivial | rfl | assumption), (by first | trivial | rfl | assumption), ?_, (by first | trivial | rfl | assumption)⟩
      rw [List.take_add_one, hc, List.all_append, hA]; simp [hpc]
    | false =>
      simp only [pf_min, undef_bool, str_len, str_eql, str_neq, conv_in, un_not, eq_self, decide_true, decide_false, Bool.not_true, Bool.not_false, argE_0, argE_1, argE_2, argE_3, argE_4, aw_skip, aw_reg, aw_seq, aw_cond, aw_block, aw_exit, aw_ret, inSeq_normal, inSeq_exit, inSeq_ret, inBlk_exit, inBlk_normal, inBlk_ret, OptK_some, OptH_some, OptS_some, kont_app, ar_nil, ar_guard, ar_mv, ar_pick, ar_new, ar_box, ar_build, ar_buildSl, ar_load, ar_store, ar_nilChk, ar_bin, ar_un, ar_conv, ar_convSB, ar_convBS, ar_mkFunc, ar_mkIface, ar_mkSlice, ar_sl, ar_slStr, ar_fieldA, ar_field, ar_idxA, ar_idxArr, ar_idx, ar_idxS, ar_extract, ar_append, ar_len, ar_call, ar_callv, callvP_func, List.nil_append, List.cons_append, List.append_nil, ar_pf, ar_hf, ar_slA, upO_some, upO_none, sX_t, sX_c, sX_f, sXs, sXO, sXP, fin_t, fin_t2, fin_t3, up_same, up_ne, ne_eq, not_false_eq_true, AVal.bool.injEq, decide_eq_true_eq, decide_eq_false_iff_not, Int.ofNat_eq_natCast, Int.reduceNegSucc, Int.cast_ofNat_Int, reduceCtorEq, bin_lss, bin_leq, bin_gtr, bin_geq, bin_eql, bin_neq, bin_add, bin_sub, bin_mul, Bool.not_eq_true', Bool.not_eq_false', Bool.true_eq_false, Bool.false_eq_true, Nat.reduceEqDiff, ↓reduceIte, if_true, if_false, Nat.reduceAdd, Int.reduceEq, Int.reduceLT, Int.reduceLE, g0, g1, g5]
      refine ⟨?_, (by first | trivial | rfl | assumption)⟩
      have : s.all tch = false := by
        rw [Bool.eq_false_iff]
        intro h
        have := List.all_eq_true.1 h c (List.mem_of_getElem? hc)
        rw [hpc] at this; simp at this
      rw [this]; rfl
  · have hlt' : ¬ (j : Int) < (s.length : Int) := by omega
    rw [List.take_of_length_le (by omega)] at hA
    by_cases h0 : s = []
    · subst h0
      simp only [pf_min, undef_bool, str_len, str_eql, str_neq, conv_in, un_not, eq_self, decide_true, decide_false, Bool.not_true, Bool.not_false, argE_0, argE_1, argE_2, argE_3, argE_4, aw_skip, aw_reg, aw_seq, aw_cond, aw_block, aw_exit, aw_ret, inSeq_normal, inSeq_exit, inSeq_ret, inBlk_exit, inBlk_normal, inBlk_ret, OptK_some, OptH_some, OptS_some, kont_app, ar_nil, ar_guard, ar_mv, ar_pick, ar_new, ar_box, ar_build, ar_buildSl, ar_load, ar_store, ar_nilChk, ar_bin, ar_un, ar_conv, ar_convSB, ar_convBS, ar_mkFunc, ar_mkIface, ar_mkSlice, ar_sl, ar_slStr, ar_fieldA, ar_field, ar_idxA, ar_idxArr, ar_idx, ar_idxS, ar_extract, ar_append, ar_len, ar_call, ar_callv, callvP_func, List.nil_append, List.cons_append, List.append_nil, ar_pf, ar_hf, ar_slA, upO_some, upO_none, sX_t, sX_c, sX_f, sXs, sXO, sXP, fin_t, fin_t2, fin_t3, up_same, up_ne, ne_eq, not_false_eq_true, AVal.bool.injEq, decide_eq_true_eq, decide_eq_false_iff_not, Int.ofNat_eq_natCast, Int.reduceNegSucc, Int.cast_ofNat_Int, reduceCtorEq, bin_lss, bin_leq, bin_gtr, bin_geq, bin_eql, bin_neq, bin_add, bin_sub, bin_mul, Bool.not_eq_true', Bool.not_eq_false', Bool.true_eq_false, Bool.false_eq_true, Nat.reduceEqDiff, ↓reduceIte, if_true, if_false, Nat.reduceAdd, Int.reduceEq, Int.reduceLT, Int.reduceLE, g0, g1, g5, hlt', List.length_nil, Int.natCast_zero, Int.lt_irrefl]
      exact ⟨by simp, (by first | trivial | rfl | assumption)⟩
    · have hpos : 0 < (s.length : Int) := by have := List.length_pos_iff.2 h0; omega
      simp only [pf_min, undef_bool, str_len, str_eql, str_neq, conv_in, un_not, eq_self, decide_true, decide_false, Bool.not_true, Bool.not_false, argE_0, argE_1, argE_2, argE_3, argE_4, aw_skip, aw_reg, aw_seq, aw_cond, aw_block, aw_exit, aw_ret, inSeq_normal, inSeq_exit, inSeq_ret, inBlk_exit, inBlk_normal, inBlk_ret, OptK_some, OptH_some, OptS_some, kont_app, ar_nil, ar_guard, ar_mv, ar_pick, ar_new, ar_box, ar_build, ar_buildSl, ar_load, ar_store, ar_nilChk, ar_bin, ar_un, ar_conv, ar_convSB, ar_convBS, ar_mkFunc, ar_mkIface, ar_mkSlice, ar_sl, ar_slStr, ar_fieldA, ar_field, ar_idxA, ar_idxArr, ar_idx, ar_idxS, ar_extract, ar_append, ar_len, ar_call, ar_callv, callvP_func, List.nil_append, List.cons_append, List.append_nil, ar_pf, ar_hf, ar_slA, upO_some, upO_none, sX_t, sX_c, sX_f, sXs, sXO, sXP, fin_t, fin_t2, fin_t3, up_same, up_ne, ne_eq, not_false_eq_true, AVal.bool.injEq, decide_eq_true_eq, decide_eq_false_iff_not, Int.ofNat_eq_natCast, Int.reduceNegSucc, Int.cast_ofNat_Int, reduceCtorEq, bin_lss, bin_leq, bin_gtr, bin_geq, bin_eql, bin_neq, bin_add, bin_sub, bin_mul, Bool.not_eq_true', Bool.not_eq_false', Bool.true_eq_false, Bool.false_eq_true, Nat.reduceEqDiff, ↓reduceIte, if_true, if_false, Nat.reduceAdd, Int.reduceEq, Int.reduceLT, Int.reduceLE, g0, g1, g5, hlt', hpos]
      exact ⟨by simp [hA, h0], (by first | trivial | rfl | assumption)⟩
/-- values -/
theorem allV_spec {H : AHeap} (s : Bs) (hs : s.length ≤ 4611686018427387904) :
    ACalls Tryd.prog natR 60 [.str s, .int .i64 2] H fun v H' => v = .bool (s.all valB && !decide (s = [])) ∧ H = H' := by
  refine acalls_ofN rfl za60 rfl ?_
  simp only [c60, pf_min, undef_bool, str_len, str_eql, str_neq, conv_in, un_not, eq_self, decide_true, decide_false, Bool.not_true, Bool.not_false, argE_0, argE_1, argE_2, argE_3, argE_4, aw_skip, aw_reg, aw_seq, aw_cond, aw_block, aw_exit, aw_ret, inSeq_normal, inSeq_exit, inSeq_ret, inBlk_exit, inBlk_normal, inBlk_ret, OptK_some, OptH_some, OptS_some, kont_app, ar_nil, ar_guard, ar_mv, ar_pick, ar_new, ar_box, ar_build, ar_buildSl, ar_load, ar_store, ar_nilChk, ar_bin, ar_un, ar_conv, ar_convSB, ar_convBS, ar_mkFunc, ar_mkIface, ar_mkSlice, ar_sl, ar_slStr, ar_fieldA, ar_field, ar_idxA, ar_idxArr, ar_idx, ar_idxS, ar_extract, ar_append, ar_len, ar_call, ar_callv, callvP_func, List.nil_append, List.cons_append, List.append_nil, ar_pf, ar_hf, ar_slA, upO_some, upO_none, sX_t, sX_c, sX_f, sXs, sXO, sXP, fin_t, fin_t2, fin_t3, up_same, up_ne, ne_eq, not_false_eq_true, AVal.bool.injEq, decide_eq_true_eq, decide_eq_false_iff_not, Int.ofNat_eq_natCast, Int.reduceNegSucc, Int.cast_ofNat_Int, reduceCtorEq, bin_lss, bin_leq, bin_gtr, bin_geq, bin_eql, bin_neq, bin_add, bin_sub, bin_mul, Bool.not_eq_true', Bool.not_eq_false', Bool.true_eq_false, Bool.false_eq_true, Nat.reduceEqDiff, ↓reduceIte, if_true, if_false, Nat.reduceAdd, Int.reduceEq, Int.reduceLT, Int.reduceLE]
  refine aw_loop (fun q (T : Env) H' => ∃ j : Nat, j ≤ s.length ∧ q = s.length - j ∧ T 0 = .str s ∧ T 1 = .int .i64 2 ∧ T 5 = .int .i64 (j : Int) ∧ (s.take j).all valB = true ∧ H = H') s.length
    ⟨0, Nat.zero_le _, rfl, by simp only [pf_min, undef_bool, str_len, str_eql, str_neq, conv_in, un_not, eq_self, decide_true, decide_false, Bool.not_true, Bool.not_false, argE_0, argE_1, argE_2, argE_3, argE_4, aw_skip, aw_reg, aw_seq, aw_cond, aw_block, aw_exit, aw_ret, inSeq_normal, inSeq_exit, inSeq_ret, inBlk_exit, inBlk_normal, inBlk_ret, OptK_some, OptH_some, OptS_some, kont_app, ar_nil, ar_guard, ar_mv, ar_pick, ar_new, ar_box, ar_build, ar_buildSl, ar_load, ar_store, ar_nilChk, ar_bin, ar_un, ar_conv, ar_convSB, ar_convBS, ar_mkFunc, ar_mkIface, ar_mkSlice, ar_sl, ar_slStr, ar_fieldA, ar_field, ar_idxA, ar_idxArr, ar_idx, ar_idxS, ar_extract, ar_append, ar_len, ar_call, ar_callv, callvP_func, List.nil_append, List.cons_append, List.append_nil, ar_pf, ar_hf, ar_slA, upO_some, upO_none, sX_t, sX_c, sX_f, sXs, sXO, sXP, fin_t, fin_t2, fin_t3, up_same, up_ne, ne_eq, not_false_eq_true, AVal.bool.injEq, decide_eq_true_eq, decide_eq_false_iff_not, Int.ofNat_eq_natCast, Int.reduceNegSucc, Int.cast_ofNat_Int, reduceCtorEq, bin_lss, bin_leq, bin_gtr, bin_geq, bin_eql, bin_neq, bin_add, bin_sub, bin_mul, Bool.not_eq_true', Bool.not_eq_false', Bool.true_eq_false, Bool.false_eq_true, Nat.reduceEqDiff, ↓reduceIte, if_true, if_false, Nat.reduceAdd, Int.reduceEq, Int.reduceLT, Int.reduceLE]; try rfl, by simp only [pf_min, undef_bool, str_len, str_eql, str_neq, conv_in, un_not, eq_self, decide_true, decide_false, Bool.not_true, Bool.not_false, argE_0, argE_1, argE_2, argE_3, argE_4, aw_skip, aw_reg, aw_seq, aw_cond, aw_block, aw_exit, aw_ret, inSeq_normal, inSeq_exit, inSeq_ret, inBlk_exit, inBlk_normal, inBlk_ret, OptK_some, OptH_some, OptS_some, kont_app, ar_nil, ar_guard, ar_mv, ar_pick, ar_new, ar_box, ar_build, ar_buildSl, ar_load, ar_store, ar_nilChk, ar_bin, ar_un, ar_conv, ar_convSB, ar_convBS, ar_mkFunc, ar_mkIface, ar_mkSlice, ar_sl, ar_slStr, ar_fieldA, ar_field, ar_idxA, ar_idxArr, ar_idx, ar_idxS, ar_extract, ar_append, ar_len, ar_call, ar_callv, callvP_func, List.nil_append, List.cons_append, List.append_nil, ar_pf, ar_hf, ar_slA, upO_some, upO_none, sX_t, sX_c, sX_f, sXs, sXO, sXP, fin_t, fin_t2, fin_t3, up_same, up_ne, ne_eq, not_false_eq_true, AVal.bool.injEq, decide_eq_true_eq, decide_eq_false_iff_not, Int.ofNat_eq_natCast, Int.reduceNegSucc, Int.cast_ofNat_Int, reduceCtorEq, bin_lss, bin_leq, bin_gtr, bin_geq, bin_eql, bin_neq, bin_add, bin_sub, bin_mul, Bool.not_eq_true', Bool.not_eq_false', Bool.true_eq_false, Bool.false_eq_true, Nat.reduceEqDiff, ↓reduceIte, if_true, if_false, Nat.reduceAdd, Int.reduceEq, Int.reduceLT, Int.reduceLE]; try rfl, by simp only [pf_min, undef_bool, str_len, str_eql, str_neq, conv_in, un_not, eq_self, decide_true, decide_false, Bool.not_true, Bool.not_false, argE_0, argE_1, argE_2, argE_3, argE_4, aw_skip, aw_reg, aw_seq, aw_cond, aw_block, aw_exit, aw_ret, inSeq_normal, inSeq_exit, inSeq_ret, inBlk_exit, inBlk_normal, inBlk_ret, OptK_some, OptH_some, OptS_some, kont_app, ar_nil, ar_guard, ar_mv, ar_pick, ar_new, ar_box, ar_build, ar_buildSl, ar_load, ar_store, ar_nilChk, ar_bin, ar_un, ar_conv, ar_convSB, ar_convBS, ar_mkFunc, ar_mkIface, ar_mkSlice, ar_sl, ar_slStr, ar_fieldA, ar_field, ar_idxA, ar_idxArr, ar_idx, ar_idxS, ar_extract, ar_append, ar_len, ar_call, ar_callv, callvP_func, List.nil_append, List.cons_append, List.append_nil, ar_pf, ar_hf, ar_slA, upO_some, upO_none, sX_t, sX_c, sX_f, sXs, sXO, sXP, fin_t, fin_t2, fin_t3, up_same, up_ne, ne_eq, not_false_eq_true, AVal.bool.injEq, decide_eq_true_eq, decide_eq_false_iff_not, Int.ofNat_eq_natCast, Int.reduceNegSucc, Int.cast_ofNat_Int, reduceCtorEq, bin_lss, bin_leq, bin_gtr, bin_geq, bin_eql, bin_neq, bin_add, bin_sub, bin_mul, Bool.not_eq_true', Bool.not_eq_false', Bool.true_eq_false, Bool.false_eq_true, Nat.reduceEqDiff, ↓reduceIte, if_true, if_false, Nat.reduceAdd, Int.reduceEq, Int.reduceLT, Int.reduceLE]; try rfl, rfl, rfl⟩ ?_
  rintro q T _ ⟨j, hj, rfl, g0, g1, g5, hA, rfl⟩
  by_cases hlt : j < s.length
  · have hlt' : (j : Int) < (s.length : Int) := by omega
    obtain ⟨c, hc⟩ := isSome_of_lt hlt
    simp only [pf_min, undef_bool, str_len, str_eql, str_neq, conv_in, un_not, eq_self, decide_true, decide_false, Bool.not_true, Bool.not_false, argE_0, argE_1, argE_2, argE_3, argE_4, aw_skip, aw_reg, aw_seq, aw_cond, aw_block, aw_exit, aw_ret, inSeq_normal, inSeq_exit, inSeq_ret, inBlk_exit, inBlk_normal, inBlk_ret, OptK_some, OptH_some, OptS_some, kont_app, ar_nil, ar_guard, ar_mv, ar_pick, ar_new, ar_box, ar_build, ar_buildSl, ar_load, ar_store, ar_nilChk, ar_bin, ar_un, ar_conv, ar_convSB, ar_convBS, ar_mkFunc, ar_mkIface, ar_mkSlice, ar_sl, ar_slStr, ar_fieldA, ar_field, ar_idxA, ar_idxArr, ar_idx, ar_idxS, ar_extract, ar_append, ar_len, ar_call, ar_callv, callvP_func, List.nil_append, List.cons_append, List.append_nil, ar_pf, ar_hf, ar_slA, upO_some, upO_none, sX_t, sX_c, sX_f, sXs, sXO, sXP, fin_t, fin_t2, fin_t3, up_same, up_ne, ne_eq, not_false_eq_true, AVal.bool.injEq, decide_eq_true_eq, decide_eq_false_iff_not, Int.ofNat_eq_natCast, Int.reduceNegSucc, Int.cast_ofNat_Int, reduceCtorEq, bin_lss, bin_leq, bin_gtr, bin_geq, bin_eql, bin_neq, bin_add, bin_sub, bin_mul, Bool.not_eq_true', Bool.not_eq_false', Bool.true_eq_false, Bool.false_eq_true, Nat.reduceEqDiff, ↓reduceIte, if_true, if_false, Nat.reduceAdd, Int.reduceEq, Int.reduceLT, Int.reduceLE, g0, g1, g5, hlt', str_idx hc]
    refine (digit_any c H).mono ?_
    rintro v _ ⟨⟨dg, rfl⟩, rfl⟩
    have hv := valB_int2 c
    have yes : valB c = true → (s.take (j + 1)).all valB = true := fun h => by rw [List.take_add_one, hc, List.all_append, hA]; simp [h]
    have no : valB c = false → s.all valB = false := fun h => by
      rw [Bool.eq_false_iff]
      intro h'
      have := List.all_eq_true.1 h' c (List.mem_of_getElem? hc)
      rw [h] at this; simp at this
    by_cases h1 : (c.toNat : Int) = 9 <;> by_cases h2 : (32 : Int) ≤ (c.toNat : Int) <;> by_cases h3 : (c.toNat : Int) ≤ 126 <;> by_cases h4 : (128 : Int) ≤ (c.toNat : Int)
    all_goals first
      | (exfalso; omega)
      | (have hv' : valB c = true := by rw [hv]; simp [h1, h2, h3, h4]
         simp only [pf_min, undef_bool, str_len, str_eql, str_neq, conv_in, un_not, eq_self, decide_true, decide_false, Bool.not_true, Bool.not_false, argE_0, argE_1, argE_2, argE_3, argE_4, aw_skip, aw_reg, aw_seq, aw_cond, aw_block, aw_exit, aw_ret, inSeq_normal, inSeq_exit, inSeq_ret, inBlk_exit, inBlk_normal, inBlk_ret, OptK_some, OptH_some, OptS_some, kont_app, ar_nil, ar_guard, ar_mv, ar_pick, ar_new, ar_box, ar_build, ar_buildSl, ar_load, ar_store, ar_nilChk, ar_bin, ar_un, ar_conv, ar_convSB, ar_convBS, ar_mkFunc, ar_mkIface, ar_mkSlice, ar_sl, ar_slStr, ar_fieldA, ar_field, ar_idxA, ar_idxArr, ar_idx, ar_idxS, ar_extract, ar_append, ar_len, ar_call, ar_callv, callvP_func, List.nil_append, List.cons_append, List.append_nil, ar_pf, ar_hf, ar_slA, upO_some, upO_none, sX_t, sX_c, sX_f, sXs, sXO, sXP, fin_t, fin_t2, fin_t3, up_same, up_ne, ne_eq, not_false_eq_true, AVal.bool.injEq, decide_eq_true_eq, decide_eq_false_iff_not, Int.ofNat_eq_natCast, Int.reduceNegSucc, Int.cast_ofNat_Int, reduceCtorEq, bin_lss, bin_leq, bin_gtr, bin_geq, bin_eql, bin_neq, bin_add, bin_sub, bin_mul, Bool.not_eq_true', Bool.not_eq_false', Bool.true_eq_false, Bool.false_eq_true, Nat.reduceEqDiff, ↓reduceIte, if_true, if_false, Nat.reduceAdd, Int.reduceEq, Int.reduceLT, Int.reduceLE, g0, g1, g5, h1, h2, h3, h4, wrap1 j (by omega)]
         exact ⟨_, by omega, j + 1, by omega, rfl, (by first | trivial | rfl | assumption), (by first | trivial | rfl | assumption), (by first | trivial | rfl | assumption), yes hv', (by first | trivial | rfl | assumption)⟩)
      | (have hv' : valB c = false := by rw [hv]; simp [h1, h2, h3, h4]
         simp only [pf_min, undef_bool, str_len, str_eql, str_neq, conv_in, un_not, eq_self, decide_true, decide_false, Bool.not_true, Bool.not_false, argE_0, argE_1, argE_2, argE_3, argE_4, aw_skip, aw_reg, aw_seq, aw_cond, aw_block, aw_exit, aw_ret, inSeq_normal, inSeq_exit, inSeq_ret, inBlk_exit, inBlk_normal, inBlk_ret, OptK_some, OptH_some, OptS_some, kont_app, ar_nil, ar_guard, ar_mv, ar_pick, ar_new, ar_box, ar_build, ar_buildSl, ar_load, ar_store, ar_nilChk, ar_bin, ar_un, ar_conv, ar_convSB, ar_convBS, ar_mkFunc, ar_mkIface, ar_mkSlice, ar_sl, ar_slStr, ar_fieldA, ar_field, ar_idxA, ar_idxArr, ar_idx, ar_idxS, ar_extract, ar_append, ar_len, ar_call, ar_callv, callvP_func, List.nil_append, List.cons_append, List.append_nil, ar_pf, ar_hf, ar_slA, upO_some, upO_none, sX_t, sX_c, sX_f, sXs, sXO, sXP, fin_t, fin_t2, fin_t3, up_same, up_ne, ne_eq, not_false_eq_true, AVal.bool.injEq, decide_eq_true_eq, decide_eq_false_iff_not, Int.ofNat_eq_natCast, Int.reduceNegSucc, Int.cast_ofNat_Int, reduceCtorEq, bin_lss, bin_leq, bin_gtr, bin_geq, bin_eql, bin_neq, bin_add, bin_sub, bin_mul, Bool.not_eq_true', Bool.not_eq_false', Bool.true_eq_false, Bool.false_eq_true, Nat.reduceEqDiff, ↓reduceIte, if_true, if_false, Nat.reduceAdd, Int.reduceEq, Int.reduceLT, Int.reduceLE, g0, g1, g5, h1, h2, h3, h4]
         exact ⟨by rw [no hv']; rfl, (by first | trivial | rfl | assumption)⟩)
  · have hlt' : ¬ (j : Int) < (s.length : Int) := by omega
    rw [List.take_of_length_le (by omega)] at hA
    by_cases h0 : s = []
    · subst h0
      simp only [pf_min, undef_bool, str_len, str_eql, str_neq, conv_in, un_not, eq_self, decide_true, decide_false, Bool.not_true, Bool.not_false, argE_0, argE_1, argE_2, argE_3, argE_4, aw_skip, aw_reg, aw_seq, aw_cond, aw_block, aw_exit, aw_ret, inSeq_normal, inSeq_exit, inSeq_ret, inBlk_exit, inBlk_normal, inBlk_ret, OptK_some, OptH_some, OptS_some, kont_app, ar_nil, ar_guard, ar_mv, ar_pick, ar_new, ar_box, ar_build, ar_buildSl, ar_load, ar_store, ar_nilChk, ar_bin, ar_un, ar_conv, ar_convSB, ar_convBS, ar_mkFunc, ar_mkIface, ar_mkSlice, ar_sl, ar_slStr, ar_fieldA, ar_field, ar_idxA, ar_idxArr, ar_idx, ar_idxS, ar_extract, ar_append, ar_len, ar_call, ar_callv, callvP_func, List.nil_append, List.cons_append, List.append_nil, ar_pf, ar_hf, ar_slA, upO_some, upO_none, sX_t, sX_c, sX_f, sXs, sXO, sXP, fin_t, fin_t2, fin_t3, up_same, up_ne, ne_eq, not_false_eq_true, AVal.bool.injEq, decide_eq_true_eq, decide_eq_false_iff_not, Int.ofNat_eq_natCast, Int.reduceNegSucc, Int.cast_ofNat_Int, reduceCtorEq, bin_lss, bin_leq, bin_gtr, bin_geq, bin_eql, bin_neq, bin_add, bin_sub, bin_mul, Bool.not_eq_true', Bool.not_eq_false', Bool.true_eq_false, Bool.false_eq_true, Nat.reduceEqDiff, ↓reduceIte, if_true, if_false, Nat.reduceAdd, Int.reduceEq, Int.reduceLT, Int.reduceLE, g0, g1, g5, hlt', List.length_nil, Int.natCast_zero, Int.lt_irrefl]
      exact ⟨by simp, (by first | trivial | rfl | assumption)⟩
    · have hpos : 0 < (s.length : Int) := by have := List.length_pos_iff.2 h0; omega
      simp only [pf_min, undef_bool, str_len, str_eql, str_neq, conv_in, un_not, eq_self, decide_true, decide_false, Bool.not_true, Bool.not_false, argE_0, argE_1, argE_2, argE_3, argE_4, aw_skip, aw_reg, aw_seq, aw_cond, aw_block, aw_exit, aw_ret, inSeq_normal, inSeq_exit, inSeq_ret, inBlk_exit, inBlk_normal, inBlk_ret, OptK_some, OptH_some, OptS_some, kont_app, ar_nil, ar_guard, ar_mv, ar_pick, ar_new, ar_box, ar_build, ar_buildSl, ar_load, ar_store, ar_nilChk, ar_bin, ar_un, ar_conv, ar_convSB, ar_convBS, ar_mkFunc, ar_mkIface, ar_mkSlice, ar_sl, ar_slStr, ar_fieldA, ar_field, ar_idxA, ar_idxArr, ar_idx, ar_idxS, ar_extract, ar_append, ar_len, ar_call, ar_callv, callvP_func, List.nil_append, List.cons_append, List.append_nil, ar_pf, ar_hf, ar_slA, upO_some, upO_none, sX_t, sX_c, sX_f, sXs, sXO, sXP, fin_t, fin_t2, fin_t3, up_same, up_ne, ne_eq, not_false_eq_true, AVal.bool.injEq, decide_eq_true_eq, decide_eq_false_iff_not, Int.ofNat_eq_natCast, Int.reduceNegSucc, Int.cast_ofNat_Int, reduceCtorEq, bin_lss, bin_leq, bin_gtr, bin_geq, bin_eql, bin_neq, bin_add, bin_sub, bin_mul, Bool.not_eq_true', Bool.not_eq_false', Bool.true_eq_false, Bool.false_eq_true, Nat.reduceEqDiff, ↓reduceIte, if_true, if_false, Nat.reduceAdd, Int.reduceEq, Int.reduceLT, Int.reduceLE, g0, g1, g5, hlt', hpos]
      exact ⟨by simp [hA, h0], (by first | trivial | rfl | assumption)⟩
end Go.Proofs.Re
