/- Symbolic runs of the abstract machine, part 6: regions that draw their order and where something has to be looked at again, step by step; a function that is known to tell 'true'. Printed by program in part. Plain Lean. -/
import Derived.Test.YtndeemjhengoiaaS5
import Derived.Test.YtndeemjhengoiaaN1
namespace Go.Abs.S
open Go.Abs
section
variable {C : CS} {T : Env} {H : AHeap} {r : List AOper} {d : Option Nat}
abbrev KT := List (AVal × AHeap) → Env → AHeap → Prop
variable {K : KT}
def consK (v : AVal) (H : AHeap) (K : KT) : KT := fun ss => K ((v, H) :: ss)
theorem consK_app (v : AVal) (H' : AHeap) (ss : List (AVal × AHeap)) : consK v H' K ss T H = K ((v, H') :: ss) T H := _root_.id rfl
def OptKT (o : Option AVal) (C : CS) (r : List AOper) (T : Env) (d : Option Nat) (H : AHeap) (K : KT) : Prop := OptP o fun v => wTr C r (upO T d v) H (consK v H K)
def OptHT (o : Option (AVal × AHeap)) (C : CS) (r : List AOper) (T : Env) (d : Option Nat) (K : KT) : Prop := OptP o fun p => wTr C r (upO T d p.1) p.2 (consK p.1 p.2 K)
def OptST (o : Option AHeap) (C : CS) (r : List AOper) (T : Env) (d : Option Nat) (K : KT) : Prop := OptP o fun H' => wTr C r (upO T d undefA) H' (consK undefA H' K)
def kontT (C : CS) (r : List AOper) (T : Env) (d : Option Nat) (K : KT) : AVal → AHeap → Prop := fun v H' => wTr C r (upO T d v) H' (consK v H' K)
theorem OptKT_some (v : AVal) : OptKT (some v) C r T d H K = wTr C r (upO T d v) H (consK v H K) := OptP_some _ _
theorem OptHT_some (v : AVal) (H' : AHeap) : OptHT (some (v, H')) C r T d K = wTr C r (upO T d v) H' (consK v H' K) := OptP_some _ _
theorem OptST_some (H' : AHeap) : OptST (some H') C r T d K = wTr C r (upO T d undefA) H' (consK undefA H' K) := OptP_some _ _
theorem kontT_app (v : AVal) : kontT C r T d K v H = wTr C r (upO T d v) H (consK v H K) := _root_.id rfl
theorem tr_nil : wTr C [] T H K = K [] T H := _root_.id rfl
open Classical in
theorem tr_guard (o : AOp) (t : Nat) (b : Bool) : wTr C (⟨d, o, some (t, b)⟩ :: r) T H K = if T t = .bool b then wTr C (⟨d, o, none⟩ :: r) T H K else wTr C r (upO T d undefA) H (consK undefA H K) := by
  simp only [wTr, sG]
  by_cases h : T t = .bool b
  · rw [if_pos h, h]; cases b <;> rfl
  · rw [if_neg h]
    have : sGv b (T t) = false := by
      cases hv : T t <;> simp only [sGv]
      rename_i v
      rw [hv] at h
      cases b <;> cases v <;> simp at h ⊢
    rw [this]; rfl
open Classical in
theorem tr_pick (c a b : Opd) : wTr C (⟨d, .pick c a b, none⟩ :: r) T H K = if sX T c = .bool true then wTr C r (upO T d (sX T a)) H (consK (sX T a) H K) else if sX T c = .bool false then wTr C r (upO T d (sX T b)) H (consK (sX T b) H K) else False := by
  simp only [wTr, sG, wOp, cond_true]
  by_cases h : sX T c = .bool true
  · rw [if_pos h, h]; simp; rfl
  · rw [if_neg h]
    by_cases h' : sX T c = .bool false
    · rw [if_pos h', h']; simp; rfl
    · rw [if_neg h']
      simp only [eq_iff_iff, iff_false, not_exists, not_and]
      intro v hv
      cases v
      · exact absurd hv h'
      · exact absurd hv h
theorem tr_mv (x : Opd) : wTr C (⟨d, .mv x, none⟩ :: r) T H K = wTr C r (upO T d (sX T x)) H (consK (sX T x) H K) := _root_.id rfl
theorem tr_new (z : List AVal) : wTr C (⟨d, .new z, none⟩ :: r) T H K = wTr C r (upO T d (oNew H z).1) (oNew H z).2 (consK (oNew H z).1 (oNew H z).2 K) := _root_.id rfl
theorem tr_box (x : Opd) : wTr C (⟨d, .box x, none⟩ :: r) T H K = wTr C r (upO T d (oNew H (sX T x).cells).1) (oNew H (sX T x).cells).2 (consK (oNew H (sX T x).cells).1 (oNew H (sX T x).cells).2 K) := _root_.id rfl
theorem tr_build (z : List AVal) (ps : List (Nat × Nat × Opd)) : wTr C (⟨d, .build z ps, none⟩ :: r) T H K = OptKT (aBuild z (sXP T ps)) C r T d H K := _root_.id rfl
theorem tr_buildSl (n : Nat) (z : List AVal) (ps : List (Nat × Nat × Opd)) : wTr C (⟨d, .buildSl n z ps, none⟩ :: r) T H K = OptHT (aBuildSl n z H (sXP T ps)) C r T d K := _root_.id rfl
theorem tr_load (a : Bool) (n : Nat) (x : Opd) : wTr C (⟨d, .load a n x, none⟩ :: r) T H K = OptKT (oLoad a n H (sX T x)) C r T d H K := _root_.id rfl
theorem tr_store (n : Nat) (a x : Opd) : wTr C (⟨d, .store n a x, none⟩ :: r) T H K = OptST (oStore n H (sX T a) (sX T x)) C r T d K := _root_.id rfl
theorem tr_nilChk (x : Opd) : wTr C (⟨d, .nilChk x, none⟩ :: r) T H K = OptKT (aNilChk (sX T x)) C r T d H K := _root_.id rfl
theorem tr_bin (op : BinOp) (x y : Opd) : wTr C (⟨d, .bin op x y, none⟩ :: r) T H K = OptKT (aBin op (sX T x) (sX T y)) C r T d H K := _root_.id rfl
theorem tr_un (op : UnOp) (x : Opd) : wTr C (⟨d, .un op x, none⟩ :: r) T H K = OptKT (aUn op (sX T x)) C r T d H K := _root_.id rfl
theorem tr_conv (k : IntKind) (x : Opd) : wTr C (⟨d, .conv k x, none⟩ :: r) T H K = OptKT (aConv k (sX T x)) C r T d H K := _root_.id rfl
theorem tr_convSB (x : Opd) : wTr C (⟨d, .convSB x, none⟩ :: r) T H K = OptHT (aSB H (sX T x)) C r T d K := _root_.id rfl
theorem tr_convBS (x : Opd) : wTr C (⟨d, .convBS x, none⟩ :: r) T H K = OptKT (aBS H (sX T x)) C r T d H K := _root_.id rfl
theorem tr_mkFunc (fn : Fn) (a b : List Opd) : wTr C (⟨d, .mkFunc fn a b, none⟩ :: r) T H K = wTr C r (upO T d (.func fn (sXs T a) (sXs T b))) H (consK (.func fn (sXs T a) (sXs T b)) H K) := _root_.id rfl
theorem tr_mkIface (t : TypeId) (x : Opd) : wTr C (⟨d, .mkIface t x, none⟩ :: r) T H K = wTr C r (upO T d (.iface t (sX T x))) H (consK (.iface t (sX T x)) H K) := _root_.id rfl
theorem tr_mkSlice (b : Nat) (z : List AVal) (l c : Opd) : wTr C (⟨d, .mkSlice b z l c, none⟩ :: r) T H K = OptHT (aMake b z H (sX T l) (sX T c)) C r T d K := _root_.id rfl
theorem tr_sl (n : Nat) (x : Opd) (lo hi mx : Option Opd) : wTr C (⟨d, .sl n x lo hi mx, none⟩ :: r) T H K = OptKT (aSl n (sX T x) (sXO T lo) (sXO T hi) (sXO T mx)) C r T d H K := _root_.id rfl
theorem tr_slStr (x : Opd) (lo hi : Option Opd) : wTr C (⟨d, .slStr x lo hi, none⟩ :: r) T H K = OptKT (aSlStr (sX T x) (sXO T lo) (sXO T hi)) C r T d H K := _root_.id rfl
theorem tr_fieldA (o : Nat) (x : Opd) : wTr C (⟨d, .fieldA o x, none⟩ :: r) T H K = OptKT (aField o (sX T x)) C r T d H K := _root_.id rfl
theorem tr_field (a : Bool) (n o : Nat) (x : Opd) : wTr C (⟨d, .field a n o x, none⟩ :: r) T H K = OptKT (aFieldV a n o (sX T x)) C r T d H K := _root_.id rfl
theorem tr_idxA (n : Nat) (x i : Opd) : wTr C (⟨d, .idxA n x i, none⟩ :: r) T H K = OptKT (aIdxA n (sX T x) (sX T i)) C r T d H K := _root_.id rfl
theorem tr_idxArr (m n : Nat) (x i : Opd) : wTr C (⟨d, .idxArr m n x i, none⟩ :: r) T H K = OptKT (aIdxArr m n (sX T x) (sX T i)) C r T d H K := _root_.id rfl
theorem tr_idx (m n : Nat) (a : Bool) (x i : Opd) : wTr C (⟨d, .idx m n a x i, none⟩ :: r) T H K = OptKT (aIdx m n a (sX T x) (sX T i)) C r T d H K := _root_.id rfl
theorem tr_idxS (x i : Opd) : wTr C (⟨d, .idxS x i, none⟩ :: r) T H K = OptKT (aIdxS (sX T x) (sX T i)) C r T d H K := _root_.id rfl
theorem tr_extract (i : Nat) (x : Opd) : wTr C (⟨d, .extract i x, none⟩ :: r) T H K = OptKT (aExtract i (sX T x)) C r T d H K := _root_.id rfl
theorem tr_append (n b : Nat) (s x : Opd) : wTr C (⟨d, .append n b s x, none⟩ :: r) T H K = OptHT (aAppend n b H (sX T s) (sX T x)) C r T d K := _root_.id rfl
theorem tr_len (s : Bool) (x : Opd) : wTr C (⟨d, .len s x, none⟩ :: r) T H K = OptKT (aLenK s (sX T x)) C r T d H K := _root_.id rfl
theorem tr_call (f : FuncId) (args : List Opd) : wTr C (⟨d, .call f args, none⟩ :: r) T H K = C f (sXs T args) H (kontT C r T d K) := _root_.id rfl
theorem tr_callv (f : Opd) (args : List Opd) : wTr C (⟨d, .callv f args, none⟩ :: r) T H K = callvP C (sX T f) (sXs T args) H (kontT C r T d K) := _root_.id rfl
theorem tr_pf (f : PF) (xs : List Opd) : wTr C (⟨d, .pf f xs, none⟩ :: r) T H K = OptKT (aPf f (sXs T xs)) C r T d H K := _root_.id rfl
theorem tr_hf (f : HF) (xs : List Opd) : wTr C (⟨d, .hf f xs, none⟩ :: r) T H K = OptHT (aHf f H (sXs T xs)) C r T d K := _root_.id rfl
theorem tr_slA (m n : Nat) (x : Opd) (lo hi mx : Option Opd) : wTr C (⟨d, .slA m n x lo hi mx, none⟩ :: r) T H K = OptKT (aSlArr m n (sX T x) (sXO T lo) (sXO T hi) (sXO T mx)) C r T d H K := _root_.id rfl
/-! looking again -/
theorem ck_nil' (hs : List AHeap) (o : AOper) (l : List AOper) (ps : List (List Nat)) (v : AVal) (Hv : AHeap) (ss : List (AVal × AHeap)) : wCk hs (o :: l) ([] :: ps) ((v, Hv) :: ss) T = wCk hs l ps ss (upO T o.dst v) := by
  simp [wCk]
def ckP (hs : List AHeap) (ps : List Nat) (T : Env) (o : AOper) (v : AVal) : Prop := ∀ p ∈ ps, ∃ Hp, hs[p]? = some Hp ∧ (sG T o.guard = true → ∃ u, wLd T Hp o.op = some u ∧ aeq u v = true)
theorem ck_cons (hs : List AHeap) (o : AOper) (l : List AOper) (p : Nat) (q : List Nat) (ps : List (List Nat)) (v : AVal) (Hv : AHeap) (ss : List (AVal × AHeap)) : wCk hs (o :: l) ((p :: q) :: ps) ((v, Hv) :: ss) T = (ckP hs (p :: q) T o v ∧ wCk hs l ps ss (upO T o.dst v)) := by
  simp [wCk, ckP]
theorem ck_end (hs : List AHeap) (ps : List (List Nat)) (ss : List (AVal × AHeap)) : wCk hs [] ps ss T = True := by
  cases ps <;> simp [wCk]
theorem ckP_nil (hs : List AHeap) (o : AOper) (v : AVal) : ckP hs [] T o v = True := by simp [ckP]
theorem ckP_load (hs : List AHeap) (p : Nat) (q : List Nat) (a : Bool) (n : Nat) (x : Opd) (g : Option (Nat × Bool)) (v : AVal) : ckP hs (p :: q) T ⟨d, .load a n x, g⟩ v = ((∃ Hp, hs[p]? = some Hp ∧ (sG T g = true → ∃ u, oLoad a n Hp (sX T x) = some u ∧ aeq u v = true)) ∧ ckP hs q T ⟨d, .load a n x, g⟩ v) := by
  simp [ckP, wLd]
theorem aeq_int (k : IntKind) (a : Int) : aeq (.int k a) (.int k a) = true := by simp [aeq, eqF_eq]
theorem aeq_bool (a : Bool) : aeq (.bool a) (.bool a) = true := by simp [aeq]
theorem aeq_str (a : List UInt8) : aeq (.str a) (.str a) = true := by simp [aeq]
end
/-! a function that tells 'true', whatever the world -/
def natB (f : FuncId) : ANat := ⟨fun g => Nat.beq g f, fun g args H => bif Nat.beq g f then (match args with | [] => some (.bool true, H) | _ => none) else none⟩
theorem natB_ok {P : Program} {f : FuncId} (hb : hasBody P f = true) (h : ∀ w, Calls P f #[] w fun e w' => e = .returned (.bool true) ∧ RowKit.Below w.heap.size w w') : NatOK P (natB f) := by
  refine ⟨fun g hg => ?_, fun g args H v H' hr Prot w0 ρ w vs R hv => ?_⟩
  · obtain rfl : g = f := Nat.eq_of_beq_eq_true hg
    exact hb
  · simp only [natB] at hr
    cases hg : Nat.beq g f with
    | false => rw [hg] at hr; simp at hr
    | true =>
      rw [hg] at hr
      obtain rfl : g = f := Nat.eq_of_beq_eq_true hg
      simp only [cond_true] at hr
      split at hr
      · simp only [Option.some.injEq, Prod.mk.injEq] at hr
        obtain ⟨rfl, rfl⟩ := hr
        simp only [VRels] at hv
        obtain rfl : vs = #[] := Array.toList_inj.1 (by simpa using hv)
        exact (h w).mono fun e w' ⟨he, hk⟩ => ⟨ρ, _, Pl.le_refl _, he, R.keep hk, by simp only [VRel]⟩
      · simp at hr
theorem natB_is {f g : Nat} (h : f ≠ g) : (natB f).is g = false := by
  show Nat.beq g f = false
  rw [beq_dec]; exact decide_eq_false fun e => h e.symm
theorem natB_call {P : Program} {f : FuncId} {H : AHeap} {K : AVal → AHeap → Prop} (h : K (.bool true) H) : ACalls P (natB f) f [] H K :=
  acalls_nat (by show Nat.beq f f = true; exact Nat.beq_refl f) (by simp [natB]) h
end Go.Abs.S
