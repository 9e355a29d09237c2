/- Part of a proof (S5 N0 S6 S7 S8 S9 S10 S11 S12 S15 S13 S16 S17 S14 S18 S19 S20 S21); no condition. -/
import Derived.IntWalk
import Derived.Below
import Derived.OpenShut
import Derived.ChangeSlices
import Derived.WideShapes
import Derived.SizedLaws
import Derived.ChangeArms
import Derived.ChangeSame
import Derived.Test.YticgfaajkcdfaaaGreatDoorP6
set_option linter.unusedSimpArgs false
set_option linter.unusedVariables false
set_option linter.unnecessarySimpa false
namespace Go.Abs.S
open Go.Abs
section
variable {C : CS} {Q : Post} {T : Env} {H : AHeap} {K : Env → AHeap → Prop} {r : List AOper} {d : Option Nat}
theorem aw_skip : wp C .skip Q T H = Q .normal T H := _root_.id rfl
theorem aw_reg (ops : List AOper) : wp C (.reg ops) Q T H = wRegs C ops T H (Q .normal) := _root_.id rfl
theorem aw_seq (a b : ACode) : wp C (.seq a b) Q T H = wp C a (inSeq Q (wp C b Q)) T H := _root_.id rfl
open Classical in
theorem aw_cond (c : Opd) (a b : ACode) : wp C (.cond c a b) Q T H = if sX T c = .bool true then wp C a Q T H else if sX T c = .bool false then wp C b Q T H else False := by
  simp only [wp]
  by_cases h : sX T c = .bool true
  · rw [if_pos h, h]; simp
  · rw [if_neg h]
    by_cases h' : sX T c = .bool false
    · rw [if_pos h', h']; simp
    · rw [if_neg h']
      simp only [eq_iff_iff, iff_false, not_exists, not_and]
      intro v hv
      cases v
      · exact absurd hv h'
      · exact absurd hv h
theorem aw_block (id : Nat) (c : ACode) : wp C (.block id c) Q T H = wp C c (inBlk id Q) T H := _root_.id rfl
theorem aw_exit (id : Nat) : wp C (.exit id) Q T H = Q (.exit id) T H := _root_.id rfl
theorem aw_ret : wp C .ret Q T H = Q .ret T H := _root_.id rfl
theorem inSeq_normal : inSeq Q K .normal T H = K T H := _root_.id rfl
theorem inSeq_exit (i : Nat) : inSeq Q K (.exit i) T H = Q (.exit i) T H := _root_.id rfl
theorem inSeq_ret : inSeq Q K .ret T H = Q .ret T H := _root_.id rfl
theorem inBlk_exit (id i : Nat) : inBlk id Q (.exit i) T H = if i = id then Q .normal T H else Q (.exit i) T H := by
  simp only [inBlk]
  by_cases h : i = id
  · subst h; rw [if_pos rfl, Nat.beq_refl]; rfl
  · rw [if_neg h, show Nat.beq i id = false by rw [beq_dec]; exact decide_eq_false h]; rfl
theorem inBlk_normal (id : Nat) : inBlk id Q .normal T H = Q .normal T H := _root_.id rfl
theorem inBlk_ret (id : Nat) : inBlk id Q .ret T H = Q .ret T H := _root_.id rfl
theorem aw_loop {c : ACode} (I : Nat → Env → AHeap → Prop) (m : Nat) (h0 : I m T H) (h : ∀ m T H, I m T H → wp C c (inSeq Q fun T' H' => ∃ m', m' < m ∧ I m' T' H') T H) : wp C (.loop c) Q T H := ⟨I, ⟨m, h0⟩, h⟩
def OptK (o : Option AVal) (C : CS) (r : List AOper) (T : Env) (d : Option Nat) (H : AHeap) (K : Env → AHeap → Prop) : Prop := OptP o fun v => wRegs C r (upO T d v) H K
def OptH (o : Option (AVal × AHeap)) (C : CS) (r : List AOper) (T : Env) (d : Option Nat) (K : Env → AHeap → Prop) : Prop := OptP o fun p => wRegs C r (upO T d p.1) p.2 K
def OptS (o : Option AHeap) (C : CS) (r : List AOper) (T : Env) (d : Option Nat) (K : Env → AHeap → Prop) : Prop := OptP o fun H' => wRegs C r (upO T d undefA) H' K
def kont (C : CS) (r : List AOper) (T : Env) (d : Option Nat) (K : Env → AHeap → Prop) : AVal → AHeap → Prop := fun v H' => wRegs C r (upO T d v) H' K
theorem OptK_some (v : AVal) : OptK (some v) C r T d H K = wRegs C r (upO T d v) H K := OptP_some _ _
theorem OptH_some (v : AVal) (H' : AHeap) : OptH (some (v, H')) C r T d K = wRegs C r (upO T d v) H' K := OptP_some _ _
theorem OptS_some (H' : AHeap) : OptS (some H') C r T d K = wRegs C r (upO T d undefA) H' K := OptP_some _ _
theorem kont_app (v : AVal) : kont C r T d K v H = wRegs C r (upO T d v) H K := _root_.id rfl
theorem ar_nil : wRegs C [] T H K = K T H := _root_.id rfl
open Classical in
theorem ar_guard (o : AOp) (t : Nat) (b : Bool) (ht : t < 1000000) : wRegs C (⟨d, o, some (t, b)⟩ :: r) T H K = if T t = .bool b then wRegs C (⟨d, o, none⟩ :: r) T H K else wRegs C r (upO T d undefA) H K := by
  simp only [wRegs, sG_lt T ht]
  by_cases h : T t = .bool b
  · rw [if_pos h, h]; cases b <;> rfl
  · rw [if_neg h]
    have : sGv b (T t) = false := by
      unfold sGv
      cases hv : T t <;> simp only [gVb]
      rename_i v
      rw [hv] at h
      cases b <;> cases v <;> simp at h ⊢
    rw [this]; rfl
theorem ar_mv (x : Opd) : wRegs C (⟨d, .mv x, none⟩ :: r) T H K = wRegs C r (upO T d (sX T x)) H K := _root_.id rfl
open Classical in
theorem ar_pick (c a b : Opd) : wRegs C (⟨d, .pick c a b, none⟩ :: r) T H K = if sX T c = .bool true then wRegs C r (upO T d (sX T a)) H K else if sX T c = .bool false then wRegs C r (upO T d (sX T b)) H K else False := by
  simp only [wRegs, sG, wOp, cond_true]
  by_cases h : sX T c = .bool true
  · rw [if_pos h, h]; simp
  · rw [if_neg h]
    by_cases h' : sX T c = .bool false
    · rw [if_pos h', h']; simp
    · rw [if_neg h']
      simp only [eq_iff_iff, iff_false, not_exists, not_and]
      intro v hv
      cases v
      · exact absurd hv h'
      · exact absurd hv h
theorem ar_new (z : List AVal) : wRegs C (⟨d, .new z, none⟩ :: r) T H K = wRegs C r (upO T d (oNew H z).1) (oNew H z).2 K := _root_.id rfl
theorem ar_box (x : Opd) : wRegs C (⟨d, .box x, none⟩ :: r) T H K = wRegs C r (upO T d (oNew H (sX T x).cells).1) (oNew H (sX T x).cells).2 K := _root_.id rfl
theorem ar_build (z : List AVal) (ps : List (Nat × Nat × Opd)) : wRegs C (⟨d, .build z ps, none⟩ :: r) T H K = OptK (aBuild z (sXP T ps)) C r T d H K := _root_.id rfl
theorem ar_buildSl (n : Nat) (z : List AVal) (ps : List (Nat × Nat × Opd)) : wRegs C (⟨d, .buildSl n z ps, none⟩ :: r) T H K = OptH (aBuildSl n z H (sXP T ps)) C r T d K := _root_.id rfl
theorem ar_load (a : Bool) (n : Nat) (x : Opd) : wRegs C (⟨d, .load a n x, none⟩ :: r) T H K = OptK (oLoad a n H (sX T x)) C r T d H K := _root_.id rfl
theorem ar_store (n : Nat) (a x : Opd) : wRegs C (⟨d, .store n a x, none⟩ :: r) T H K = OptS (oStore n H (sX T a) (sX T x)) C r T d K := _root_.id rfl
theorem ar_nilChk (x : Opd) : wRegs C (⟨d, .nilChk x, none⟩ :: r) T H K = OptK (aNilChk (sX T x)) C r T d H K := _root_.id rfl
theorem ar_bin (op : BinOp) (x y : Opd) : wRegs C (⟨d, .bin op x y, none⟩ :: r) T H K = OptK (aBin op (sX T x) (sX T y)) C r T d H K := _root_.id rfl
theorem ar_un (op : UnOp) (x : Opd) : wRegs C (⟨d, .un op x, none⟩ :: r) T H K = OptK (aUn op (sX T x)) C r T d H K := _root_.id rfl
theorem ar_conv (k : IntKind) (x : Opd) : wRegs C (⟨d, .conv k x, none⟩ :: r) T H K = OptK (aConv k (sX T x)) C r T d H K := _root_.id rfl
theorem ar_convSB (x : Opd) : wRegs C (⟨d, .convSB x, none⟩ :: r) T H K = OptH (aSB H (sX T x)) C r T d K := _root_.id rfl
theorem ar_convBS (x : Opd) : wRegs C (⟨d, .convBS x, none⟩ :: r) T H K = OptK (aBS H (sX T x)) C r T d H K := _root_.id rfl
theorem ar_mkFunc (fn : Fn) (a b : List Opd) : wRegs C (⟨d, .mkFunc fn a b, none⟩ :: r) T H K = wRegs C r (upO T d (.func fn (sXs T a) (sXs T b))) H K := _root_.id rfl
theorem ar_mkIface (t : TypeId) (x : Opd) : wRegs C (⟨d, .mkIface t x, none⟩ :: r) T H K = wRegs C r (upO T d (.iface t (sX T x))) H K := _root_.id rfl
theorem ar_mkSlice (b : Nat) (z : List AVal) (l c : Opd) : wRegs C (⟨d, .mkSlice b z l c, none⟩ :: r) T H K = OptH (aMake b z H (sX T l) (sX T c)) C r T d K := _root_.id rfl
theorem ar_sl (n : Nat) (x : Opd) (lo hi mx : Option Opd) : wRegs C (⟨d, .sl n x lo hi mx, none⟩ :: r) T H K = OptK (aSl n (sX T x) (sXO T lo) (sXO T hi) (sXO T mx)) C r T d H K := _root_.id rfl
theorem ar_slStr (x : Opd) (lo hi : Option Opd) : wRegs C (⟨d, .slStr x lo hi, none⟩ :: r) T H K = OptK (aSlStr (sX T x) (sXO T lo) (sXO T hi)) C r T d H K := _root_.id rfl
theorem ar_fieldA (o : Nat) (x : Opd) : wRegs C (⟨d, .fieldA o x, none⟩ :: r) T H K = OptK (aField o (sX T x)) C r T d H K := _root_.id rfl
theorem ar_field (a : Bool) (n o : Nat) (x : Opd) : wRegs C (⟨d, .field a n o x, none⟩ :: r) T H K = OptK (aFieldV a n o (sX T x)) C r T d H K := _root_.id rfl
theorem ar_idxA (n : Nat) (x i : Opd) : wRegs C (⟨d, .idxA n x i, none⟩ :: r) T H K = OptK (aIdxA n (sX T x) (sX T i)) C r T d H K := _root_.id rfl
theorem ar_idxArr (m n : Nat) (x i : Opd) : wRegs C (⟨d, .idxArr m n x i, none⟩ :: r) T H K = OptK (aIdxArr m n (sX T x) (sX T i)) C r T d H K := _root_.id rfl
theorem ar_idx (m n : Nat) (a : Bool) (x i : Opd) : wRegs C (⟨d, .idx m n a x i, none⟩ :: r) T H K = OptK (aIdx m n a (sX T x) (sX T i)) C r T d H K := _root_.id rfl
theorem ar_idxS (x i : Opd) : wRegs C (⟨d, .idxS x i, none⟩ :: r) T H K = OptK (aIdxS (sX T x) (sX T i)) C r T d H K := _root_.id rfl
theorem ar_extract (i : Nat) (x : Opd) : wRegs C (⟨d, .extract i x, none⟩ :: r) T H K = OptK (aExtract i (sX T x)) C r T d H K := _root_.id rfl
theorem ar_append (n b : Nat) (s x : Opd) : wRegs C (⟨d, .append n b s x, none⟩ :: r) T H K = OptH (aAppend n b H (sX T s) (sX T x)) C r T d K := _root_.id rfl
theorem ar_len (s : Bool) (x : Opd) : wRegs C (⟨d, .len s x, none⟩ :: r) T H K = OptK (aLenK s (sX T x)) C r T d H K := _root_.id rfl
theorem ar_call (f : FuncId) (args : List Opd) : wRegs C (⟨d, .call f args, none⟩ :: r) T H K = C f (sXs T args) H (kont C r T d K) := _root_.id rfl
def callvP (C : CS) (f : AVal) (args : List AVal) (H : AHeap) (K : AVal → AHeap → Prop) : Prop := ∃ g a b, f = .func (.func g) a b ∧ Nat.blt g BIG = true ∧ C g (a ++ args ++ b) H K
theorem callvP_func (g : Nat) (a b args : List AVal) (K : AVal → AHeap → Prop) (hg : g < 1024) : callvP C (.func (.func g) a b) args H K = C g (a ++ args ++ b) H K := by
  simp only [callvP, AVal.func.injEq, Fn.func.injEq]
  apply propext
  constructor
  · rintro ⟨g, a, b, ⟨rfl, rfl, rfl⟩, _, h⟩; exact h
  · intro h; exact ⟨_, _, _, ⟨rfl, rfl, rfl⟩, Nat.ble_eq_true_of_le hg, h⟩
theorem ar_callv (f : Opd) (args : List Opd) : wRegs C (⟨d, .callv f args, none⟩ :: r) T H K = callvP C (sX T f) (sXs T args) H (kont C r T d K) := _root_.id rfl
theorem ar_pf (f : PF) (xs : List Opd) : wRegs C (⟨d, .pf f xs, none⟩ :: r) T H K = OptK (aPf f (sXs T xs)) C r T d H K := _root_.id rfl
theorem ar_hf (f : HF) (xs : List Opd) : wRegs C (⟨d, .hf f xs, none⟩ :: r) T H K = OptH (aHf f H (sXs T xs)) C r T d K := _root_.id rfl
theorem ar_slA (m n : Nat) (x : Opd) (lo hi mx : Option Opd) : wRegs C (⟨d, .slA m n x lo hi mx, none⟩ :: r) T H K = OptK (aSlArr m n (sX T x) (sXO T lo) (sXO T hi) (sXO T mx)) C r T d H K := _root_.id rfl
theorem upO_some (i : Nat) (v : AVal) : upO T (some i) v = up T i v := _root_.id rfl
theorem upO_none (v : AVal) : upO T none v = T := _root_.id rfl
theorem sX_t (i : Nat) : sX T (.t i) = T i := _root_.id rfl
theorem sX_c (v : AVal) : sX T (.c v) = v := _root_.id rfl
theorem sX_f (i : Nat) : sX T (.f i) = .func (.func i) [] [] := _root_.id rfl
theorem fin_t (i : Nat) (K : AVal → AHeap → Prop) : fin [.t i] K .ret T H = K (T i) H := by
  simp only [fin, wRes, OptP_some]; rfl
theorem fin_t2 (i j : Nat) (K : AVal → AHeap → Prop) : fin [.t i, .t j] K .ret T H = K (.tuple [T i, T j]) H := by
  simp only [fin, wRes, OptP_some]; rfl
theorem fin_t3 (i j k : Nat) (K : AVal → AHeap → Prop) : fin [.t i, .t j, .t k] K .ret T H = K (.tuple [T i, T j, T k]) H := by
  simp only [fin, wRes, OptP_some]; rfl
def CMono (C : CS) : Prop := ∀ f a H (K K' : AVal → AHeap → Prop), (∀ v H, K v H → K' v H) → C f a H K → C f a H K'
theorem calls_mono (P : Program) (N : ANat) : CMono (ACalls P N) := fun _ _ _ _ _ h hc => hc.mono h
theorem wOp_mono (hC : CMono C) {K K' : AVal → AHeap → Prop} (h : ∀ v H, K v H → K' v H) {o : AOp} (hw : wOp C T H K o) : wOp C T H K' o := by
  cases o
  case call f args => exact hC _ _ _ _ _ h hw
  case callv f args => obtain ⟨g, a, b, h1, h0, h2⟩ := hw; exact ⟨g, a, b, h1, h0, hC _ _ _ _ _ h h2⟩
  case pick c a b => obtain ⟨v, h1, h2⟩ := hw; exact ⟨v, h1, h _ _ h2⟩
  case bad => exact hw
  all_goals first
    | exact h _ _ hw
    | exact OptP.mono hw fun v hv => h _ _ hv
theorem wTr_regs (hC : CMono C) : ∀ (l : List AOper) {T : Env} {H : AHeap} {K : List (AVal × AHeap) → Env → AHeap → Prop} {K' : Env → AHeap → Prop}, (∀ ss T H, K' T H → K ss T H) → wRegs C l T H K' → wTr C l T H K := by
  intro l
  induction l with
  | nil => intro T H K K' h hw; exact h _ _ _ hw
  | cons o l ih =>
    intro T H K K' h hw
    simp only [wRegs, wTr] at hw ⊢
    cases hg : sG T o.guard with
    | false => rw [hg] at hw; exact ih (fun ss T H => h _ T H) hw
    | true =>
      rw [hg] at hw
      simp only [cond_true] at hw ⊢
      exact wOp_mono hC (fun v H' hw => ih (fun ss T H => h _ T H) hw) hw
def allNil : List (List Nat) → Bool
  | [] => true
  | [] :: r => allNil r
  | _ :: _ => false
theorem ck_nil {hs : List AHeap} : ∀ (l : List AOper) (ps : List (List Nat)) (ss : List (AVal × AHeap)) (T : Env), allNil ps = true → wCk hs l ps ss T
  | [], _, _, _, _ => trivial
  | o :: l, [], _, _, _ => trivial
  | o :: l, [] :: ps, [], _, _ => trivial
  | o :: l, [] :: ps, (v, Hv) :: ss, T, h => ⟨fun p hp => by simp at hp, ck_nil l ps ss _ h⟩
  | o :: l, (q :: p) :: ps, _, _, h => by simp [allNil] at h
def noNew : List AOper → Bool
  | [] => true
  | o :: r => match newOf o.op with
    | some _ => false
    | none => noNew r
theorem claims_noNew : ∀ (l : List AOper), noNew l = true → ∀ (b : Nat) (H : AHeap), claims b l = l ∧ reserves H l = H
  | [], _, b, H => ⟨rfl, rfl⟩
  | o :: r, h, b, H => by
    cases hz : newOf o.op with
    | some p => simp [noNew, hz] at h
    | none =>
      simp only [noNew, hz] at h
      exact ⟨by simp only [claims, hz, (claims_noNew r h b H).1], by simp only [reserves, hz, (claims_noNew r h b H).2]⟩
theorem wTr_mono (hC : CMono C) : ∀ (l : List AOper) {T : Env} {H : AHeap} {K K' : List (AVal × AHeap) → Env → AHeap → Prop}, (∀ ss T H, K ss T H → K' ss T H) → wTr C l T H K → wTr C l T H K' := by
  intro l
  induction l with
  | nil => intro T H K K' h hw; exact h _ _ _ hw
  | cons o l ih =>
    intro T H K K' h hw
    simp only [wTr] at hw ⊢
    cases hg : sG T o.guard with
    | false => rw [hg] at hw; exact ih (fun ss T H => h _ T H) hw
    | true =>
      rw [hg] at hw
      simp only [cond_true] at hw ⊢
      exact wOp_mono hC (fun v H' hw => ih (fun ss T H => h _ T H) hw) hw
theorem wRegs_mono (hC : CMono C) : ∀ (l : List AOper) {T : Env} {H : AHeap} {K K' : Env → AHeap → Prop}, (∀ T H, K T H → K' T H) → wRegs C l T H K → wRegs C l T H K' := by
  intro l
  induction l with
  | nil => intro T H K K' h hw; exact h _ _ hw
  | cons o l ih =>
    intro T H K K' h hw
    simp only [wRegs] at hw ⊢
    cases hg : sG T o.guard with
    | false => rw [hg] at hw; exact ih h hw
    | true =>
      rw [hg] at hw
      simp only [cond_true] at hw ⊢
      exact wOp_mono hC (fun v H' hw => ih h hw) hw
theorem inSeq_mono {Q Q' : Post} {K K' : Env → AHeap → Prop} (h : ∀ e T H, Q e T H → Q' e T H) (hk : ∀ T H, K T H → K' T H) (e : AEx) (T : Env) (H : AHeap) (hq : inSeq Q K e T H) : inSeq Q' K' e T H := by
  cases e with
  | normal => exact hk _ _ hq
  | exit i => exact h _ _ _ hq
  | ret => exact h _ _ _ hq
theorem wp_mono' (hC : CMono C) : ∀ (c : ACode) {Q Q' : Post} {T : Env} {H : AHeap}, (∀ e T H, Q e T H → Q' e T H) → wp C c Q T H → wp C c Q' T H := by
  intro c
  induction c with
  | skip => intro Q Q' T H h hw; exact h _ _ _ hw
  | reg l => intro Q Q' T H h hw; exact wRegs_mono hC l (h .normal) hw
  | draw l chk => intro Q Q' T H h hw; exact wTr_mono hC _ (fun ss T' H' hk => ⟨hk.1, h _ _ _ hk.2⟩) hw
  | seq a b iha ihb => intro Q Q' T H h hw; exact iha (inSeq_mono h fun T H hk => ihb h hk) hw
  | cond c a b iha ihb =>
    intro Q Q' T H h hw
    obtain ⟨v, h1, h2⟩ := hw
    refine ⟨v, h1, ?_⟩
    cases v with
    | true => exact iha h h2
    | false => exact ihb h h2
  | block id c ih =>
    intro Q Q' T H h hw
    refine ih (fun e T H hk => ?_) hw
    cases e with
    | exit j =>
      simp only [inBlk] at hk ⊢
      cases hb : Nat.beq j id with
      | true => rw [hb] at hk; exact h _ _ _ hk
      | false => rw [hb] at hk; exact h _ _ _ hk
    | normal => exact h _ _ _ hk
    | ret => exact h _ _ _ hk
  | loop c ih =>
    intro Q Q' T H h hw
    obtain ⟨I, hm, hI⟩ := hw
    exact ⟨I, hm, fun m T H hi => ih (inSeq_mono h fun _ _ hk => hk) (hI m T H hi)⟩
  | exit id => intro Q Q' T H h hw; exact h _ _ _ hw
  | ret => intro Q Q' T H h hw; exact h _ _ _ hw
def norm : ACode → ACode
  | .draw l chk => bif allNil chk && noNew l then .reg l else .draw l chk
  | .seq a b => .seq (norm a) (norm b)
  | .cond c a b => .cond c (norm a) (norm b)
  | .block id c => .block id (norm c)
  | .loop c => .loop (norm c)
  | c => c
theorem wp_norm (hC : CMono C) : ∀ (c : ACode) {Q : Post} {T : Env} {H : AHeap}, wp C (norm c) Q T H → wp C c Q T H := by
  intro c
  induction c with
  | skip => intro Q T H hw; exact hw
  | reg l => intro Q T H hw; exact hw
  | draw l chk =>
    intro Q T H hw
    simp only [norm] at hw
    cases hb : allNil chk && noNew l with
    | false => rw [hb] at hw; exact hw
    | true =>
      rw [hb] at hw
      simp only [Bool.and_eq_true] at hb
      simp only [wp, wDraw, (claims_noNew l hb.2 H.next H).1, (claims_noNew l hb.2 H.next H).2]
      exact wTr_regs hC l (K := fun ss T' H' => wCk (H :: ss.map (·.2)) l chk ss T ∧ Q .normal T' H') (fun ss T' H' hk => ⟨ck_nil l chk ss T hb.1, hk⟩) hw
  | seq a b iha ihb => intro Q T H hw; exact wp_mono' hC a (inSeq_mono (fun _ _ _ h => h) fun T H hk => ihb hk) (iha hw)
  | cond c a b iha ihb =>
    intro Q T H hw
    obtain ⟨v, h1, h2⟩ := hw
    refine ⟨v, h1, ?_⟩
    cases v with
    | true => exact iha h2
    | false => exact ihb h2
  | block id c ih => intro Q T H hw; exact ih hw
  | loop c ih =>
    intro Q T H hw
    obtain ⟨I, hm, hI⟩ := hw
    exact ⟨I, hm, fun m T H hi => ih (hI m T H hi)⟩
  | exit id => intro Q T H hw; exact hw
  | ret => intro Q T H hw; exact hw
def cN (P : Program) (f : FuncId) : Option AFn := match cFn P f with
  | some c => some ⟨c.nt, norm c.body, c.res⟩
  | none => none
theorem acalls_ofN {P : Program} {N : ANat} {f : FuncId} {c : AFn} {args : List AVal} {H : AHeap} {K : AVal → AHeap → Prop} (hn : N.is f = false) (hc : cN P f = some c) (hl : Nat.ble args.length c.nt = true) (h : wp (ACalls P N) c.body (fin c.res K) (argE args) H) (hm : N.md f = none := by rfl) (hfb : Nat.blt f BIG = true := by rfl) : ACalls P N f args H K := by
  unfold cN at hc
  cases hf : cFn P f with
  | none => rw [hf] at hc; simp at hc
  | some c' =>
    rw [hf] at hc
    simp only [Option.some.injEq] at hc
    subst hc
    exact acalls_of hn (eFn_plain hf hm hfb) hl (wp_norm (calls_mono P N) _ h)
theorem aw_drawC {l : List AOper} {chk : List (List Nat)} (h2 : noNew l = true) (h : wTr C l T H fun ss T' H' => wCk (H :: ss.map (·.2)) l chk ss T ∧ Q .normal T' H') : wp C (.draw l chk) Q T H := by
  simp only [wp, wDraw, (claims_noNew l h2 H.next H).1, (claims_noNew l h2 H.next H).2]
  exact h
end
theorem argE_0 (a : AVal) (r : List AVal) : argE (a :: r) 0 = a := _root_.id rfl
theorem argE_1 (a b : AVal) (r : List AVal) : argE (a :: b :: r) 1 = b := _root_.id rfl
theorem argE_2 (a b c : AVal) (r : List AVal) : argE (a :: b :: c :: r) 2 = c := _root_.id rfl
theorem argE_3 (a b c d : AVal) (r : List AVal) : argE (a :: b :: c :: d :: r) 3 = d := _root_.id rfl
theorem argE_4 (a b c d e : AVal) (r : List AVal) : argE (a :: b :: c :: d :: e :: r) 4 = e := _root_.id rfl
theorem bin_lss (k : IntKind) (a b : Int) : aBin .lss (.int k a) (.int k b) = some (.bool (decide (a < b))) := by
  simp [aBin, isShift, aIntF_eq, aInt]
theorem bin_leq (k : IntKind) (a b : Int) : aBin .leq (.int k a) (.int k b) = some (.bool (decide (a ≤ b))) := by
  simp [aBin, isShift, aIntF_eq, aInt]
theorem bin_gtr (k : IntKind) (a b : Int) : aBin .gtr (.int k a) (.int k b) = some (.bool (decide (b < a))) := by
  simp [aBin, isShift, aIntF_eq, aInt]
theorem bin_geq (k : IntKind) (a b : Int) : aBin .geq (.int k a) (.int k b) = some (.bool (decide (b ≤ a))) := by
  simp [aBin, isShift, aIntF_eq, aInt]
theorem bin_eql (k : IntKind) (a b : Int) : aBin .eql (.int k a) (.int k b) = some (.bool (decide (a = b))) := by
  simp only [aBin, isShift, aIntF_eq, aInt, cond_false, if_true]
  by_cases h : a = b <;> simp [h]
theorem bin_neq (k : IntKind) (a b : Int) : aBin .neq (.int k a) (.int k b) = some (.bool (!decide (a = b))) := by
  simp only [aBin, isShift, aIntF_eq, aInt, cond_false, if_true]
  by_cases h : a = b <;> simp [h, bne]
theorem bin_add (k : IntKind) (a b : Int) : aBin .add (.int k a) (.int k b) = some (.int k (k.wrap (a + b))) := by
  simp [aBin, isShift, aIntF_eq, aInt]
theorem bin_sub (k : IntKind) (a b : Int) : aBin .sub (.int k a) (.int k b) = some (.int k (k.wrap (a - b))) := by
  simp [aBin, isShift, aIntF_eq, aInt]
theorem bin_mul (k : IntKind) (a b : Int) : aBin .mul (.int k a) (.int k b) = some (.int k (k.wrap (a * b))) := by
  simp [aBin, isShift, aIntF_eq, aInt]
theorem bin_rem (k : IntKind) (a b : Int) (h : b ≠ 0) : aBin .rem (.int k a) (.int k b) = some (.int k (a.tmod b)) := by
  simp [aBin, isShift, aIntF_eq, aInt, h]
theorem wrapN (a b : Nat) (h : a + b ≤ 9223372036854775807) : IntKind.i64.wrap ((a : Int) + (b : Int)) = ((a + b : Nat) : Int) := by
  rw [IntKind.wrap_i64]; omega
theorem wrap1 (a : Nat) (h : a + 1 ≤ 9223372036854775807) : IntKind.i64.wrap ((a : Int) + 1) = ((a + 1 : Nat) : Int) := by
  rw [IntKind.wrap_i64]; omega
theorem isSome_of_lt {α : Type} {l : List α} {i : Nat} (h : i < l.length) : ∃ x, l[i]? = some x := ⟨_, List.getElem?_eq_getElem h⟩
def ints (l : List Int) : List AVal := l.map fun n => .int .i64 n
theorem ints_len (l : List Int) : (ints l).length = l.length := by simp [ints]
theorem ints_get {l : List Int} {i : Nat} {n : Int} (h : l[i]? = some n) : (ints l)[i]? = some (.int .i64 n) := by simp [ints, h]
theorem wrap64 {a : Int} (h1 : -9223372036854775808 ≤ a) (h2 : a ≤ 9223372036854775807) : IntKind.i64.wrap a = a := by
  rw [IntKind.wrap_i64]; omega
end Go.Abs.S
namespace Go.Abs
section
variable {P : Program} {Prot : Gh} {w0 : World} {ρ : Pl} {H : AHeap} {w : World}
theorem Rel.keep (R : Rel Prot w0 ρ H w) {w' : World} (hb : RowKit.Below w.heap.size w w') : Rel Prot w0 ρ H w' := by
  refine ⟨hb.os.trans R.os, hb.tape.trans R.tape, hb.output.trans R.output, Nat.le_trans R.size hb.size, fun c hc => ?_, fun b l L h => ?_, fun b l L h => ?_, R.free, R.inj, R.dead, R.glob⟩
  · obtain ⟨h1, h2⟩ := R.prot c hc
    exact ⟨h1, (hb.block c (Nat.lt_of_lt_of_le h1 R.size)).trans h2⟩
  · obtain ⟨h1, h2⟩ := R.dom b l L h
    exact ⟨h1, Nat.lt_of_lt_of_le h2 hb.size⟩
  · obtain ⟨x, o, h1, h2, h3⟩ := R.obj b l L h
    exact ⟨x, o, h1, (hb.block _ (R.dom b l L h).2).trans h2, h3⟩
end
end Go.Abs
namespace Go.Abs.S
open Go.Abs
section
variable {C : CS} {T : Env} {H : AHeap} {r : List AOper} {d : Option Nat}
abbrev KT := List (AVal × AHeap) → Env → AHeap → Prop
variable {K : KT}
def consK (v : AVal) (H : AHeap) (K : KT) : KT := fun ss => K ((v, H) :: ss)
theorem consK_app (v : AVal) (H' : AHeap) (ss : List (AVal × AHeap)) : consK v H' K ss T H = K ((v, H') :: ss) T H := _root_.id rfl
def OptKT (o : Option AVal) (C : CS) (r : List AOper) (T : Env) (d : Option Nat) (H : AHeap) (K : KT) : Prop := OptP o fun v => wTr C r (upO T d v) H (consK v H K)
def OptHT (o : Option (AVal × AHeap)) (C : CS) (r : List AOper) (T : Env) (d : Option Nat) (K : KT) : Prop := OptP o fun p => wTr C r (upO T d p.1) p.2 (consK p.1 p.2 K)
def OptST (o : Option AHeap) (C : CS) (r : List AOper) (T : Env) (d : Option Nat) (K : KT) : Prop := OptP o fun H' => wTr C r (upO T d undefA) H' (consK undefA H' K)
def kontT (C : CS) (r : List AOper) (T : Env) (d : Option Nat) (K : KT) : AVal → AHeap → Prop := fun v H' => wTr C r (upO T d v) H' (consK v H' K)
theorem OptKT_some (v : AVal) : OptKT (some v) C r T d H K = wTr C r (upO T d v) H (consK v H K) := OptP_some _ _
theorem OptHT_some (v : AVal) (H' : AHeap) : OptHT (some (v, H')) C r T d K = wTr C r (upO T d v) H' (consK v H' K) := OptP_some _ _
theorem OptST_some (H' : AHeap) : OptST (some H') C r T d K = wTr C r (upO T d undefA) H' (consK undefA H' K) := OptP_some _ _
theorem kontT_app (v : AVal) : kontT C r T d K v H = wTr C r (upO T d v) H (consK v H K) := _root_.id rfl
theorem tr_nil : wTr C [] T H K = K [] T H := _root_.id rfl
open Classical in
theorem tr_guard (o : AOp) (t : Nat) (b : Bool) (ht : t < 1000000) : wTr C (⟨d, o, some (t, b)⟩ :: r) T H K = if T t = .bool b then wTr C (⟨d, o, none⟩ :: r) T H K else wTr C r (upO T d undefA) H (consK undefA H K) := by
  simp only [wTr, sG_lt T ht]
  by_cases h : T t = .bool b
  · rw [if_pos h, h]; cases b <;> rfl
  · rw [if_neg h]
    have : sGv b (T t) = false := by
      unfold sGv
      cases hv : T t <;> simp only [gVb]
      rename_i v
      rw [hv] at h
      cases b <;> cases v <;> simp at h ⊢
    rw [this]; rfl
open Classical in
theorem tr_pick (c a b : Opd) : wTr C (⟨d, .pick c a b, none⟩ :: r) T H K = if sX T c = .bool true then wTr C r (upO T d (sX T a)) H (consK (sX T a) H K) else if sX T c = .bool false then wTr C r (upO T d (sX T b)) H (consK (sX T b) H K) else False := by
  simp only [wTr, sG, wOp, cond_true]
  by_cases h : sX T c = .bool true
  · rw [if_pos h, h]; simp; rfl
  · rw [if_neg h]
    by_cases h' : sX T c = .bool false
    · rw [if_pos h', h']; simp; rfl
    · rw [if_neg h']
      simp only [eq_iff_iff, iff_false, not_exists, not_and]
      intro v hv
      cases v
      · exact absurd hv h'
      · exact absurd hv h
theorem tr_mv (x : Opd) : wTr C (⟨d, .mv x, none⟩ :: r) T H K = wTr C r (upO T d (sX T x)) H (consK (sX T x) H K) := _root_.id rfl
theorem tr_new (z : List AVal) : wTr C (⟨d, .new z, none⟩ :: r) T H K = wTr C r (upO T d (oNew H z).1) (oNew H z).2 (consK (oNew H z).1 (oNew H z).2 K) := _root_.id rfl
theorem tr_box (x : Opd) : wTr C (⟨d, .box x, none⟩ :: r) T H K = wTr C r (upO T d (oNew H (sX T x).cells).1) (oNew H (sX T x).cells).2 (consK (oNew H (sX T x).cells).1 (oNew H (sX T x).cells).2 K) := _root_.id rfl
theorem tr_build (z : List AVal) (ps : List (Nat × Nat × Opd)) : wTr C (⟨d, .build z ps, none⟩ :: r) T H K = OptKT (aBuild z (sXP T ps)) C r T d H K := _root_.id rfl
theorem tr_buildSl (n : Nat) (z : List AVal) (ps : List (Nat × Nat × Opd)) : wTr C (⟨d, .buildSl n z ps, none⟩ :: r) T H K = OptHT (aBuildSl n z H (sXP T ps)) C r T d K := _root_.id rfl
theorem tr_load (a : Bool) (n : Nat) (x : Opd) : wTr C (⟨d, .load a n x, none⟩ :: r) T H K = OptKT (oLoad a n H (sX T x)) C r T d H K := _root_.id rfl
theorem tr_store (n : Nat) (a x : Opd) : wTr C (⟨d, .store n a x, none⟩ :: r) T H K = OptST (oStore n H (sX T a) (sX T x)) C r T d K := _root_.id rfl
theorem tr_nilChk (x : Opd) : wTr C (⟨d, .nilChk x, none⟩ :: r) T H K = OptKT (aNilChk (sX T x)) C r T d H K := _root_.id rfl
theorem tr_bin (op : BinOp) (x y : Opd) : wTr C (⟨d, .bin op x y, none⟩ :: r) T H K = OptKT (aBin op (sX T x) (sX T y)) C r T d H K := _root_.id rfl
theorem tr_un (op : UnOp) (x : Opd) : wTr C (⟨d, .un op x, none⟩ :: r) T H K = OptKT (aUn op (sX T x)) C r T d H K := _root_.id rfl
theorem tr_conv (k : IntKind) (x : Opd) : wTr C (⟨d, .conv k x, none⟩ :: r) T H K = OptKT (aConv k (sX T x)) C r T d H K := _root_.id rfl
theorem tr_convSB (x : Opd) : wTr C (⟨d, .convSB x, none⟩ :: r) T H K = OptHT (aSB H (sX T x)) C r T d K := _root_.id rfl
theorem tr_convBS (x : Opd) : wTr C (⟨d, .convBS x, none⟩ :: r) T H K = OptKT (aBS H (sX T x)) C r T d H K := _root_.id rfl
theorem tr_mkFunc (fn : Fn) (a b : List Opd) : wTr C (⟨d, .mkFunc fn a b, none⟩ :: r) T H K = wTr C r (upO T d (.func fn (sXs T a) (sXs T b))) H (consK (.func fn (sXs T a) (sXs T b)) H K) := _root_.id rfl
theorem tr_mkIface (t : TypeId) (x : Opd) : wTr C (⟨d, .mkIface t x, none⟩ :: r) T H K = wTr C r (upO T d (.iface t (sX T x))) H (consK (.iface t (sX T x)) H K) := _root_.id rfl
theorem tr_mkSlice (b : Nat) (z : List AVal) (l c : Opd) : wTr C (⟨d, .mkSlice b z l c, none⟩ :: r) T H K = OptHT (aMake b z H (sX T l) (sX T c)) C r T d K := _root_.id rfl
theorem tr_sl (n : Nat) (x : Opd) (lo hi mx : Option Opd) : wTr C (⟨d, .sl n x lo hi mx, none⟩ :: r) T H K = OptKT (aSl n (sX T x) (sXO T lo) (sXO T hi) (sXO T mx)) C r T d H K := _root_.id rfl
theorem tr_slStr (x : Opd) (lo hi : Option Opd) : wTr C (⟨d, .slStr x lo hi, none⟩ :: r) T H K = OptKT (aSlStr (sX T x) (sXO T lo) (sXO T hi)) C r T d H K := _root_.id rfl
theorem tr_fieldA (o : Nat) (x : Opd) : wTr C (⟨d, .fieldA o x, none⟩ :: r) T H K = OptKT (aField o (sX T x)) C r T d H K := _root_.id rfl
theorem tr_field (a : Bool) (n o : Nat) (x : Opd) : wTr C (⟨d, .field a n o x, none⟩ :: r) T H K = OptKT (aFieldV a n o (sX T x)) C r T d H K := _root_.id rfl
theorem tr_idxA (n : Nat) (x i : Opd) : wTr C (⟨d, .idxA n x i, none⟩ :: r) T H K = OptKT (aIdxA n (sX T x) (sX T i)) C r T d H K := _root_.id rfl
theorem tr_idxArr (m n : Nat) (x i : Opd) : wTr C (⟨d, .idxArr m n x i, none⟩ :: r) T H K = OptKT (aIdxArr m n (sX T x) (sX T i)) C r T d H K := _root_.id rfl
theorem tr_idx (m n : Nat) (a : Bool) (x i : Opd) : wTr C (⟨d, .idx m n a x i, none⟩ :: r) T H K = OptKT (aIdx m n a (sX T x) (sX T i)) C r T d H K := _root_.id rfl
theorem tr_idxS (x i : Opd) : wTr C (⟨d, .idxS x i, none⟩ :: r) T H K = OptKT (aIdxS (sX T x) (sX T i)) C r T d H K := _root_.id rfl
theorem tr_extract (i : Nat) (x : Opd) : wTr C (⟨d, .extract i x, none⟩ :: r) T H K = OptKT (aExtract i (sX T x)) C r T d H K := _root_.id rfl
theorem tr_append (n b : Nat) (s x : Opd) : wTr C (⟨d, .append n b s x, none⟩ :: r) T H K = OptHT (aAppend n b H (sX T s) (sX T x)) C r T d K := _root_.id rfl
theorem tr_len (s : Bool) (x : Opd) : wTr C (⟨d, .len s x, none⟩ :: r) T H K = OptKT (aLenK s (sX T x)) C r T d H K := _root_.id rfl
theorem tr_call (f : FuncId) (args : List Opd) : wTr C (⟨d, .call f args, none⟩ :: r) T H K = C f (sXs T args) H (kontT C r T d K) := _root_.id rfl
theorem tr_callv (f : Opd) (args : List Opd) : wTr C (⟨d, .callv f args, none⟩ :: r) T H K = callvP C (sX T f) (sXs T args) H (kontT C r T d K) := _root_.id rfl
theorem tr_pf (f : PF) (xs : List Opd) : wTr C (⟨d, .pf f xs, none⟩ :: r) T H K = OptKT (aPf f (sXs T xs)) C r T d H K := _root_.id rfl
theorem tr_hf (f : HF) (xs : List Opd) : wTr C (⟨d, .hf f xs, none⟩ :: r) T H K = OptHT (aHf f H (sXs T xs)) C r T d K := _root_.id rfl
theorem tr_slA (m n : Nat) (x : Opd) (lo hi mx : Option Opd) : wTr C (⟨d, .slA m n x lo hi mx, none⟩ :: r) T H K = OptKT (aSlArr m n (sX T x) (sXO T lo) (sXO T hi) (sXO T mx)) C r T d H K := _root_.id rfl
theorem ck_nil' (hs : List AHeap) (o : AOper) (l : List AOper) (ps : List (List Nat)) (v : AVal) (Hv : AHeap) (ss : List (AVal × AHeap)) : wCk hs (o :: l) ([] :: ps) ((v, Hv) :: ss) T = wCk hs l ps ss (upO T o.dst v) := by
  simp [wCk]
def ckP (hs : List AHeap) (ps : List Nat) (T : Env) (o : AOper) (v : AVal) : Prop := ∀ p ∈ ps, ∃ Hp, hs[p]? = some Hp ∧ (sG T o.guard = true → ∃ u, wLd T Hp o.op = some u ∧ aeq u v = true)
theorem ck_cons (hs : List AHeap) (o : AOper) (l : List AOper) (p : Nat) (q : List Nat) (ps : List (List Nat)) (v : AVal) (Hv : AHeap) (ss : List (AVal × AHeap)) : wCk hs (o :: l) ((p :: q) :: ps) ((v, Hv) :: ss) T = (ckP hs (p :: q) T o v ∧ wCk hs l ps ss (upO T o.dst v)) := by
  simp [wCk, ckP]
theorem ck_end (hs : List AHeap) (ps : List (List Nat)) (ss : List (AVal × AHeap)) : wCk hs [] ps ss T = True := by
  cases ps <;> simp [wCk]
theorem ckP_nil (hs : List AHeap) (o : AOper) (v : AVal) : ckP hs [] T o v = True := by simp [ckP]
theorem ckP_load (hs : List AHeap) (p : Nat) (q : List Nat) (a : Bool) (n : Nat) (x : Opd) (g : Option (Nat × Bool)) (v : AVal) : ckP hs (p :: q) T ⟨d, .load a n x, g⟩ v = ((∃ Hp, hs[p]? = some Hp ∧ (sG T g = true → ∃ u, oLoad a n Hp (sX T x) = some u ∧ aeq u v = true)) ∧ ckP hs q T ⟨d, .load a n x, g⟩ v) := by
  simp [ckP, wLd]
theorem aeq_int (k : IntKind) (a : Int) : aeq (.int k a) (.int k a) = true := by simp [aeq, eqF_eq]
theorem aeq_str (a : List UInt8) : aeq (.str a) (.str a) = true := by simp [aeq]
end
end Go.Abs.S
namespace Go.Abs.S
open Go.Abs
def ArgS (n : Nat) (H : AHeap) (s : AVal) (l : List AVal) : Prop :=
  (s = nilS ∧ l = []) ∨ ∃ a cap, s = .slice (some a) l.length (.known cap) ∧ l.length ≤ cap ∧ a.b < n ∧ rdCells H a l.length = some l
theorem ArgS.cel {n : Nat} {H : AHeap} {s : AVal} {l : List AVal} (h : ArgS n H s l) : Cel n H s l := by
  rcases h with h | ⟨a, c, h1, h2, h3, h4⟩
  · exact .inl ⟨isE_nil h.1, h.2⟩
  · exact .inr ⟨a, _, h1, h3, h4⟩
theorem ArgS.ext {n : Nat} {H H' : AHeap} {s : AVal} {l : List AVal} (h : ArgS n H s l) (e : Ext n H H') : ArgS n H' s l := by
  rcases h with h | ⟨a, c, h1, h2, h3, h4⟩
  · exact .inl h
  · exact .inr ⟨a, c, h1, h2, h3, by rw [rd_congr (e.old _ h3)]; exact h4⟩
theorem rd_pre {H : AHeap} {a : Ad} {n k : Nat} {xs : List AVal} (h : rdCells H a n = some xs) (hk : k ≤ n) : rdCells H a k = some (xs.take k) := by
  obtain ⟨l, low, ro, h1, h2, h3, h4, rfl⟩ := rd_spec h
  unfold rdCells
  simp only [h1, Nat.ble_eq_true_of_le h2, Nat.ble_eq_true_of_le h3, Nat.ble_eq_true_of_le (show a.o + k ≤ a.lim by omega), Bool.and_self, cond_true]
  rw [List.take_take, Nat.min_eq_left hk]
theorem ArgS.take {n : Nat} {H : AHeap} {s : AVal} {l : List AVal} (h : ArgS n H s l) {k : Nat} (hk : k ≤ l.length) : ∃ s', aSl 1 s none (some (.int .i64 (k : Int))) none = some s' ∧ ArgS n H s' (l.take k) := by
  have hbd : ∀ c, k ≤ c → aBnd l.length c none (some (.int .i64 (k : Int))) none = some (0, k, none) := by
    intro c hc
    show (match bdO (some (AVal.int .i64 (Int.ofNat k))) c l.length with | some h => (match bdO none h 0 with | some l => some (l, h, none) | none => none) | none => none) = _
    simp only [bdO, bd, Nat.ble_eq_true_of_le hc, cond_true]
  rcases h with ⟨rfl, rfl⟩ | ⟨a, c, rfl, h2, h3, h4⟩
  · obtain rfl : k = 0 := by simpa using hk
    exact ⟨nilS, rfl, .inl ⟨rfl, rfl⟩⟩
  · have hlt : (l.take k).length = k := by simp; omega
    have hr := rd_pre h4 hk
    simp only [aSl, hbd c (by omega), Option.getD_none, Nat.sub_zero, Nat.zero_mul, Nat.add_zero]
    cases Nat.beq c 0 with
    | true => exact ⟨_, rfl, .inr ⟨a, c, by rw [hlt], by omega, h3, by rw [hlt]; exact hr⟩⟩
    | false => exact ⟨_, rfl, .inr ⟨a, c, by rw [hlt], by omega, h3, by rw [hlt]; exact hr⟩⟩
theorem row_newL (H : AHeap) (l : List AVal) {n : Nat} (hn : l.length = n) : ∃ H', oNew H l = (cellR H.next n 0, H') ∧ Row H' H.next l ∧ H'.next = H.next + 1 ∧ ∀ c, c ≠ H.next → H'.get c = H.get c := by
  subst hn
  exact ⟨_, rfl, row_push _ _, rfl, fun c hc => by rw [AHeap.get_push, if_neg hc]⟩
theorem cells_agg (l : List AVal) : (AVal.agg l).cells = l := _root_.id rfl
theorem ext_0 (x : AVal) (r : List AVal) : aExtract 0 (.tuple (x :: r)) = some x := _root_.id rfl
theorem ext_1 (x y : AVal) (r : List AVal) : aExtract 1 (.tuple (x :: y :: r)) = some y := _root_.id rfl
theorem ext_2 (x y z : AVal) (r : List AVal) : aExtract 2 (.tuple (x :: y :: z :: r)) = some z := _root_.id rfl
theorem arr_idx {b n i : Nat} (h : i < n) (k : IntKind) : aIdxArr n 1 (cellR b n 0) (.int k (i : Int)) = some (cellR b n i) := by
  show (bif Nat.blt i n then some (AVal.ptr (some ⟨b, n, 0 + i * 1⟩)) else none) = _
  have : Nat.blt i n = true := by simpa [Nat.blt_eq] using h
  rw [this, Nat.zero_add, Nat.mul_one]; rfl
theorem Ext.of_new {H H' : AHeap} {b : Nat} (hn : H'.next = H.next + 1) (h : ∀ c, c ≠ b → H'.get c = H.get c) {n : Nat} (hb : n ≤ b) : Ext n H H' := ⟨by omega, fun c hc => h c (by omega)⟩
theorem rd_world {w : World} {c n off len : Nat} (hr : rowOf w c = some n) (hb : off + len ≤ n) {l : List AVal} (hl : l.length = len)
    (h : ∀ i, i < len → ∃ v, w.cell? ⟨c, off + i, none⟩ = some v ∧ l[i]? = some (absW w v)) : rdCells (heapW w) ⟨c, n, off⟩ len = some l := by
  obtain ⟨C, e, fz, h1, h2, h3⟩ := objW_some hr
  unfold rdCells
  rw [heapW_get, h3]
  simp only [List.length_map, Array.length_toList, h2, Nat.ble_eq_true_of_le (Nat.zero_le _), Nat.ble_eq_true_of_le (Nat.le_refl _), Nat.ble_eq_true_of_le hb, Bool.and_self, cond_true, Option.some.injEq]
  apply List.ext_getElem?
  intro i
  by_cases hi : i < len
  · obtain ⟨v, q1, q2⟩ := h i hi
    rw [q2, List.getElem?_take_of_lt hi, List.getElem?_drop, List.getElem?_map, Array.getElem?_toList]
    rw [cell?_of h1] at q1
    rw [q1]; rfl
  · rw [List.getElem?_eq_none (by simp; omega), List.getElem?_eq_none (by omega)]
end Go.Abs.S
namespace Go.Abs.S
open Go.Abs Go.WideShapes Go.ChangeShapes
theorem rowAt_off {p : Program} {fits : TypeId → Bool} {d : Nat} {e : TypeId} {count off n : Nat} (h : rowAt p fits d e count off n = true) : off ≤ count * p.cellsOf e := by
  cases d with
  | zero => simp [rowAt] at h
  | succ d =>
    unfold rowAt at h
    simp only at h
    split at h
    · simp at h
    · rename_i hs
      have hdiv := Nat.div_add_mod off (p.cellsOf e)
      have hmod := Nat.mod_lt off (Nat.pos_of_ne_zero hs)
      have key : off / p.cellsOf e ≤ count → (off % p.cellsOf e = 0 ∨ off / p.cellsOf e < count) → off ≤ count * p.cellsOf e := by
        intro h1 h2
        rcases h2 with h2 | h2
        · have := Nat.mul_le_mul_right (p.cellsOf e) h1
          rw [Nat.mul_comm] at hdiv
          omega
        · have := Nat.mul_le_mul_right (p.cellsOf e) (Nat.succ_le_of_lt h2)
          rw [Nat.succ_mul] at this
          rw [Nat.mul_comm] at hdiv
          omega
      simp only [Bool.or_eq_true, Bool.and_eq_true, decide_eq_true_eq, beq_iff_eq] at h
      rcases h with ⟨⟨h1, h2⟩, _⟩ | ⟨h1, _⟩
      · exact key (by omega) (.inl h1)
      · exact key (by omega) (.inr h1)
theorem liesAt_off {p : Program} : ∀ {d : Nat} {e : TypeId} {count off : Nat} {u : TypeId} {n : Nat}, liesAt p d e count off u n = true → off ≤ count * p.cellsOf e := by
  intro d
  induction d with
  | zero => intro e count off u n h; simp [liesAt] at h
  | succ d ih =>
    intro e count off u n h
    unfold liesAt at h
    simp only [Bool.or_eq_true] at h
    rcases h with h | h
    · exact rowAt_off h
    · split at h
      · exact ih h
      · simp at h
theorem okWide_room {P : Program} {w : World} {r : Reach} {base : Nat} {t e : TypeId} {a : Addr} {len cap : Nat} (ht : P.underlying t = some (.slice e)) (h : Value.okWide P w r base t (.slice (some a) len cap)) :
    a.spot = none ∧ len ≤ cap ∧ ∃ n, rowOf w a.block = some n ∧ a.off ≤ n := by
  simp only [Value.okWide, ht, Cell.okWide, Cell.ok] at h
  obtain ⟨h1, _, _, h2, row, cells, h3, h4⟩ := h
  refine ⟨h2, h1, cells, ?_, Nat.le_trans (liesAt_off h4) (Nat.div_mul_le_self _ _)⟩
  unfold World.shape? at h3
  unfold rowOf
  split at h3
  · rename_i c el fz hc
    simp only [Option.some.injEq, Prod.mk.injEq] at h3
    rw [hc]
    simp only [h3.2]
  · simp at h3
theorem cells_slice (v : Value) {a : Option Addr} {len cap : Nat} (h : v = .slice a len cap) : v.cells.toList = [.slice a len cap] := by subst h; rfl
variable {H : Type} {enc : TypeId × Value → H}
theorem arg_ints {P : Program} {W : World} {base : Nat} {t e : TypeId} {v : Value} {d : DataW H} {p : List MemPlace} (ht : P.underlying t = some (.slice e)) (he : P.underlying e = some (.int .i64)) (hc : P.cellsOf e = 1)
    (hok : Value.okWide P W .any base t v) (h : DataW.Trod enc P W 0 (fun _ => true) true t v d p) :
    ∃ l : List Int, ArgS (heapW W).next (heapW W) (absW W v) (ints l) ∧ ((d = .nil ∧ l = []) ∨ ∃ el sp, d = .slice el sp ∧ el.length = l.length) := by
  obtain ⟨oa, len, cap, rfl⟩ := okWide_slice ht hok
  obtain ⟨fuel, hf⟩ := h
  rw [cells_slice _ rfl] at hf
  rcases open_ints ht he hc hf with ⟨h1, h2⟩ | ⟨a, len', cap', zs, h1, _, h3, h4, h5, h6, h7, _⟩
  · simp only [List.cons.injEq, Value.slice.injEq, and_true] at h1
    obtain ⟨rfl, rfl, rfl⟩ := h1
    simp only [Prod.mk.injEq] at h2
    exact ⟨[], .inl ⟨by simp [absW, nilS], rfl⟩, .inl ⟨h2.1, rfl⟩⟩
  · simp only [List.cons.injEq, Value.slice.injEq, and_true] at h1
    obtain ⟨rfl, rfl, rfl⟩ := h1
    simp only [if_true] at h5
    obtain ⟨q1, q2, n, q3, q4⟩ := okWide_room ht hok
    obtain ⟨c, off, spot⟩ := a
    simp only at q1 q3 q4
    subst q1
    simp only [Prod.mk.injEq] at h6
    have hlt : (zs.take len).length = len := by simp; omega
    have hcell : ∀ i, i < len → W.cell? ⟨c, off + i, none⟩ = some (.int .i64 (zs.getD i 0)) := fun i hi => by
      have := h7 i (by omega)
      rwa [add_none] at this
    have hb : off + len ≤ n := by
      by_cases h0 : len = 0
      · omega
      · obtain ⟨C, e', fz, g1, g2, _⟩ := objW_some q3
        have := hcell (len - 1) (by omega)
        rw [cell?_of g1] at this
        have := (Array.getElem?_eq_some_iff.1 this).1
        omega
    refine ⟨zs.take len, .inr ⟨⟨c, n, off⟩, cap, ?_, by rw [ints_len, hlt]; exact q2, ?_, ?_⟩, .inr ⟨_, _, h6.1, by simp [lits]⟩⟩
    · rw [ints_len, hlt]
      simp only [absW, q2, if_true, q3, q4]
    · obtain ⟨C, e', fz, g1, _, _⟩ := objW_some q3
      exact (Array.getElem?_eq_some_iff.1 g1).1
    · rw [ints_len, hlt]
      refine rd_world q3 hb (by rw [ints_len, hlt]) fun i hi => ⟨_, hcell i hi, ?_⟩
      simp only [absW]
      refine ints_get ?_
      rw [List.getElem?_take_of_lt hi]
      have hz : i < zs.length := by omega
      rw [List.getElem?_eq_getElem hz]
      simp [List.getD, hz]
end Go.Abs.S
namespace Go.Abs.S
open Go.Abs
theorem Cel.src {n : Nat} {H : AHeap} {s : AVal} {l : List AVal} (h : Cel n H s l) : aSrc 1 H s = some (l.length, l) := by
  rcases h with ⟨h, rfl⟩ | ⟨a, r, rfl, _, h⟩
  · rcases isE_cases h with rfl | ⟨a, rfl⟩ <;> rfl
  · simp only [aSrc, Nat.mul_one, h]
theorem aw_cut {C : CS} {c : ACode} {id : Nat} {Q : Post} {T : Env} {H : AHeap} (F : Env → AHeap → Prop) (hC : CMono C) (h : wp C c (inBlk id (inSeq Q F)) T H) (k : ∀ T H, F T H → Q .normal T H) : wp C c (inBlk id Q) T H := by
  refine wp_mono' hC c (fun e T H hq => ?_) h
  cases e with
  | normal => exact k _ _ hq
  | ret => exact hq
  | exit j =>
    simp only [inBlk] at hq ⊢
    cases hb : Nat.beq j id with
    | true => rw [hb] at hq; exact k _ _ hq
    | false => rw [hb] at hq; exact hq
end Go.Abs.S
namespace Go.Abs.S
open Go.Abs
theorem str_len (s : List UInt8) : aLenK true (.str s) = some (.int .i64 (s.length : Int)) := _root_.id rfl
theorem str_idx {s : List UInt8} {i : Nat} {b : UInt8} (h : s[i]? = some b) (k : IntKind) : aIdxS (.str s) (.int k (i : Int)) = some (.int .u8 (b.toNat : Int)) := by
  show (match (s[i]? : Option UInt8) with | some b => some (AVal.int .u8 b.toNat) | none => none) = _
  rw [h]
theorem bd_nat {y n : Nat} (h : n ≤ y) : bd (.int .i64 (n : Int)) y = some n := by
  show (bif Nat.ble n y then some n else none) = _
  rw [Nat.ble_eq_true_of_le h]; rfl
theorem str_sl {s : List UInt8} {l h : Nat} (h1 : l ≤ h) (h2 : h ≤ s.length) : aSlStr (.str s) (some (.int .i64 (l : Int))) (some (.int .i64 (h : Int))) = some (.str ((s.drop l).take (h - l))) := by
  simp only [aSlStr, aBnd, bdO, bd_nat h2, bd_nat h1]
theorem str_slL {s : List UInt8} {l : Nat} (h1 : l ≤ s.length) : aSlStr (.str s) (some (.int .i64 (l : Int))) none = some (.str (s.drop l)) := by
  simp only [aSlStr, aBnd, bdO, bd_nat h1]
  rw [List.take_of_length_le (by simp)]
theorem str_slH {s : List UInt8} {h : Nat} (h2 : h ≤ s.length) : aSlStr (.str s) none (some (.int .i64 (h : Int))) = some (.str (s.take h)) := by
  simp only [aSlStr, aBnd, bdO, bd_nat h2, List.drop_zero, Nat.sub_zero]
theorem str_eql (x y : List UInt8) : aBin .eql (.str x) (.str y) = some (.bool (decide (x = y))) := by
  simp only [aBin, aStr]
  by_cases h : x = y <;> simp [h]
theorem str_neq (x y : List UInt8) : aBin .neq (.str x) (.str y) = some (.bool (!decide (x = y))) := by
  simp only [aBin, aStr]
  by_cases h : x = y <;> simp [h]
theorem str_add {x y : List UInt8} (h : x.length + y.length ≤ 9223372036854775807) : aBin .add (.str x) (.str y) = some (.str (x ++ y)) := by
  simp only [aBin, aStr, Nat.ble_eq_true_of_le h, cond_true]
theorem conv_in (k k' : IntKind) (n : Int) : aConv k (.int k' n) = some (.int k (k.wrap n)) := by
  simp only [aConv, wrF_eq]
theorem un_not (b : Bool) : aUn .not (.bool b) = some (.bool (!b)) := _root_.id rfl
theorem bin_shl (k k' : IntKind) (a : Int) (b : Nat) : aBin .shl (.int k a) (.int k' (b : Int)) = some (.int k (k.wrap (a * 2 ^ (min b k.bits)))) := by
  simp only [aBin, isShift, cond_true, aShiftF_eq, aShift]
  rw [if_neg (by omega)]; rfl
theorem bin_shr (k k' : IntKind) (a : Int) (b : Nat) : aBin .shr (.int k a) (.int k' (b : Int)) = some (.int k (a.fdiv (2 ^ (min b k.bits)))) := by
  simp only [aBin, isShift, cond_true, aShiftF_eq, aShift]
  rw [if_neg (by omega)]; rfl
theorem undef_bool (b : Bool) : (undefA = AVal.bool b) = False := by simp [undefA]
theorem wrapU8 {a : Int} (h1 : 0 ≤ a) (h2 : a ≤ 255) : IntKind.u8.wrap a = a := IntWalk.u8_in _ ⟨h1, h2⟩
end Go.Abs.S
namespace Go.Abs.S
open Go.Abs
theorem ofInt_nat (n m : Nat) : (BitVec.ofInt m (n : Int)).toNat = n % 2 ^ m := by
  rw [BitVec.toNat_ofInt]
  omega
theorem pf_min (a b : Int) : aPf (.mm false) [.int .i64 a, .int .i64 b] = some (.int .i64 (if b < a then b else a)) := by
  simp only [aPf, aMMs, aMM, aMM1, ltF_eq, cond_false]
  by_cases h : b < a <;> simp [h]
end Go.Abs.S
namespace Go.Abs.S
open Go.Abs
theorem shrN (k k' : IntKind) (a : Nat) {b : Nat} (hb : b ≤ k.bits) : aBin .shr (.int k (a : Int)) (.int k' (b : Int)) = some (.int k ((a / 2 ^ b : Nat) : Int)) := by
  rw [bin_shr, Nat.min_eq_left hb]
  congr 2
  have : ((2 : Int) ^ b) = ((2 ^ b : Nat) : Int) := by simp
  rw [this, Int.fdiv_eq_ediv_of_nonneg _ (Int.natCast_nonneg _)]
  rfl
def byts (s : List UInt8) : List AVal := s.map fun b => .int .u8 (b.toNat : Int)
theorem byts_len (s : List UInt8) : (byts s).length = s.length := by simp [byts]
theorem byts_append (s t : List UInt8) : byts (s ++ t) = byts s ++ byts t := by simp [byts]
theorem byts_one (s : List UInt8) : (byts s).all AVal.one = true := by simp [byts, AVal.one]
theorem byts_get {s : List UInt8} {i : Nat} {b : UInt8} (h : s[i]? = some b) : (byts s)[i]? = some (.int .u8 (b.toNat : Int)) := by simp [byts, h]
theorem bytesOf_byts : ∀ s : List UInt8, bytesOf (byts s) = some s
  | [] => rfl
  | b :: s => by
    have h := bytesOf_byts s
    show (match bytesOf (byts s) with | some l => some (UInt8.ofNat (Int.toNat (b.toNat : Int)) :: l) | none => none) = _
    rw [h]
    simp
theorem src_str (H : AHeap) (s : List UInt8) : aSrc 1 H (.str s) = some (s.length, byts s) := _root_.id rfl
def Glo (H : AHeap) (g : Nat) (l : List AVal) : Prop := H.get g = some (.cells l 0 true)
theorem gl_idx {H : AHeap} {g n : Nat} {l : List AVal} (h : Glo H g l) (hn : l.length = n) {i : Nat} (hi : i < n) (k : IntKind) : aHf (.gIdx g n 1) H [.int k (i : Int)] = some (cellR g n i, H) := by
  have : gPtr H g = some (cellR g n 0) := by
    unfold gPtr
    rw [h, ← hn]; rfl
  simp only [aHf, aGIdx, this, arr_idx hi]
theorem gl_load {H : AHeap} {g n : Nat} {l : List AVal} (h : Glo H g l) (hn : l.length = n) {i : Nat} {x : AVal} (hi : l[i]? = some x) : oLoad false 1 H (cellR g n i) = some x := by
  subst hn
  have hlt := (List.getElem?_eq_some_iff.1 hi).1
  obtain ⟨y, h4, h5⟩ := rd_at (rd_whole h (Nat.zero_le _)) hlt
  rw [hi] at h4
  simp only [Option.some.injEq] at h4
  subst h4
  simp only [Nat.zero_add] at h5
  simp only [oLoad, cellR, h5, cond_false]
theorem Glo.ext {n g : Nat} {H H' : AHeap} {l : List AVal} (h : Glo H g l) (hg : g < n) (e : Ext n H H') : Glo H' g l := (e.old g hg).trans h
theorem row_storeN {H : AHeap} {b n : Nat} {l : List AVal} (h : Row H b l) (hn : l.length = n) {xs : List AVal} (hx : xs.length = n) (ho : xs.all AVal.one = true) :
    ∃ H', oStore n H (cellR b n 0) (.agg xs) = some H' ∧ Row H' b xs ∧ H'.next = H.next ∧ ∀ c, c ≠ b → H'.get c = H.get c := by
  subst hn
  obtain ⟨low, h1, h2⟩ := h
  refine ⟨H.set b (.cells xs l.length false), ?_, ⟨l.length, by rw [AHeap.get_set, if_pos rfl], by omega⟩, rfl, fun c hc => by rw [AHeap.get_set, if_neg hc]⟩
  simp only [oStore, cellR, cells_agg, hx, Nat.beq_refl, cond_true]
  unfold wrCells
  simp only [h1, hx, Nat.ble_eq_true_of_le h2, Nat.beq_refl, Nat.zero_add, Nat.ble_eq_true_of_le (Nat.le_refl _), ho, Bool.and_self, cond_true, List.take_zero, List.nil_append, List.drop_length, List.append_nil]
theorem row_loadN {H : AHeap} {b n : Nat} {l : List AVal} (h : Row H b l) (hn : l.length = n) : oLoad true n H (cellR b n 0) = some (.agg l) := by
  subst hn
  obtain ⟨low, h1, h2⟩ := h
  simp only [oLoad, cellR, rd_whole h1 h2, cond_true]
theorem fld0 (b n o : Nat) : aField o (cellR b n 0) = some (cellR b n o) := by
  simp only [aField, cellR, Nat.zero_add]
theorem fin_n0 {T : Env} {H : AHeap} (K : AVal → AHeap → Prop) : fin [] K .normal T H = K (.tuple []) H := by
  simp only [fin, wRes, OptP_some]; rfl
end Go.Abs.S
namespace Go.Abs.S
open Go.Abs
def Apart (s : AVal) (c : Nat) : Prop := ∀ a m r, s = .slice (some a) m r → c ≠ a.b
theorem apart_nil (c : Nat) : Apart nilS c := by intro a m r h; simp [nilS] at h
theorem App.apart {n : Nat} {H : AHeap} {s : AVal} {l : List AVal} (h : App n H s l) {c : Nat} (hc : H.next ≤ c) : Apart s c := by
  intro a m r he
  rcases h with ⟨rfl, _⟩ | ⟨b, low, rfl, _, h3, _⟩
  · simp [nilS] at he
  · simp only [AVal.slice.injEq, Option.some.injEq] at he
    rw [← he.1]; simp only; omega
theorem ap_app {n : Nat} {H : AHeap} {s : AVal} {t xs : List UInt8} (h : App n H s (byts t)) (hn : n ≤ H.next) {y : AVal} (hs : aSrc 1 H y = some (xs.length, byts xs)) (hb : t.length + xs.length ≤ 100000000) :
    ∃ s' H', aAppend 1 1 H s y = some (s', H') ∧ App n H' s' (byts (t ++ xs)) ∧ Ext n H H' ∧ ∀ c, c < H.next → Apart s c → H'.get c = H.get c ∧ Apart s' c := by
  by_cases h0 : xs = []
  · subst h0
    simp only [List.append_nil]
    have e0 : Nat.beq ([] : List UInt8).length 0 = true := rfl
    refine ⟨s, H, ?_, h, Ext.refl _ _, fun c _ hc => ⟨rfl, hc⟩⟩
    simp only [aAppend, hs, e0, cond_true]
    rcases h with ⟨rfl, _⟩ | ⟨b, low, rfl, _⟩ <;> rfl
  have hl : 0 < xs.length := List.length_pos_iff.2 h0
  have e0 : Nat.beq xs.length 0 = false := by rw [beq_dec]; exact decide_eq_false (by omega)
  have c1 : ∀ k, k = t.length → (Nat.blt 0 1 && (Nat.ble ((2 * (k + xs.length) + 0) * 1) 281474976710656 && (Nat.ble (k + xs.length) 9223372036854775807 && (Nat.beq (byts xs).length (xs.length * 1) && (byts xs).all AVal.one)))) = true := by
    intro k hk
    subst hk
    simp only [Nat.add_zero, Nat.mul_one, Nat.ble_eq_true_of_le (show 2 * (t.length + xs.length) ≤ 281474976710656 by omega), Nat.ble_eq_true_of_le (show t.length + xs.length ≤ 9223372036854775807 by omega), byts_len, Nat.beq_refl, byts_one, Bool.and_self]
    rfl
  rcases h with ⟨rfl, h2⟩ | ⟨b, low, rfl, h2, h3, h4, h5⟩
  · have ht : t = [] := by simpa [byts] using h2
    subst ht
    refine ⟨.slice (some ⟨H.next, xs.length, 0⟩) xs.length (.open_ 1), H.push (.cells (byts xs) 0 false), ?_, .inr ⟨H.next, 0, ?_, hn, Nat.lt_succ_self _, ?_, Nat.zero_le _⟩, (Ext.refl n H).push hn _, fun c hc _ => ⟨get_push_lt hc, fun a m r he => by simp only [AVal.slice.injEq, Option.some.injEq] at he; rw [← he.1]; simp only; omega⟩⟩
    · simp only [aAppend, hs, e0, cond_false, nilS]
      rw [c1 0 rfl, cond_true, byts_len]
    · simp only [List.nil_append, byts_len]
    · rw [AHeap.get_push]; exact if_pos rfl
  · rw [byts_len] at h5 ⊢
    have hgrow : growCells H ⟨b, t.length, 0⟩ t.length (byts xs) = some (H.set b (.cells (byts t ++ byts xs) low false)) := by
      have e : t.length = (byts t).length := (byts_len t).symm
      unfold growCells
      simp only [h4, Nat.ble_eq_true_of_le (show low ≤ t.length from h5), Nat.ble_eq_true_of_le (show t.length ≤ (byts t).length by omega), Nat.ble_eq_true_of_le (Nat.zero_le _), Nat.ble_eq_true_of_le (show t.length + 1 ≤ t.length + xs.length by omega), ← e, Nat.beq_refl, byts_len, byts_one, Bool.and_self, cond_true, List.take_length, Nat.ble_eq_true_of_le (Nat.le_refl _)]
      congr 4
      rw [e, List.take_length]
    refine ⟨.slice (some ⟨b, t.length + xs.length, 0⟩) (t.length + xs.length) (.open_ 1), H.set b (.cells (byts t ++ byts xs) low false), ?_, .inr ⟨b, low, ?_, h2, h3, ?_, ?_⟩, (Ext.refl n H).set h2 _, fun c hc hd => ⟨by rw [AHeap.get_set, if_neg (hd _ _ _ rfl)], fun a m r he => by simp only [AVal.slice.injEq, Option.some.injEq] at he; rw [← he.1]; show c ≠ b; exact hd _ _ _ rfl⟩⟩
    · simp only [aAppend, hs, e0, cond_false]
      rw [c1 t.length rfl, cond_true]
      have e1 : Nat.ble (t.length + xs.length) t.length = false := by rw [ble_dec]; exact decide_eq_false (by omega)
      simp only [Nat.beq_refl, cond_true, Nat.zero_add, Nat.mul_one, e1, cond_false, hgrow, byts_len]
    · simp only [byts_len, List.length_append]
    · rw [AHeap.get_set, if_pos rfl, byts_append]
    · simp only [byts_len, List.length_append]; omega
theorem bs_cel {n : Nat} {H : AHeap} {s : AVal} {t : List UInt8} (h : Cel n H s (byts t)) : aBS H s = some (.str t) := by
  rcases h with ⟨h, h2⟩ | ⟨a, r, rfl, _, h3⟩
  · have ht : t = [] := by simpa [byts] using h2
    subst ht
    rcases isE_cases h with rfl | ⟨a, rfl⟩ <;> rfl
  · simp only [aBS, h3, bytesOf_byts]
theorem byts_len' {n : Nat} {H : AHeap} {s : AVal} {t : List UInt8} (h : Cel n H s (byts t)) : aLenK false s = some (.int .i64 (t.length : Int)) := by
  have := h.len; rwa [byts_len] at this
theorem byts_src {n : Nat} {H : AHeap} {s : AVal} {t : List UInt8} (h : Cel n H s (byts t)) : aSrc 1 H s = some (t.length, byts t) := by
  have := h.src; rwa [byts_len] at this
theorem App.less {m n : Nat} {H : AHeap} {s : AVal} {l : List AVal} (h : App n H s l) (hm : m ≤ n) : App m H s l := by
  rcases h with h | ⟨b, low, h1, h2, h3⟩
  · exact .inl h
  · exact .inr ⟨b, low, h1, by omega, h3⟩
def strs (l : List (List UInt8)) : List AVal := l.map .str
theorem strs_get {l : List (List UInt8)} {i : Nat} {s : List UInt8} (h : l[i]? = some s) : (strs l)[i]? = some (.str s) := by simp [strs, h]
theorem build_s1 (H : AHeap) (s : List UInt8) : ∃ H', aBuildSl 1 [.str []] H [(0, 1, .str s)] = some (slR H.next 1 (.known 1), H') ∧ Row H' H.next (strs [s]) ∧ H'.next = H.next + 1 ∧ Ext H.next H H' :=
  ⟨H.push (.cells [.str s] 0 false), rfl, row_push H [.str s], rfl, (Ext.refl _ H).push (Nat.le_refl _) _⟩
theorem build_s2 (H : AHeap) (s t : List UInt8) : ∃ H', aBuildSl 2 [.str []] H [(0, 1, .str s), (1, 1, .str t)] = some (slR H.next 2 (.known 2), H') ∧ Row H' H.next (strs [s, t]) ∧ H'.next = H.next + 1 ∧ Ext H.next H H' :=
  ⟨H.push (.cells [.str s, .str t] 0 false), rfl, row_push H [.str s, .str t], rfl, (Ext.refl _ H).push (Nat.le_refl _) _⟩
def Prs (n : Nat) (H : AHeap) (s : AVal) (l : List (List UInt8 × List UInt8)) : Prop :=
  (s = nilS ∧ l = []) ∨ ∃ a r, s = .slice (some a) l.length r ∧ a.b < n ∧ ∀ i p, l[i]? = some p → rdCells H ⟨a.b, a.lim, a.o + i * 2⟩ 2 = some [.str p.1, .str p.2]
theorem Prs.len {n : Nat} {H : AHeap} {s : AVal} {l : List (List UInt8 × List UInt8)} (h : Prs n H s l) : aLenK false s = some (.int .i64 (l.length : Int)) := by
  rcases h with ⟨rfl, rfl⟩ | ⟨a, r, rfl, _⟩ <;> rfl
theorem Prs.ext {n : Nat} {H H' : AHeap} {s : AVal} {l : List (List UInt8 × List UInt8)} (h : Prs n H s l) (e : Ext n H H') : Prs n H' s l := by
  rcases h with h | ⟨a, r, h1, h2, h3⟩
  · exact .inl h
  · exact .inr ⟨a, r, h1, h2, fun i p hp => by rw [rd_congr (a := ⟨a.b, a.lim, a.o + i * 2⟩) (e.old _ h2)]; exact h3 i p hp⟩
theorem Prs.at {n : Nat} {H : AHeap} {s : AVal} {l : List (List UInt8 × List UInt8)} (h : Prs n H s l) {i : Nat} {p : List UInt8 × List UInt8} (hp : l[i]? = some p) :
    ∃ a, aIdxA 2 s (.int .i64 (i : Int)) = some (.ptr (some a)) ∧ oLoad true 2 H (.ptr (some a)) = some (.agg [.str p.1, .str p.2]) ∧ oLoad false 1 H (.ptr (some ⟨a.b, a.lim, a.o⟩)) = some (.str p.1) ∧ oLoad false 1 H (.ptr (some ⟨a.b, a.lim, a.o + 1⟩)) = some (.str p.2)
      ∧ aField 0 (.ptr (some a)) = some (.ptr (some ⟨a.b, a.lim, a.o⟩)) ∧ aField 1 (.ptr (some a)) = some (.ptr (some ⟨a.b, a.lim, a.o + 1⟩)) := by
  have hlt := (List.getElem?_eq_some_iff.1 hp).1
  rcases h with ⟨_, rfl⟩ | ⟨a, r, rfl, _, h3⟩
  · simp at hlt
  · have h4 := h3 i p hp
    obtain ⟨x, g1, g2⟩ := rd_at h4 (i := 0) (by omega)
    obtain ⟨y, g3, g4⟩ := rd_at h4 (i := 1) (by omega)
    simp only [List.getElem?_cons_zero, Option.some.injEq] at g1
    simp only [List.getElem?_cons_succ, List.getElem?_cons_zero, Option.some.injEq] at g3
    subst g1 g3
    simp only [Nat.add_zero] at g2
    refine ⟨⟨a.b, a.lim, a.o + i * 2⟩, ?_, ?_, ?_, ?_, ?_, ?_⟩
    · show (bif Nat.blt i l.length then _ else none) = _
      have : Nat.blt i l.length = true := by simpa [Nat.blt_eq] using hlt
      rw [this]; rfl
    · simp only [oLoad, h4, cond_true]
    · simp only [oLoad, g2, cond_false]
    · simp only [oLoad, g4, cond_false]
    · simp only [aField, Nat.add_zero]
    · simp only [aField]
end Go.Abs.S
namespace Go.Abs.S
open Go.Abs Go.WideShapes Go.ChangeShapes
variable {H : Type} {enc : TypeId × Value → H}
theorem byte_wf {n : Int} (h : (Lit.int .u8 n).wf = true) : ((UInt8.ofNat n.toNat).toNat : Int) = n := by
  simp [Lit.wf, IntKind.min, IntKind.max, IntKind.signed, IntKind.bits] at h
  rw [UInt8.toNat_ofNat']
  omega
theorem arg_bytes {P : Program} {W : World} {base : Nat} {t e : TypeId} {v : Value} {d : DataW H} {p : List MemPlace} (ht : P.underlying t = some (.slice e)) (he : P.underlying e = some (.int .u8)) (hc : P.cellsOf e = 1)
    (hok : Value.okWide P W .any base t v) (h : DataW.Trod enc P W 0 (fun _ => true) true t v d p) :
    ∃ l : List UInt8, ArgS (heapW W).next (heapW W) (absW W v) (byts l) ∧ ((d = .nil ∧ l = []) ∨ ∃ el sp, d = .slice el sp ∧ el.length = l.length) ∧ (absW W v).one = true ∧ l.length ≤ maxLen := by
  obtain ⟨oa, len, cap, rfl⟩ := okWide_slice ht hok
  obtain ⟨fuel, hf⟩ := h
  rw [cells_slice _ rfl] at hf
  rcases open_ints ht he hc hf with ⟨h1, h2⟩ | ⟨a, len', cap', zs, h1, _, h3, h4, h5, h6, h7, h8⟩
  · simp only [List.cons.injEq, Value.slice.injEq, and_true] at h1
    obtain ⟨rfl, rfl, rfl⟩ := h1
    simp only [Prod.mk.injEq] at h2
    exact ⟨[], .inl ⟨by simp [absW, nilS], rfl⟩, .inl ⟨h2.1, rfl⟩, by simp [absW, AVal.one], by simp⟩
  · simp only [List.cons.injEq, Value.slice.injEq, and_true] at h1
    obtain ⟨rfl, rfl, rfl⟩ := h1
    simp only [if_true] at h5
    obtain ⟨q1, q2, n, q3, q4⟩ := okWide_room ht hok
    obtain ⟨c, off, spot⟩ := a
    simp only at q1 q3 q4
    subst q1
    simp only [Prod.mk.injEq] at h6
    have hlt : ((zs.take len).map fun n : Int => UInt8.ofNat n.toNat).length = len := by simp; omega
    have hcell : ∀ i, i < len → W.cell? ⟨c, off + i, none⟩ = some (.int .u8 (zs.getD i 0)) := fun i hi => by
      have := h7 i (by omega)
      rwa [add_none] at this
    have hb : off + len ≤ n := by
      by_cases h0 : len = 0
      · omega
      · obtain ⟨C, e', fz, g1, g2, _⟩ := objW_some q3
        have := hcell (len - 1) (by omega)
        rw [cell?_of g1] at this
        have := (Array.getElem?_eq_some_iff.1 this).1
        omega
    refine ⟨(zs.take len).map fun n : Int => UInt8.ofNat n.toNat, .inr ⟨⟨c, n, off⟩, cap, ?_, by rw [byts_len, hlt]; exact q2, ?_, ?_⟩, .inr ⟨_, _, h6.1, by simp [lits]⟩, ?_, by rw [hlt]; omega⟩
    · rw [byts_len, hlt]
      simp only [absW, q2, if_true, q3, q4]
    · obtain ⟨C, e', fz, g1, _, _⟩ := objW_some q3
      exact (Array.getElem?_eq_some_iff.1 g1).1
    · rw [byts_len, hlt]
      refine rd_world q3 hb (by rw [byts_len, hlt]) fun i hi => ⟨_, hcell i hi, ?_⟩
      simp only [absW]
      have hz : i < zs.length := by omega
      have hw := h8 zs[i] (List.getElem_mem hz)
      have hg : ((zs.take len).map fun n : Int => UInt8.ofNat n.toNat)[i]? = some (UInt8.ofNat zs[i].toNat) := by
        rw [List.getElem?_map, List.getElem?_take_of_lt hi, List.getElem?_eq_getElem hz]; rfl
      rw [byts_get hg, byte_wf hw]
      simp [List.getD, hz]
    · simp only [absW, q2, if_true, q3, q4, AVal.one]
end Go.Abs.S
namespace Go.Abs.S
open Go.Abs Go.WideShapes Go.ChangeShapes
variable {H : Type} {enc : TypeId × Value → H}
theorem cells_at {w : World} {b : Nat} {c off : Nat} {n : Nat} {cs : List Value} (h : w.cells? b ⟨c, off, none⟩ n = some cs) : cs.length = n ∧ ∀ i, i < n → w.cell? ⟨c, off + i, none⟩ = cs[i]? := by
  unfold World.cells? at h
  split at h
  · have key : ∀ (l : List Nat) (cs : List Value), l.mapM (fun i => w.cell? ((⟨c, off, none⟩ : Addr).add i)) = some cs → cs.length = l.length ∧ ∀ (i j : Nat), l[i]? = some j → w.cell? ((⟨c, off, none⟩ : Addr).add j) = cs[i]? := by
      intro l
      induction l with
      | nil => intro cs h; simp at h; subst h; simp
      | cons x l ih =>
        intro cs h
        simp only [List.mapM_cons] at h
        cases hx : w.cell? ((⟨c, off, none⟩ : Addr).add x) with
        | none => rw [hx] at h; simp at h
        | some v =>
          rw [hx] at h
          cases hr : l.mapM (fun i => w.cell? ((⟨c, off, none⟩ : Addr).add i)) with
          | none => rw [hr] at h; simp at h
          | some vs =>
            rw [hr] at h
            simp at h
            subst h
            obtain ⟨h1, h2⟩ := ih vs hr
            refine ⟨by simp [h1], fun i j hj => ?_⟩
            cases i with
            | zero => simp at hj; subst hj; simpa using hx
            | succ i => simpa using h2 i j (by simpa using hj)
    obtain ⟨h1, h2⟩ := key _ _ h
    refine ⟨by simpa using h1, fun i hi => ?_⟩
    have := h2 i i (by simp [hi])
    rwa [add_none] at this
  · simp at h
theorem arg_slice {P : Program} {W : World} {base : Nat} {t e : TypeId} {v : Value} {d : DataW H} {p : List MemPlace} (ht : P.underlying t = some (.slice e)) (hm : 0 < P.cellsOf e)
    (hok : Value.okWide P W .any base t v) (h : DataW.Trod enc P W 0 (fun _ => true) true t v d p) :
    (absW W v = nilS ∧ d = .nil) ∨ ∃ c n off len cap els sp, absW W v = .slice (some ⟨c, n, off⟩) len (.known cap) ∧ len ≤ cap ∧ cap ≤ maxLen ∧ c < W.heap.size ∧ d = .slice els sp ∧ els.length = len ∧
      ∀ i, i < len → ∃ cs k y, cs.length = P.cellsOf e ∧ rdCells (heapW W) ⟨c, n, off + i * P.cellsOf e⟩ (P.cellsOf e) = some (cs.map (absW W)) ∧ DataW.trod enc P W 0 (fun _ => true) true k e cs = some y ∧ els[i]? = some y.1 := by
  obtain ⟨oa, len, cap, rfl⟩ := okWide_slice ht hok
  obtain ⟨fuel, hf⟩ := h
  rw [cells_slice _ rfl] at hf
  rcases DataW.trod_slice ht hf with ⟨h1, h2⟩ | ⟨a, len', cap', elems, rest, n', _, h1, hx, _, h3, h4, h5, h6, _⟩
  · simp only [List.cons.injEq, Value.slice.injEq, and_true] at h1
    obtain ⟨rfl, rfl, rfl⟩ := h1
    simp only [Prod.mk.injEq] at h2
    exact .inl ⟨by simp [absW, nilS], h2.1⟩
  · simp only [List.cons.injEq, Value.slice.injEq, and_true] at h1
    obtain ⟨rfl, rfl, rfl⟩ := h1
    obtain ⟨q1, q2, n, q3, q4⟩ := okWide_room ht hok
    obtain ⟨c, off, spot⟩ := a
    simp only at q1 q3 q4
    subst q1
    simp only [Prod.mk.injEq] at hx
    refine .inr ⟨c, n, off, len, cap, _, _, by simp only [absW, q2, if_true, q3, q4], q2, h4, ?_, hx.1, by simpa using h5, fun i hi => ?_⟩
    · obtain ⟨C, e', fz, g1, _, _⟩ := objW_some q3
      exact (Array.getElem?_eq_some_iff.1 g1).1
    · have hE := h6 i hi
      have hei : elems[i]? = some (elems[i]'(by omega)) := List.getElem?_eq_getElem _
      rw [hei] at hE
      rw [add_none] at hE
      obtain ⟨cs, hc, ho⟩ := Option.bind_eq_some_iff.1 hE
      obtain ⟨l1, l2⟩ := cells_at hc
      refine ⟨cs, n', _, l1, ?_, ho, by simp [hei]⟩
      refine rd_world q3 ?_ (by simpa using l1) fun j hj => ?_
      · obtain ⟨C, e', fz, g1, g2, _⟩ := objW_some q3
        have := l2 (P.cellsOf e - 1) (by omega)
        rw [cell?_of g1] at this
        have hlt : P.cellsOf e - 1 < cs.length := by omega
        rw [List.getElem?_eq_getElem hlt] at this
        have := (Array.getElem?_eq_some_iff.1 this).1
        omega
      · have hlt : j < cs.length := by omega
        exact ⟨cs[j], by rw [l2 j hj, List.getElem?_eq_getElem hlt], by simp [hlt]⟩
end Go.Abs.S
namespace Go.Abs.S
open Go.Abs Go.WideShapes Go.ChangeShapes
variable {H : Type} {enc : TypeId × Value → H}
end Go.Abs.S
namespace Go.Abs.S
open Go.Abs
def AppN (m n : Nat) (H : AHeap) (s : AVal) (L : List AVal) (k : Nat) : Prop :=
  (s = nilS ∧ L = [] ∧ k = 0) ∨ ∃ b low, s = .slice (some ⟨b, L.length, 0⟩) k (.open_ m) ∧ L.length = m * k ∧ n ≤ b ∧ b < H.next ∧ H.get b = some (.cells L low false) ∧ low ≤ L.length ∧ 0 < k
theorem AppN.nil (m n : Nat) (H : AHeap) : AppN m n H nilS [] 0 := .inl ⟨rfl, rfl, rfl⟩
theorem AppN.len {m n k : Nat} {H : AHeap} {s : AVal} {L : List AVal} (h : AppN m n H s L k) : aLenK false s = some (.int .i64 (k : Int)) := by
  rcases h with ⟨rfl, _, rfl⟩ | ⟨b, low, rfl, _⟩ <;> rfl
theorem AppN.blk {m n k : Nat} {H : AHeap} {s : AVal} {L : List AVal} (h : AppN m n H s L k) : ∀ a j r, s = .slice (some a) j r → a.b < H.next := by
  intro a j r he
  rcases h with ⟨rfl, _⟩ | ⟨b, low, rfl, _, _, h4, _⟩
  · simp [nilS] at he
  · simp only [AVal.slice.injEq, Option.some.injEq] at he
    rw [← he.1]; exact h4
def oneM (H : AHeap) (m : Nat) : AVal := .slice (some ⟨H.next, m, 0⟩) 1 (.known 1)
theorem buildM {m : Nat} {z xs : List AVal} (H : AHeap) (hz : z.length = m) (hx : xs.length = m) : aBuildSl 1 z H [(0, m, .agg xs)] = some (oneM H m, H.push (.cells xs 0 false)) := by
  subst hz
  have hb : Nat.beq xs.length z.length = true := by rw [hx]; exact Nat.beq_refl _
  simp only [aBuildSl, rep, List.append_nil, aFill, cells_agg, hx, Nat.beq_refl, Nat.zero_add, Nat.ble_eq_true_of_le (Nat.le_refl _), Bool.and_self, cond_true, splice, List.take_zero, List.nil_append, List.drop_length, List.append_nil, oneM]
theorem srcM {m : Nat} {xs : List AVal} (H : AHeap) (hx : xs.length = m) : aSrc m (H.push (.cells xs 0 false)) (oneM H m) = some (1, xs) := by
  subst hx
  have := rd_whole (H := H.push (.cells xs 0 false)) (b := H.next) (l := xs) (low := 0) (ro := false) (by rw [AHeap.get_push, if_pos rfl]) (Nat.zero_le _)
  simp only [aSrc, oneM, Nat.one_mul, this]
theorem AppN.push {m n k : Nat} {H : AHeap} {s : AVal} {L : List AVal} (h : AppN m n H s L k) (hn : n ≤ H.next) {xs : List AVal} (hx : xs.length = m) (ho : xs.all AVal.one = true) (hm : 0 < m) {bytes : Nat} (hb : 2 * (k + 1) * bytes ≤ 281474976710656) (hb1 : 0 < bytes) :
    ∃ s' H', aAppend m bytes (H.push (.cells xs 0 false)) s (oneM H m) = some (s', H') ∧ AppN m n H' s' (L ++ xs) (k + 1) ∧ Ext n H H' ∧ ∀ c, c < H.next → (∀ a j r, s = .slice (some a) j r → c ≠ a.b) → H'.get c = H.get c := by
  have hlen : k + 1 ≤ 9223372036854775807 := by
    have : 2 * (k + 1) ≤ 2 * (k + 1) * bytes := Nat.le_mul_of_pos_right _ hb1
    omega
  have hlt : Nat.blt 0 m = true := by simpa [Nat.blt_eq] using hm
  have c1 : ∀ j, j = k → (Nat.blt 0 m && (Nat.ble ((2 * (j + 1) + 0) * bytes) 281474976710656 && (Nat.ble (j + 1) 9223372036854775807 && (Nat.beq xs.length (1 * m) && xs.all AVal.one)))) = true := by
    intro j hj
    subst hj
    simp only [Nat.add_zero, Nat.ble_eq_true_of_le hb, Nat.ble_eq_true_of_le hlen, hx, Nat.one_mul, Nat.beq_refl, ho, hlt, Bool.and_self]
  rcases h with ⟨rfl, rfl, rfl⟩ | ⟨b, low, rfl, h2, h3, h4, h5, h6, h7⟩
  · refine ⟨.slice (some ⟨H.next + 1, m, 0⟩) 1 (.open_ m), (H.push (.cells xs 0 false)).push (.cells xs 0 false), ?_, .inr ⟨H.next + 1, 0, by simp [hx], by simp [hx], by omega, Nat.lt_succ_self _, ?_, Nat.zero_le _, by omega⟩, ((Ext.refl n H).push hn _).push (by rw [push_next]; omega) _, fun c hc _ => by rw [AHeap.get_push, if_neg (by rw [push_next]; omega), get_push_lt hc]⟩
    · simp only [aAppend, srcM H hx, nilS]
      rw [show Nat.beq 1 0 = false from rfl, cond_false, c1 0 rfl, cond_true, hx]
      rfl
    · rw [AHeap.get_push]; exact if_pos rfl
  · have hg : (H.push (.cells xs 0 false)).get b = some (.cells L low false) := by rw [AHeap.get_push, if_neg (by omega)]; exact h5
    have hgrow : growCells (H.push (.cells xs 0 false)) ⟨b, L.length, 0⟩ L.length xs = some ((H.push (.cells xs 0 false)).set b (.cells (L ++ xs) low false)) := by
      unfold growCells
      simp only [hg, Nat.ble_eq_true_of_le h6, Nat.ble_eq_true_of_le (Nat.le_refl _), Nat.ble_eq_true_of_le (Nat.zero_le _), Nat.ble_eq_true_of_le (show L.length + 1 ≤ L.length + xs.length by omega), Nat.beq_refl, ho, Bool.and_self, cond_true, List.take_length]
    refine ⟨.slice (some ⟨b, L.length + m, 0⟩) (k + 1) (.open_ m), (H.push (.cells xs 0 false)).set b (.cells (L ++ xs) low false), ?_, .inr ⟨b, low, by simp [hx], by rw [List.length_append, h2, hx, Nat.mul_add, Nat.mul_one], h3, by rw [set_next, push_next]; omega, by rw [AHeap.get_set, if_pos rfl], by simp; omega, by omega⟩, ((Ext.refl n H).push hn _).set h3 _, fun c hc hd => by rw [AHeap.get_set, if_neg (hd _ _ _ rfl), get_push_lt hc]⟩
    have e0 : 0 + k * m = L.length := by rw [h2, Nat.mul_comm]; omega
    have e1 : Nat.ble (0 + (k + 1) * m) L.length = false := by
      rw [ble_dec]; refine decide_eq_false ?_
      rw [Nat.add_mul, Nat.one_mul]; omega
    simp only [aAppend, srcM H hx]
    rw [show Nat.beq 1 0 = false from rfl, cond_false, c1 k rfl, cond_true]
    simp only [Nat.beq_refl, cond_true, e1, cond_false, e0, hgrow, hx]
theorem idxM {b lim k m : Nat} (K : IntKind) {i : Nat} (h : i < k) : aIdxA m (.slice (some ⟨b, lim, 0⟩) k (.open_ m)) (.int K (i : Int)) = some (cellR b lim (i * m)) := by
  show (bif Nat.blt i k then some (AVal.ptr (some ⟨b, lim, 0 + i * m⟩)) else none) = _
  have : Nat.blt i k = true := by simpa [Nat.blt_eq] using h
  rw [this, Nat.zero_add]; rfl
end Go.Abs.S
namespace Go.Abs.S
open Go.Abs
def Blk (v : AVal) (P : Nat → Prop) : Prop := ∀ a m r, v = .slice (some a) m r → P a.b
theorem Blk.mono {v : AVal} {P Q : Nat → Prop} (h : Blk v P) (k : ∀ b, P b → Q b) : Blk v Q := fun a m r e => k _ (h a m r e)
theorem isE_blk {s : AVal} (h : isE s = true) (P : Nat → Prop) : Blk s P := by
  rcases isE_cases h with rfl | ⟨a, rfl⟩ <;> (intro a m r e; simp [nilS] at e)
theorem blk_nil (P : Nat → Prop) : Blk nilS P := by intro a m r h; simp [nilS] at h
theorem blk_some {a : Ad} {m : Nat} {r : Room} {P : Nat → Prop} (h : P a.b) : Blk (.slice (some a) m r) P := by
  intro a' m' r' e
  simp only [AVal.slice.injEq, Option.some.injEq] at e
  rw [← e.1]; exact h
theorem Blk.and {v : AVal} {P Q : Nat → Prop} (h : Blk v P) (k : Blk v Q) : Blk v fun b => P b ∧ Q b := fun a m r e => ⟨h a m r e, k a m r e⟩
theorem rd_row {H : AHeap} {b n : Nat} {l : List AVal} (h : Row H b l) (hn : l.length = n) {i k : Nat} (hik : i + k ≤ n) : rdCells H ⟨b, n, i⟩ k = some ((l.drop i).take k) := by
  subst hn
  obtain ⟨low, h1, h2⟩ := h
  unfold rdCells
  simp only [h1, Nat.ble_eq_true_of_le h2, Nat.ble_eq_true_of_le (Nat.le_refl _), Nat.ble_eq_true_of_le hik, Bool.and_self, cond_true]
theorem row_loadK {H : AHeap} {b n : Nat} {l : List AVal} (h : Row H b l) (hn : l.length = n) {i k : Nat} (hik : i + k ≤ n) : oLoad true k H (cellR b n i) = some (.agg ((l.drop i).take k)) := by
  simp only [oLoad, cellR, rd_row h hn hik, cond_true]
theorem row_storeK {H : AHeap} {b n : Nat} {l : List AVal} (h : Row H b l) (hn : l.length = n) {i k : Nat} (hik : i + k ≤ n) {xs : List AVal} (hx : xs.length = k) (ho : xs.all AVal.one = true) :
    ∃ H', oStore k H (cellR b n i) (.agg xs) = some H' ∧ Row H' b (l.take i ++ (xs ++ l.drop (i + k))) ∧ H'.next = H.next ∧ ∀ c, c ≠ b → H'.get c = H.get c := by
  subst hn hx
  obtain ⟨low, h1, h2⟩ := h
  refine ⟨H.set b (.cells (l.take i ++ (xs ++ l.drop (i + xs.length))) l.length false), ?_, ⟨l.length, by rw [AHeap.get_set, if_pos rfl], by simp; omega⟩, rfl, fun c hc => by rw [AHeap.get_set, if_neg hc]⟩
  simp only [oStore, cellR, cells_agg, Nat.beq_refl, cond_true]
  unfold wrCells
  simp only [h1, Nat.ble_eq_true_of_le h2, Nat.beq_refl, Nat.ble_eq_true_of_le hik, ho, Bool.and_self, cond_true]
theorem fldA (b n i o : Nat) : aField o (cellR b n i) = some (cellR b n (i + o)) := _root_.id rfl
theorem nil_cell (b n i : Nat) : aNilChk (cellR b n i) = some (cellR b n i) := _root_.id rfl
theorem eq_ptr (b n i j : Nat) : aPf (.eqv false .ptr) [cellR b n i, cellR b n j] = some (.bool (Nat.beq i j)) := by
  show (match (bif Nat.beq b b && Nat.beq n n then some (Nat.beq i j) else none) with | some c => some (AVal.bool (bif false then !c else c)) | none => none) = _
  simp only [Nat.beq_refl, Bool.and_self, cond_true, cond_false]
theorem ne_ptr_nil (b n i : Nat) : aPf (.eqv true .ptr) [cellR b n i, .ptr none] = some (.bool true) := _root_.id rfl
def Lin (H : AHeap) (v : AVal) (s : List UInt8) : Prop :=
  (v = nilS ∧ s = []) ∨ ∃ b lim low L, v = .slice (some ⟨b, lim, 0⟩) s.length (.open_ 1) ∧ H.get b = some (.cells L low false) ∧ low ≤ lim ∧ lim = L.length ∧ L.take s.length = byts s ∧ s.length ≤ lim ∧ b < H.next
theorem Lin.nil (H : AHeap) : Lin H nilS [] := .inl ⟨rfl, rfl⟩
theorem Lin.len {H : AHeap} {v : AVal} {s : List UInt8} (h : Lin H v s) : aLenK false v = some (.int .i64 (s.length : Int)) := by
  rcases h with ⟨rfl, rfl⟩ | ⟨b, lim, low, L, rfl, _⟩ <;> rfl
theorem Lin.one {H : AHeap} {v : AVal} {s : List UInt8} (h : Lin H v s) : v.one = true := by
  rcases h with ⟨rfl, rfl⟩ | ⟨b, lim, low, L, rfl, _⟩ <;> rfl
theorem Lin.blk {H : AHeap} {v : AVal} {s : List UInt8} (h : Lin H v s) : Blk v (· < H.next) := by
  rcases h with ⟨rfl, _⟩ | ⟨b, lim, low, L, rfl, _, _, _, _, _, h7⟩
  · exact blk_nil _
  · exact blk_some h7
theorem Lin.same {H H' : AHeap} {v : AVal} {s : List UInt8} (h : Lin H v s) (hn : H.next ≤ H'.next) (e : Blk v fun b => H'.get b = H.get b) : Lin H' v s := by
  rcases h with h | ⟨b, lim, low, L, rfl, h2, h3, h4, h5, h6, h7⟩
  · exact .inl h
  · exact .inr ⟨b, lim, low, L, rfl, (e _ _ _ rfl).trans h2, h3, h4, h5, h6, by omega⟩
theorem Lin.cel {H : AHeap} {v : AVal} {s : List UInt8} {n : Nat} (h : Lin H v s) (hb : Blk v (· < n)) : Cel n H v (byts s) := by
  rcases h with ⟨rfl, rfl⟩ | ⟨b, lim, low, L, rfl, h2, h3, rfl, h5, h6, h7⟩
  · exact .inl ⟨rfl, rfl⟩
  · refine .inr ⟨⟨b, L.length, 0⟩, .open_ 1, by rw [byts_len], hb _ _ _ rfl, ?_⟩
    unfold rdCells
    simp only [h2, Nat.ble_eq_true_of_le h3, Nat.ble_eq_true_of_le (Nat.le_refl _), byts_len, Nat.zero_add, Nat.ble_eq_true_of_le h6, Bool.and_self, cond_true, List.drop_zero, h5]
theorem Lin.str {H : AHeap} {v : AVal} {s : List UInt8} (h : Lin H v s) : aBS H v = some (.str s) := bs_cel (h.cel h.blk)
theorem Lin.take {H : AHeap} {v : AVal} {s : List UInt8} (h : Lin H v s) {k : Nat} (hk : k ≤ s.length) : ∃ v', aSl 1 v none (some (.int .i64 (k : Int))) none = some v' ∧ Lin H v' (s.take k) ∧ ∀ P, Blk v P → Blk v' P := by
  have hbd : ∀ c, k ≤ c → aBnd s.length c none (some (.int .i64 (k : Int))) none = some (0, k, none) := by
    intro c hc
    show (match bdO (some (AVal.int .i64 (Int.ofNat k))) c s.length with | some h => (match bdO none h 0 with | some l => some (l, h, none) | none => none) | none => none) = _
    simp only [bdO, bd, Nat.ble_eq_true_of_le hc, cond_true]
  rcases h with ⟨rfl, rfl⟩ | ⟨b, lim, low, L, rfl, h2, h3, h4, h5, h6, h7⟩
  · obtain rfl : k = 0 := by simpa using hk
    exact ⟨nilS, rfl, .inl ⟨rfl, rfl⟩, fun P h => h⟩
  · have hlt : (s.take k).length = k := by simp; omega
    refine ⟨.slice (some ⟨b, lim, 0⟩) k (.open_ 1), ?_, .inr ⟨b, lim, low, L, by rw [hlt], h2, h3, h4, ?_, by omega, h7⟩, fun P h => blk_some (h _ _ _ rfl)⟩
    · simp only [aSl, Nat.beq_refl, cond_true, Nat.sub_zero, Nat.div_one, hbd lim (by omega), Nat.zero_add, Nat.mul_one, Nat.ble_eq_true_of_le (show k ≤ lim by omega), Nat.zero_mul]
    · rw [hlt]
      have : L.take k = (L.take s.length).take k := by rw [List.take_take, Nat.min_eq_left hk]
      rw [this, h5]
      simp [byts]
theorem Lin.idx {H : AHeap} {v : AVal} {s : List UInt8} (h : Lin H v s) {i : Nat} {c : UInt8} (hi : s[i]? = some c) : ∃ a, aIdxA 1 v (.int .i64 (i : Int)) = some a ∧ oLoad false 1 H a = some (.int .u8 (c.toNat : Int)) := by
  have hlt := (List.getElem?_eq_some_iff.1 hi).1
  have hc := h.cel h.blk
  exact ⟨_, hc.idx .i64 (by rw [byts_len]; exact hlt), hc.load (byts_get hi)⟩
theorem Lin.push {H : AHeap} {v : AVal} {s : List UInt8} (h : Lin H v s) (c : UInt8) (hs : s.length ≤ 100000000) :
    ∃ v' H', aAppend 1 1 (H.push (.cells [.int .u8 (c.toNat : Int)] 0 false)) v (oneS H) = some (v', H') ∧ Lin H' v' (s ++ [c]) ∧ H.next ≤ H'.next ∧ (∀ P, Blk v P → Blk v' fun b => P b ∨ H.next ≤ b) ∧ ∀ b, b < H.next → Blk v (b ≠ ·) → H'.get b = H.get b := by
  have hone : (AVal.int .u8 (c.toNat : Int)).one = true := rfl
  have c1 : ∀ k, k = s.length → (Nat.blt 0 1 && (Nat.ble ((2 * (k + 1) + 0) * 1) 281474976710656 && (Nat.ble (k + 1) 9223372036854775807 && (Nat.beq [AVal.int .u8 (c.toNat : Int)].length (1 * 1) && [AVal.int .u8 (c.toNat : Int)].all AVal.one)))) = true := by
    intro k hk
    subst hk
    simp only [Nat.add_zero, Nat.mul_one, Nat.ble_eq_true_of_le (show 2 * (s.length + 1) ≤ 281474976710656 by omega), Nat.ble_eq_true_of_le (show s.length + 1 ≤ 9223372036854775807 by omega), List.all_cons, List.all_nil, hone]
    rfl
  have hb : byts (s ++ [c]) = byts s ++ [.int .u8 (c.toNat : Int)] := by simp [byts]
  rcases h with ⟨rfl, rfl⟩ | ⟨b, lim, low, L, rfl, h2, h3, rfl, h5, h6, h7⟩
  · refine ⟨.slice (some ⟨H.next + 1, 1, 0⟩) 1 (.open_ 1), (H.push (.cells [.int .u8 (c.toNat : Int)] 0 false)).push (.cells [.int .u8 (c.toNat : Int)] 0 false), ?_, .inr ⟨H.next + 1, 1, 0, [.int .u8 (c.toNat : Int)], rfl, ?_, Nat.zero_le _, rfl, rfl, Nat.le_refl _, Nat.lt_succ_self _⟩, by simp only [push_next]; omega, fun P _ => blk_some (.inr (Nat.le_succ _)), fun b hb _ => by rw [AHeap.get_push, if_neg (by rw [push_next]; omega), get_push_lt hb]⟩
    · simp only [aAppend, src1, nilS]
      rw [show Nat.beq 1 0 = false from rfl, cond_false, c1 0 rfl, cond_true]
      rfl
    · rw [AHeap.get_push]; exact if_pos rfl
  · have hg : (H.push (.cells [.int .u8 (c.toNat : Int)] 0 false)).get b = some (.cells L low false) := by rw [AHeap.get_push, if_neg (by omega)]; exact h2
    have hfr : ∀ (o : AObj) (b' : Nat), b' < H.next → Blk (AVal.slice (some ⟨b, L.length, 0⟩) s.length (.open_ 1)) (b' ≠ ·) → ((H.push (.cells [.int .u8 (c.toNat : Int)] 0 false)).set b o).get b' = H.get b' := fun o b' h1 h2 => by
      rw [AHeap.get_set, if_neg (h2 _ _ _ rfl), get_push_lt h1]
    by_cases hin : s.length + 1 ≤ L.length
    · have hw : wrCells (H.push (.cells [.int .u8 (c.toNat : Int)] 0 false)) ⟨b, L.length, s.length⟩ [.int .u8 (c.toNat : Int)] = some ((H.push (.cells [.int .u8 (c.toNat : Int)] 0 false)).set b (.cells (L.take s.length ++ ([.int .u8 (c.toNat : Int)] ++ L.drop (s.length + 1))) L.length false)) := by
        unfold wrCells
        simp only [hg, Nat.ble_eq_true_of_le h3, Nat.beq_refl, List.length_cons, List.length_nil, Nat.zero_add, Nat.ble_eq_true_of_le hin, List.all_cons, List.all_nil, hone, Bool.and_self, cond_true]
      refine ⟨.slice (some ⟨b, L.length, 0⟩) (s.length + 1) (.open_ 1), _, ?_, .inr ⟨b, L.length, L.length, L.take s.length ++ ([.int .u8 (c.toNat : Int)] ++ L.drop (s.length + 1)), by simp, by rw [AHeap.get_set, if_pos rfl], Nat.le_refl _, by simp; omega, ?_, by simp; omega, by rw [set_next, push_next]; omega⟩, by rw [set_next, push_next]; omega, fun P hP => (have hP2 : P b := hP _ _ _ rfl; blk_some (.inl hP2)), hfr _⟩
      · simp only [aAppend, src1]
        rw [show Nat.beq 1 0 = false from rfl, cond_false, c1 s.length rfl, cond_true]
        simp only [Nat.beq_refl, cond_true, Nat.zero_add, Nat.mul_one, Nat.ble_eq_true_of_le hin, hw]
      · rw [hb, ← h5]
        have e : (s ++ [c]).length = (L.take s.length ++ [AVal.int .u8 (c.toNat : Int)]).length := by simp; omega
        rw [← List.append_assoc, e, List.take_left]
    · have he : s.length = L.length := by omega
      have hL : L = byts s := by rw [← h5, he, List.take_length]
      have hgrow : growCells (H.push (.cells [.int .u8 (c.toNat : Int)] 0 false)) ⟨b, L.length, 0⟩ L.length [.int .u8 (c.toNat : Int)] = some ((H.push (.cells [.int .u8 (c.toNat : Int)] 0 false)).set b (.cells (L ++ [.int .u8 (c.toNat : Int)]) low false)) := by
        unfold growCells
        simp only [hg, Nat.ble_eq_true_of_le h3, Nat.ble_eq_true_of_le (Nat.le_refl _), Nat.ble_eq_true_of_le (Nat.zero_le _), Nat.beq_refl, List.length_cons, List.length_nil, Nat.zero_add, List.all_cons, List.all_nil, hone, Bool.and_self, cond_true, List.take_length]
      refine ⟨.slice (some ⟨b, L.length + 1, 0⟩) (L.length + 1) (.open_ 1), _, ?_, .inr ⟨b, L.length + 1, low, L ++ [.int .u8 (c.toNat : Int)], by simp [he], by rw [AHeap.get_set, if_pos rfl], by omega, by simp, ?_, by simp; omega, by rw [set_next, push_next]; omega⟩, by rw [set_next, push_next]; omega, fun P hP => (have hP2 : P b := hP _ _ _ rfl; blk_some (.inl hP2)), hfr _⟩
      · simp only [aAppend, src1]
        rw [show Nat.beq 1 0 = false from rfl, cond_false, c1 s.length rfl, cond_true, he]
        have e1 : Nat.ble (L.length + 1) L.length = false := by rw [ble_dec]; exact decide_eq_false (by omega)
        simp only [Nat.beq_refl, cond_true, Nat.zero_add, Nat.mul_one, e1, cond_false, hgrow, List.length_cons, List.length_nil]
      · rw [hb, ← hL, List.take_of_length_le (by simp; omega)]
def prC (l : List (List UInt8 × List UInt8)) : List AVal := l.flatMap fun p => [.str p.1, .str p.2]
theorem prC_snoc (l : List (List UInt8 × List UInt8)) (p : List UInt8 × List UInt8) : prC (l ++ [p]) = prC l ++ [.str p.1, .str p.2] := by simp [prC]
theorem prC_at {l : List (List UInt8 × List UInt8)} {i : Nat} {p : List UInt8 × List UInt8} (h : l[i]? = some p) : ((prC l).drop (i * 2)).take 2 = [.str p.1, .str p.2] := by
  induction l generalizing i with
  | nil => simp at h
  | cons q l ih =>
    cases i with
    | zero => simp at h; subst h; simp [prC]
    | succ i =>
      have := ih (by simpa using h)
      have e : (i + 1) * 2 = i * 2 + 2 := by omega
      rw [e]
      simpa [prC] using this
theorem AppN.blk' {m n k : Nat} {H : AHeap} {s : AVal} {L : List AVal} (h : AppN m n H s L k) : Blk s (· < H.next) := fun a j r e => h.blk a j r e
theorem AppN.prs {n : Nat} {H : AHeap} {v : AVal} {l : List (List UInt8 × List UInt8)} (h : AppN 2 0 H v (prC l) l.length) (hb : Blk v (· < n)) : Prs n H v l := by
  rcases h with ⟨h1, _, h3⟩ | ⟨b, low, rfl, h2, h3, h4, h5, h6, h7⟩
  · exact .inl ⟨h1, List.length_eq_zero_iff.1 h3⟩
  · refine .inr ⟨⟨b, (prC l).length, 0⟩, .open_ 2, rfl, hb _ _ _ rfl, fun i p hp => ?_⟩
    have hlt := (List.getElem?_eq_some_iff.1 hp).1
    have := rd_row ⟨low, h5, h6⟩ rfl (i := 0 + i * 2) (k := 2) (by rw [h2]; omega)
    simp only [Nat.zero_add] at this ⊢
    rw [this, prC_at hp]
theorem AppN.same {m n k : Nat} {H H' : AHeap} {s : AVal} {L : List AVal} (h : AppN m n H s L k) (hn : H.next ≤ H'.next) (e : Blk s fun b => H'.get b = H.get b) : AppN m n H' s L k := by
  rcases h with h | ⟨b, low, rfl, h2, h3, h4, h5, h6, h7⟩
  · exact .inl h
  · exact .inr ⟨b, low, rfl, h2, h3, by omega, (e _ _ _ rfl).trans h5, h6, h7⟩
theorem AppN.one {m n k : Nat} {H : AHeap} {s : AVal} {L : List AVal} (h : AppN m n H s L k) : s.one = true := by
  rcases h with ⟨rfl, _⟩ | ⟨b, low, rfl, _⟩ <;> rfl
theorem AppN.pushB {m k : Nat} {H : AHeap} {s : AVal} {L : List AVal} (h : AppN m 0 H s L k) {xs : List AVal} (hx : xs.length = m) (ho : xs.all AVal.one = true) (hm : 0 < m) {bytes : Nat} (hb : 2 * (k + 1) * bytes ≤ 281474976710656) (hb1 : 0 < bytes) :
    ∃ s' H', aAppend m bytes (H.push (.cells xs 0 false)) s (oneM H m) = some (s', H') ∧ AppN m 0 H' s' (L ++ xs) (k + 1) ∧ H.next ≤ H'.next ∧ (∀ P, Blk s P → Blk s' fun b => P b ∨ H.next ≤ b) ∧ ∀ c, c < H.next → Blk s (c ≠ ·) → H'.get c = H.get c := by
  rcases h with ⟨rfl, rfl, rfl⟩ | ⟨b, low, rfl, h2, h3, h4, h5, h6, h7⟩
  · obtain ⟨s', H', h1, h2, h3, h4⟩ := (AppN.nil m H.next H).push (Nat.le_refl _) hx ho hm hb hb1
    refine ⟨s', H', h1, ?_, h3.next, fun P _ => ?_, fun c hc _ => h3.old c hc⟩
    · rcases h2 with h2 | ⟨b, low, e1, e2, e3, e4, e5, e6, e7⟩
      · exact .inl h2
      · exact .inr ⟨b, low, e1, e2, Nat.zero_le _, e4, e5, e6, e7⟩
    · rcases h2 with ⟨_, _, h2⟩ | ⟨b, low, rfl, e2, e3, e4, e5, e6, e7⟩
      · omega
      · exact blk_some (.inr e3)
  · have h0 : AppN m 0 H (.slice (some ⟨b, L.length, 0⟩) k (.open_ m)) L k := .inr ⟨b, low, rfl, h2, h3, h4, h5, h6, h7⟩
    have hb' : AppN m b H (.slice (some ⟨b, L.length, 0⟩) k (.open_ m)) L k := .inr ⟨b, low, rfl, h2, Nat.le_refl _, h4, h5, h6, h7⟩
    have hlen : k + 1 ≤ 9223372036854775807 := by
      have : 2 * (k + 1) ≤ 2 * (k + 1) * bytes := Nat.le_mul_of_pos_right _ hb1
      omega
    have hlt : Nat.blt 0 m = true := by simpa [Nat.blt_eq] using hm
    have c1 : (Nat.blt 0 m && (Nat.ble ((2 * (k + 1) + 0) * bytes) 281474976710656 && (Nat.ble (k + 1) 9223372036854775807 && (Nat.beq xs.length (1 * m) && xs.all AVal.one)))) = true := by
      simp only [Nat.add_zero, Nat.ble_eq_true_of_le hb, Nat.ble_eq_true_of_le hlen, hx, Nat.one_mul, Nat.beq_refl, ho, hlt, Bool.and_self]
    have hg : (H.push (.cells xs 0 false)).get b = some (.cells L low false) := by rw [AHeap.get_push, if_neg (by omega)]; exact h5
    have hgrow : growCells (H.push (.cells xs 0 false)) ⟨b, L.length, 0⟩ L.length xs = some ((H.push (.cells xs 0 false)).set b (.cells (L ++ xs) low false)) := by
      unfold growCells
      simp only [hg, Nat.ble_eq_true_of_le h6, Nat.ble_eq_true_of_le (Nat.le_refl _), Nat.ble_eq_true_of_le (Nat.zero_le _), Nat.ble_eq_true_of_le (show L.length + 1 ≤ L.length + xs.length by omega), Nat.beq_refl, ho, Bool.and_self, cond_true, List.take_length]
    have e0 : 0 + k * m = L.length := by rw [h2, Nat.mul_comm]; omega
    have e1 : Nat.ble (0 + (k + 1) * m) L.length = false := by
      rw [ble_dec]; refine decide_eq_false ?_
      rw [Nat.add_mul, Nat.one_mul]; omega
    refine ⟨.slice (some ⟨b, L.length + m, 0⟩) (k + 1) (.open_ m), (H.push (.cells xs 0 false)).set b (.cells (L ++ xs) low false), ?_, .inr ⟨b, low, by simp [hx], by rw [List.length_append, h2, hx, Nat.mul_add, Nat.mul_one], Nat.zero_le _, by rw [set_next, push_next]; omega, by rw [AHeap.get_set, if_pos rfl], by simp; omega, by omega⟩, by rw [set_next, push_next]; omega, fun P hP => (have hP2 : P b := hP _ _ _ rfl; blk_some (.inl hP2)), fun c hc hd => by rw [AHeap.get_set, if_neg (hd _ _ _ rfl), get_push_lt hc]⟩
    simp only [aAppend, srcM H hx]
    rw [show Nat.beq 1 0 = false from rfl, cond_false, c1, cond_true]
    simp only [Nat.beq_refl, cond_true, e1, cond_false, e0, hgrow, hx]
end Go.Abs.S
namespace Go.Abs.S
open Go.Abs
def GrN (m n : Nat) (H : AHeap) (s : AVal) (L : List AVal) (k : Nat) : Prop :=
  AppN m n H s L k ∨ ∃ b cap low C, s = .slice (some ⟨b, C.length, 0⟩) k (.known cap) ∧ H.get b = some (.cells C low false) ∧ low ≤ C.length ∧ C.length = cap * m ∧ C.take (k * m) = L ∧ L.length = k * m ∧ k ≤ cap ∧ b < H.next ∧ n ≤ b
theorem GrN.make {m bytes cap : Nat} {z : List AVal} (H : AHeap) (hz : z.length = m) (hb : bytes * cap ≤ 281474976710656) (hc : cap ≤ 1000000) {n : Nat} (hn : n ≤ H.next) :
    ∃ s H', aMake bytes z H (.int .i64 (0 : Int)) (.int .i64 (cap : Int)) = some (s, H') ∧ GrN m n H' s [] 0 ∧ Ext H.next H H' ∧ H'.next = H.next + 1 ∧ Blk s (· = H.next) := by
  have hr : (rep z cap).length = cap * m := by
    clear hb hc
    induction cap with
    | zero => simp [rep]
    | succ k ih => simp only [rep, List.length_append, ih, hz, Nat.add_mul]; omega
  refine ⟨.slice (some ⟨H.next, (rep z cap).length, 0⟩) 0 (.known cap), H.push (.cells (rep z cap) 0 false), ?_, .inr ⟨H.next, cap, 0, rep z cap, rfl, by rw [AHeap.get_push, if_pos rfl], Nat.zero_le _, hr, by simp, by simp, Nat.zero_le _, Nat.lt_succ_self _, hn⟩, (Ext.refl _ H).push (Nat.le_refl _) _, rfl, blk_some rfl⟩
  have h0 : natOf (.int .i64 (0 : Int)) = some 0 := rfl
  have h1 : natOf (.int .i64 (cap : Int)) = some cap := by
    show natOf (.int .i64 (Int.ofNat cap)) = some cap
    simp only [natOf, Nat.ble_eq_true_of_le (show cap ≤ 9223372036854775807 by omega), cond_true]
  simp only [aMake, h0, h1, Nat.ble_eq_true_of_le (Nat.zero_le _), Nat.ble_eq_true_of_le hb, Bool.and_self, cond_true]
theorem GrN.len {m n k : Nat} {H : AHeap} {s : AVal} {L : List AVal} (h : GrN m n H s L k) : aLenK false s = some (.int .i64 (k : Int)) := by
  rcases h with h | ⟨b, cap, low, C, rfl, _⟩
  · exact h.len
  · rfl
theorem GrN.same {m k : Nat} {H H' : AHeap} {s : AVal} {L : List AVal} (h : GrN m 0 H s L k) (hn : H.next ≤ H'.next) (e : Blk s fun c => H'.get c = H.get c) : GrN m 0 H' s L k := by
  rcases h with h | ⟨b, cap, low, C, rfl, h2, h3, h4, h5, h6, h7, h8, h9⟩
  · exact .inl (h.same hn e)
  · exact .inr ⟨b, cap, low, C, rfl, (e _ _ _ rfl).trans h2, h3, h4, h5, h6, h7, by omega, h9⟩
theorem GrN.blk {m n k : Nat} {H : AHeap} {s : AVal} {L : List AVal} (h : GrN m n H s L k) : Blk s (· < H.next) := by
  rcases h with h | ⟨b, cap, low, C, rfl, h2, h3, h4, h5, h6, h7, h8, h9⟩
  · exact h.blk'
  · exact blk_some h8
theorem GrN.push {m k : Nat} {H : AHeap} {s : AVal} {L : List AVal} (h : GrN m 0 H s L k) {xs : List AVal} (hx : xs.length = m) (ho : xs.all AVal.one = true) (hm : 0 < m) {bytes : Nat} (hb : 2 * (k + 1) * bytes ≤ 281474976710656) (hb1 : 0 < bytes) :
    ∃ s' H', aAppend m bytes (H.push (.cells xs 0 false)) s (oneM H m) = some (s', H') ∧ GrN m 0 H' s' (L ++ xs) (k + 1) ∧ H.next ≤ H'.next ∧ (∀ P, Blk s P → Blk s' fun b => P b ∨ H.next ≤ b) ∧ ∀ c, c < H.next → Blk s (c ≠ ·) → H'.get c = H.get c := by
  rcases h with h | ⟨b, cap, low, C, rfl, h2, h3, h4, h5, h6, h7, h8, h9⟩
  · obtain ⟨s', H', e1, e2, e3, e4, e5⟩ := h.pushB hx ho hm hb hb1
    exact ⟨s', H', e1, .inl e2, e3, e4, e5⟩
  · have hlen : k + 1 ≤ 9223372036854775807 := by
      have : 2 * (k + 1) ≤ 2 * (k + 1) * bytes := Nat.le_mul_of_pos_right _ hb1
      omega
    have hlt : Nat.blt 0 m = true := by simpa [Nat.blt_eq] using hm
    have c1 : (Nat.blt 0 m && (Nat.ble ((2 * (k + 1) + 0) * bytes) 281474976710656 && (Nat.ble (k + 1) 9223372036854775807 && (Nat.beq xs.length (1 * m) && xs.all AVal.one)))) = true := by
      simp only [Nat.add_zero, Nat.ble_eq_true_of_le hb, Nat.ble_eq_true_of_le hlen, hx, Nat.one_mul, Nat.beq_refl, ho, hlt, Bool.and_self]
    have hg : (H.push (.cells xs 0 false)).get b = some (.cells C low false) := by rw [AHeap.get_push, if_neg (by omega)]; exact h2
    by_cases hin : k + 1 ≤ cap
    · have hle : k * m + m ≤ C.length := by
        have : (k + 1) * m ≤ cap * m := Nat.mul_le_mul_right _ hin
        rw [Nat.add_mul, Nat.one_mul] at this; omega
      have hw : wrCells (H.push (.cells xs 0 false)) ⟨b, C.length, 0 + k * m⟩ xs = some ((H.push (.cells xs 0 false)).set b (.cells (C.take (k * m) ++ (xs ++ C.drop (k * m + m))) C.length false)) := by
        unfold wrCells
        simp only [hg, Nat.ble_eq_true_of_le h3, Nat.beq_refl, Nat.zero_add, hx, Nat.ble_eq_true_of_le hle, ho, Bool.and_self, cond_true]
      have hl2 : (C.take (k * m) ++ (xs ++ C.drop (k * m + m))).length = C.length := by simp [hx]; omega
      refine ⟨.slice (some ⟨b, C.length, 0⟩) (k + 1) (.known cap), (H.push (.cells xs 0 false)).set b (.cells (C.take (k * m) ++ (xs ++ C.drop (k * m + m))) C.length false), ?_, .inr ⟨b, cap, C.length, C.take (k * m) ++ (xs ++ C.drop (k * m + m)), by rw [hl2], by rw [AHeap.get_set, if_pos rfl], by omega, by rw [hl2]; exact h4, ?_, by simp [h6, hx, Nat.add_mul], hin, by rw [set_next, push_next]; omega, h9⟩, by rw [set_next, push_next]; omega, fun P hP => (have hP2 : P b := hP _ _ _ rfl; blk_some (.inl hP2)), fun c hc hd => by rw [AHeap.get_set, if_neg (hd _ _ _ rfl), get_push_lt hc]⟩
      · simp only [aAppend, srcM H hx]
        rw [show Nat.beq 1 0 = false from rfl, cond_false, c1, cond_true]
        simp only [Nat.ble_eq_true_of_le hin, cond_true, hw]
      · have e : (k + 1) * m = (L ++ xs).length := by simp [h6, hx, Nat.add_mul]
        rw [h5, ← List.append_assoc, e, List.take_left]
    · have hk : k = cap := by omega
      have hL : L = C := by rw [← h5, hk, ← h4, List.take_length]
      have hr : rdCells (H.push (.cells xs 0 false)) ⟨b, C.length, 0⟩ (k * m) = some L := by
        have := rd_row (H := H.push (.cells xs 0 false)) ⟨low, hg, h3⟩ rfl (i := 0) (k := k * m) (by rw [hk]; omega)
        rw [this, List.drop_zero, h5]
      refine ⟨.slice (some ⟨H.next + 1, (L ++ xs).length, 0⟩) (k + 1) (.open_ m), (H.push (.cells xs 0 false)).push (.cells (L ++ xs) 0 false), ?_, .inl (.inr ⟨H.next + 1, 0, rfl, by simp [h6, hx, Nat.mul_comm m, Nat.add_mul], Nat.zero_le _, Nat.lt_succ_self _, by rw [AHeap.get_push]; exact if_pos rfl, Nat.zero_le _, by omega⟩), by simp only [push_next]; omega, fun P _ => blk_some (.inr (Nat.le_succ _)), fun c hc _ => by rw [AHeap.get_push, if_neg (by rw [push_next]; omega), get_push_lt hc]⟩
      simp only [aAppend, srcM H hx]
      rw [show Nat.beq 1 0 = false from rfl, cond_false, c1, cond_true]
      have e1 : Nat.ble (k + 1) cap = false := by rw [ble_dec]; exact decide_eq_false (by omega)
      simp only [e1, cond_false, hr, push_next]
theorem GrN.at {m n k : Nat} {H : AHeap} {s : AVal} {L : List AVal} (h : GrN m n H s L k) {i : Nat} (hi : i < k) : ∃ b lim, aIdxA m s (.int .i64 (i : Int)) = some (cellR b lim (i * m)) ∧ oLoad true m H (cellR b lim (i * m)) = some (.agg ((L.drop (i * m)).take m)) := by
  have him : i * m + m ≤ k * m := by
    have : (i + 1) * m ≤ k * m := Nat.mul_le_mul_right _ hi
    rwa [Nat.add_mul, Nat.one_mul] at this
  have hb : Nat.blt i k = true := by simpa [Nat.blt_eq] using hi
  rcases h with h | ⟨b, cap, low, C, rfl, h2, h3, h4, h5, h6, h7, h8, h9⟩
  · rcases h with ⟨_, _, h⟩ | ⟨b, low, rfl, h2, h3, h4, h5, h6, h7⟩
    · omega
    · exact ⟨b, L.length, idxM .i64 hi, row_loadK ⟨low, h5, h6⟩ rfl (by rw [h2, Nat.mul_comm m]; exact him)⟩
  · refine ⟨b, C.length, ?_, ?_⟩
    · show (bif Nat.blt i k then some (AVal.ptr (some ⟨b, C.length, 0 + i * m⟩)) else none) = _
      rw [hb, Nat.zero_add]; rfl
    · have hle : k * m ≤ C.length := by rw [h4]; exact Nat.mul_le_mul_right _ h7
      rw [row_loadK ⟨low, h2, h3⟩ rfl (by omega)]
      congr 2
      rw [← h5, List.drop_take, List.take_take, Nat.min_eq_left (by omega)]
theorem strs_len (l : List (List UInt8)) : (strs l).length = l.length := by simp [strs]
theorem strs_snoc (l : List (List UInt8)) (s : List UInt8) : strs (l ++ [s]) = strs l ++ [.str s] := by simp [strs]
theorem aw_seqF {C : CS} {a b : ACode} {Q : Post} {T : Env} {H : AHeap} (F : Env → AHeap → Prop) (hC : CMono C) (h : wp C a (inSeq Q F) T H) (k : ∀ T H, F T H → wp C b Q T H) : wp C (.seq a b) Q T H := by
  rw [aw_seq]
  exact wp_mono' hC a (inSeq_mono (fun _ _ _ h => h) k) h
end Go.Abs.S
namespace Go.Abs.S
open Go.Abs
def hold (c : ACode) : ACode := c
theorem hold_eq (c : ACode) : hold c = c := _root_.id rfl
def restAt : Nat → ACode → ACode
  | 0, c => c
  | k + 1, .seq _ b => restAt k b
  | _ + 1, c => c
def cutAt : Nat → ACode → ACode
  | 0, c => hold c
  | k + 1, .seq a b => .seq a (cutAt k b)
  | _ + 1, c => c
theorem cutAt_eq : ∀ (k : Nat) (c : ACode), cutAt k c = c
  | 0, c => rfl
  | k + 1, c => by
    cases c <;> simp only [cutAt]
    rw [cutAt_eq k]
theorem cutAt_0 (c : ACode) : cutAt 0 c = hold c := _root_.id rfl
theorem cutAt_s (k : Nat) (a b : ACode) : cutAt (k + 1) (.seq a b) = .seq a (cutAt k b) := _root_.id rfl
theorem wp_cutAt {C : CS} {c : ACode} {Q : Post} {T : Env} {H : AHeap} (k : Nat) (h : wp C (cutAt k c) Q T H) : wp C c Q T H := by rwa [cutAt_eq] at h
theorem aeq_open (a : Ad) (n m : Nat) : aeq (.slice (some a) n (.open_ m)) (.slice (some a) n (.open_ m)) = true := by simp [aeq]
theorem aeq_nilS : aeq nilS nilS = true := rfl
end Go.Abs.S
namespace Go.Abs.S
open Go.Abs
theorem sW : type_of% (And.intro (And.intro (And.intro (And.intro (And.intro (And.intro (And.intro (@pf_min) (@undef_bool)) (And.intro (@str_len) (@str_eql))) (And.intro (And.intro (@str_neq) (@conv_in)) (@un_not))) (And.intro (And.intro (And.intro (@eq_self.{1}) (@decide_true)) (@decide_false)) (And.intro (And.intro (@Bool.not_true) (@Bool.not_false)) (@argE_0)))) (And.intro (And.intro (And.intro (And.intro (@argE_1) (@argE_2)) (And.intro (@argE_3) (@argE_4))) (And.intro (And.intro (@aw_skip) (@aw_reg)) (@aw_seq))) (And.intro (And.intro (And.intro (@aw_cond) (@aw_exit)) (@aw_ret)) (And.intro (And.intro (@inSeq_normal) (@inSeq_exit)) (@inSeq_ret))))) (And.intro (And.intro (And.intro (And.intro (And.intro (@inBlk_exit) (@inBlk_normal)) (And.intro (@inBlk_ret) (@OptK_some))) (And.intro (And.intro (@OptH_some) (@OptS_some)) (@kont_app))) (And.intro (And.intro (And.intro (@ar_nil) (@ar_guard)) (@ar_mv)) (And.intro (And.intro (@ar_pick) (@ar_new)) (@ar_box)))) (And.intro (And.intro (And.intro (And.intro (@ar_build) (@ar_buildSl)) (@ar_load)) (And.intro (And.intro (@ar_store) (@ar_nilChk)) (@ar_bin))) (And.intro (And.intro (And.intro (@ar_un) (@ar_conv)) (@ar_convSB)) (And.intro (And.intro (@ar_convBS) (@ar_mkFunc)) (@ar_mkIface)))))) (And.intro (And.intro (And.intro (And.intro (And.intro (And.intro (@ar_mkSlice) (@ar_sl)) (And.intro (@ar_slStr) (@ar_fieldA))) (And.intro (And.intro (@ar_field) (@ar_idxA)) (@ar_idxArr))) (And.intro (And.intro (And.intro (@ar_idx) (@ar_idxS)) (@ar_extract)) (And.intro (And.intro (@ar_append) (@ar_len)) (@ar_call)))) (And.intro (And.intro (And.intro (And.intro (@ar_callv) (@callvP_func)) (@ar_pf)) (And.intro (And.intro (@ar_hf) (@ar_slA)) (@upO_some))) (And.intro (And.intro (And.intro (@upO_none) (@sX_t)) (@sX_c)) (And.intro (And.intro (@sX_f) (@fin_t)) (@fin_t2))))) (And.intro (And.intro (And.intro (And.intro (And.intro (@fin_t3) (@up_same)) (And.intro (@up_ne) (@ne_eq.{1}))) (And.intro (And.intro (@not_false_eq_true) (@AVal.bool.injEq)) (@decide_eq_true_eq))) (And.intro (And.intro (And.intro (@decide_eq_false_iff_not) (@Int.ofNat_eq_natCast)) (@Int.cast_ofNat_Int)) (And.intro (And.intro (@bin_lss) (@bin_leq)) (@bin_gtr)))) (And.intro (And.intro (And.intro (And.intro (@bin_geq) (@bin_eql)) (@bin_neq)) (And.intro (And.intro (@bin_add) (@bin_sub)) (@bin_mul))) (And.intro (And.intro (And.intro (@Bool.not_eq_true') (@Bool.not_eq_false')) (@Bool.true_eq_false)) (And.intro (And.intro (@Bool.false_eq_true) (@if_true.{1})) (@if_false.{1}))))))) := And.intro (And.intro (And.intro (And.intro (And.intro (And.intro (And.intro (@pf_min) (@undef_bool)) (And.intro (@str_len) (@str_eql))) (And.intro (And.intro (@str_neq) (@conv_in)) (@un_not))) (And.intro (And.intro (And.intro (@eq_self.{1}) (@decide_true)) (@decide_false)) (And.intro (And.intro (@Bool.not_true) (@Bool.not_false)) (@argE_0)))) (And.intro (And.intro (And.intro (And.intro (@argE_1) (@argE_2)) (And.intro (@argE_3) (@argE_4))) (And.intro (And.intro (@aw_skip) (@aw_reg)) (@aw_seq))) (And.intro (And.intro (And.intro (@aw_cond) (@aw_exit)) (@aw_ret)) (And.intro (And.intro (@inSeq_normal) (@inSeq_exit)) (@inSeq_ret))))) (And.intro (And.intro (And.intro (And.intro (And.intro (@inBlk_exit) (@inBlk_normal)) (And.intro (@inBlk_ret) (@OptK_some))) (And.intro (And.intro (@OptH_some) (@OptS_some)) (@kont_app))) (And.intro (And.intro (And.intro (@ar_nil) (@ar_guard)) (@ar_mv)) (And.intro (And.intro (@ar_pick) (@ar_new)) (@ar_box)))) (And.intro (And.intro (And.intro (And.intro (@ar_build) (@ar_buildSl)) (@ar_load)) (And.intro (And.intro (@ar_store) (@ar_nilChk)) (@ar_bin))) (And.intro (And.intro (And.intro (@ar_un) (@ar_conv)) (@ar_convSB)) (And.intro (And.intro (@ar_convBS) (@ar_mkFunc)) (@ar_mkIface)))))) (And.intro (And.intro (And.intro (And.intro (And.intro (And.intro (@ar_mkSlice) (@ar_sl)) (And.intro (@ar_slStr) (@ar_fieldA))) (And.intro (And.intro (@ar_field) (@ar_idxA)) (@ar_idxArr))) (And.intro (And.intro (And.intro (@ar_idx) (@ar_idxS)) (@ar_extract)) (And.intro (And.intro (@ar_append) (@ar_len)) (@ar_call)))) (And.intro (And.intro (And.intro (And.intro (@ar_callv) (@callvP_func)) (@ar_pf)) (And.intro (And.intro (@ar_hf) (@ar_slA)) (@upO_some))) (And.intro (And.intro (And.intro (@upO_none) (@sX_t)) (@sX_c)) (And.intro (And.intro (@sX_f) (@fin_t)) (@fin_t2))))) (And.intro (And.intro (And.intro (And.intro (And.intro (@fin_t3) (@up_same)) (And.intro (@up_ne) (@ne_eq.{1}))) (And.intro (And.intro (@not_false_eq_true) (@AVal.bool.injEq)) (@decide_eq_true_eq))) (And.intro (And.intro (And.intro (@decide_eq_false_iff_not) (@Int.ofNat_eq_natCast)) (@Int.cast_ofNat_Int)) (And.intro (And.intro (@bin_lss) (@bin_leq)) (@bin_gtr)))) (And.intro (And.intro (And.intro (And.intro (@bin_geq) (@bin_eql)) (@bin_neq)) (And.intro (And.intro (@bin_add) (@bin_sub)) (@bin_mul))) (And.intro (And.intro (And.intro (@Bool.not_eq_true') (@Bool.not_eq_false')) (@Bool.true_eq_false)) (And.intro (And.intro (@Bool.false_eq_true) (@if_true.{1})) (@if_false.{1}))))))
theorem sL : type_of% (And.intro (And.intro (@List.nil_append.{0}) (@List.cons_append.{0})) (@List.append_nil.{0})) := And.intro (And.intro (@List.nil_append.{0}) (@List.cons_append.{0})) (@List.append_nil.{0})
theorem sR : type_of% (And.intro (And.intro (And.intro (And.intro (And.intro (And.intro (@consK_app) (@OptKT_some)) (@OptHT_some)) (And.intro (@OptST_some) (@kontT_app))) (And.intro (And.intro (And.intro (@tr_nil) (@tr_guard)) (@tr_pick)) (And.intro (@tr_mv) (@tr_new)))) (And.intro (And.intro (And.intro (And.intro (@tr_box) (@tr_build)) (@tr_buildSl)) (And.intro (@tr_load) (@tr_store))) (And.intro (And.intro (And.intro (@tr_nilChk) (@tr_bin)) (@tr_un)) (And.intro (@tr_conv) (@tr_convSB))))) (And.intro (And.intro (And.intro (And.intro (And.intro (@tr_convBS) (@tr_mkFunc)) (@tr_mkIface)) (And.intro (@tr_mkSlice) (@tr_sl))) (And.intro (And.intro (And.intro (@tr_slStr) (@tr_fieldA)) (@tr_field)) (And.intro (@tr_idxA) (@tr_idxArr)))) (And.intro (And.intro (And.intro (And.intro (@tr_idx) (@tr_idxS)) (@tr_extract)) (And.intro (@tr_append) (@tr_len))) (And.intro (And.intro (And.intro (@tr_call) (@tr_callv)) (@tr_pf)) (And.intro (@tr_hf) (@tr_slA)))))) := And.intro (And.intro (And.intro (And.intro (And.intro (And.intro (@consK_app) (@OptKT_some)) (@OptHT_some)) (And.intro (@OptST_some) (@kontT_app))) (And.intro (And.intro (And.intro (@tr_nil) (@tr_guard)) (@tr_pick)) (And.intro (@tr_mv) (@tr_new)))) (And.intro (And.intro (And.intro (And.intro (@tr_box) (@tr_build)) (@tr_buildSl)) (And.intro (@tr_load) (@tr_store))) (And.intro (And.intro (And.intro (@tr_nilChk) (@tr_bin)) (@tr_un)) (And.intro (@tr_conv) (@tr_convSB))))) (And.intro (And.intro (And.intro (And.intro (And.intro (@tr_convBS) (@tr_mkFunc)) (@tr_mkIface)) (And.intro (@tr_mkSlice) (@tr_sl))) (And.intro (And.intro (And.intro (@tr_slStr) (@tr_fieldA)) (@tr_field)) (And.intro (@tr_idxA) (@tr_idxArr)))) (And.intro (And.intro (And.intro (And.intro (@tr_idx) (@tr_idxS)) (@tr_extract)) (And.intro (@tr_append) (@tr_len))) (And.intro (And.intro (And.intro (@tr_call) (@tr_callv)) (@tr_pf)) (And.intro (@tr_hf) (@tr_slA)))))
theorem sXs_n (T : Env) : sXs T [] = [] := _root_.id rfl
theorem sXs_c (T : Env) (x : Opd) (r : List Opd) : sXs T (x :: r) = sX T x :: sXs T r := _root_.id rfl
theorem sXO_n (T : Env) : sXO T none = none := _root_.id rfl
theorem sXO_s (T : Env) (x : Opd) : sXO T (some x) = some (sX T x) := _root_.id rfl
theorem sXP_n (T : Env) : sXP T [] = [] := _root_.id rfl
theorem sXP_c (T : Env) (o n : Nat) (x : Opd) (r : List (Nat × Nat × Opd)) : sXP T ((o, n, x) :: r) = (o, n, sX T x) :: sXP T r := _root_.id rfl
theorem sA : type_of% (And.intro sW (And.intro sL (And.intro @aw_block (And.intro @sXs_n (And.intro @sXs_c (And.intro @sXO_n (And.intro @sXO_s (And.intro @sXP_n @sXP_c)))))))) := And.intro sW (And.intro sL (And.intro @aw_block (And.intro @sXs_n (And.intro @sXs_c (And.intro @sXO_n (And.intro @sXO_s (And.intro @sXP_n @sXP_c)))))))
end Go.Abs.S
