/- Symbolic runs of the abstract machine, part 5: the steps, as rewritings. Plain Lean. -/
import Derived.Test.YtndeemjhengoiaaS4
import Derived.IntWalk
namespace Go.Abs.S
open Go.Abs
section
variable {C : CS} {Q : Post} {T : Env} {H : AHeap} {K : Env → AHeap → Prop} {r : List AOper} {d : Option Nat}
theorem aw_skip : wp C .skip Q T H = Q .normal T H := _root_.id rfl
theorem aw_reg (ops : List AOper) : wp C (.reg ops) Q T H = wRegs C ops T H (Q .normal) := _root_.id rfl
theorem aw_seq (a b : ACode) : wp C (.seq a b) Q T H = wp C a (inSeq Q (wp C b Q)) T H := _root_.id rfl
open Classical in
theorem aw_cond (c : Opd) (a b : ACode) : wp C (.cond c a b) Q T H = if sX T c = .bool true then wp C a Q T H else if sX T c = .bool false then wp C b Q T H else False := by
  simp only [wp]
  by_cases h : sX T c = .bool true
  · rw [if_pos h, h]; simp
  · rw [if_neg h]
    by_cases h' : sX T c = .bool false
    · rw [if_pos h', h']; simp
    · rw [if_neg h']
      simp only [eq_iff_iff, iff_false, not_exists, not_and]
      intro v hv
      cases v
      · exact absurd hv h'
      · exact absurd hv h
theorem aw_block (id : Nat) (c : ACode) : wp C (.block id c) Q T H = wp C c (inBlk id Q) T H := _root_.id rfl
theorem aw_exit (id : Nat) : wp C (.exit id) Q T H = Q (.exit id) T H := _root_.id rfl
theorem aw_ret : wp C .ret Q T H = Q .ret T H := _root_.id rfl
theorem inSeq_normal : inSeq Q K .normal T H = K T H := _root_.id rfl
theorem inSeq_exit (i : Nat) : inSeq Q K (.exit i) T H = Q (.exit i) T H := _root_.id rfl
theorem inSeq_ret : inSeq Q K .ret T H = Q .ret T H := _root_.id rfl
theorem inBlk_exit (id i : Nat) : inBlk id Q (.exit i) T H = if i = id then Q .normal T H else Q (.exit i) T H := by
  simp only [inBlk]
  by_cases h : i = id
  · subst h; rw [if_pos rfl, Nat.beq_refl]; rfl
  · rw [if_neg h, show Nat.beq i id = false by rw [beq_dec]; exact decide_eq_false h]; rfl
theorem inBlk_normal (id : Nat) : inBlk id Q .normal T H = Q .normal T H := _root_.id rfl
theorem inBlk_ret (id : Nat) : inBlk id Q .ret T H = Q .ret T H := _root_.id rfl
theorem aw_loop {c : ACode} (I : Nat → Env → AHeap → Prop) (m : Nat) (h0 : I m T H) (h : ∀ m T H, I m T H → wp C c (inSeq Q fun T' H' => ∃ m', m' < m ∧ I m' T' H') T H) : wp C (.loop c) Q T H := ⟨I, ⟨m, h0⟩, h⟩

/-! regions -/
def OptK (o : Option AVal) (C : CS) (r : List AOper) (T : Env) (d : Option Nat) (H : AHeap) (K : Env → AHeap → Prop) : Prop := OptP o fun v => wRegs C r (upO T d v) H K
def OptH (o : Option (AVal × AHeap)) (C : CS) (r : List AOper) (T : Env) (d : Option Nat) (K : Env → AHeap → Prop) : Prop := OptP o fun p => wRegs C r (upO T d p.1) p.2 K
def OptS (o : Option AHeap) (C : CS) (r : List AOper) (T : Env) (d : Option Nat) (K : Env → AHeap → Prop) : Prop := OptP o fun H' => wRegs C r (upO T d undefA) H' K
def kont (C : CS) (r : List AOper) (T : Env) (d : Option Nat) (K : Env → AHeap → Prop) : AVal → AHeap → Prop := fun v H' => wRegs C r (upO T d v) H' K
theorem OptK_some (v : AVal) : OptK (some v) C r T d H K = wRegs C r (upO T d v) H K := OptP_some _ _
theorem OptH_some (v : AVal) (H' : AHeap) : OptH (some (v, H')) C r T d K = wRegs C r (upO T d v) H' K := OptP_some _ _
theorem OptS_some (H' : AHeap) : OptS (some H') C r T d K = wRegs C r (upO T d undefA) H' K := OptP_some _ _
theorem kont_app (v : AVal) : kont C r T d K v H = wRegs C r (upO T d v) H K := _root_.id rfl
theorem ar_nil : wRegs C [] T H K = K T H := _root_.id rfl
open Classical in
theorem ar_guard (o : AOp) (t : Nat) (b : Bool) : wRegs C (⟨d, o, some (t, b)⟩ :: r) T H K = if T t = .bool b then wRegs C (⟨d, o, none⟩ :: r) T H K else wRegs C r (upO T d undefA) H K := by
  simp only [wRegs, sG]
  by_cases h : T t = .bool b
  · rw [if_pos h, h]; cases b <;> rfl
  · rw [if_neg h]
    have : sGv b (T t) = false := by
      cases hv : T t <;> simp only [sGv]
      rename_i v
      rw [hv] at h
      cases b <;> cases v <;> simp at h ⊢
    rw [this]; rfl
theorem ar_mv (x : Opd) : wRegs C (⟨d, .mv x, none⟩ :: r) T H K = wRegs C r (upO T d (sX T x)) H K := _root_.id rfl
open Classical in
theorem ar_pick (c a b : Opd) : wRegs C (⟨d, .pick c a b, none⟩ :: r) T H K = if sX T c = .bool true then wRegs C r (upO T d (sX T a)) H K else if sX T c = .bool false then wRegs C r (upO T d (sX T b)) H K else False := by
  simp only [wRegs, sG, wOp, cond_true]
  by_cases h : sX T c = .bool true
  · rw [if_pos h, h]; simp
  · rw [if_neg h]
    by_cases h' : sX T c = .bool false
    · rw [if_pos h', h']; simp
    · rw [if_neg h']
      simp only [eq_iff_iff, iff_false, not_exists, not_and]
      intro v hv
      cases v
      · exact absurd hv h'
      · exact absurd hv h
theorem ar_new (z : List AVal) : wRegs C (⟨d, .new z, none⟩ :: r) T H K = wRegs C r (upO T d (oNew H z).1) (oNew H z).2 K := _root_.id rfl
theorem ar_box (x : Opd) : wRegs C (⟨d, .box x, none⟩ :: r) T H K = wRegs C r (upO T d (oNew H (sX T x).cells).1) (oNew H (sX T x).cells).2 K := _root_.id rfl
theorem ar_build (z : List AVal) (ps : List (Nat × Nat × Opd)) : wRegs C (⟨d, .build z ps, none⟩ :: r) T H K = OptK (aBuild z (sXP T ps)) C r T d H K := _root_.id rfl
theorem ar_buildSl (n : Nat) (z : List AVal) (ps : List (Nat × Nat × Opd)) : wRegs C (⟨d, .buildSl n z ps, none⟩ :: r) T H K = OptH (aBuildSl n z H (sXP T ps)) C r T d K := _root_.id rfl
theorem ar_load (a : Bool) (n : Nat) (x : Opd) : wRegs C (⟨d, .load a n x, none⟩ :: r) T H K = OptK (oLoad a n H (sX T x)) C r T d H K := _root_.id rfl
theorem ar_store (n : Nat) (a x : Opd) : wRegs C (⟨d, .store n a x, none⟩ :: r) T H K = OptS (oStore n H (sX T a) (sX T x)) C r T d K := _root_.id rfl
theorem ar_nilChk (x : Opd) : wRegs C (⟨d, .nilChk x, none⟩ :: r) T H K = OptK (aNilChk (sX T x)) C r T d H K := _root_.id rfl
theorem ar_bin (op : BinOp) (x y : Opd) : wRegs C (⟨d, .bin op x y, none⟩ :: r) T H K = OptK (aBin op (sX T x) (sX T y)) C r T d H K := _root_.id rfl
theorem ar_un (op : UnOp) (x : Opd) : wRegs C (⟨d, .un op x, none⟩ :: r) T H K = OptK (aUn op (sX T x)) C r T d H K := _root_.id rfl
theorem ar_conv (k : IntKind) (x : Opd) : wRegs C (⟨d, .conv k x, none⟩ :: r) T H K = OptK (aConv k (sX T x)) C r T d H K := _root_.id rfl
theorem ar_convSB (x : Opd) : wRegs C (⟨d, .convSB x, none⟩ :: r) T H K = OptH (aSB H (sX T x)) C r T d K := _root_.id rfl
theorem ar_convBS (x : Opd) : wRegs C (⟨d, .convBS x, none⟩ :: r) T H K = OptK (aBS H (sX T x)) C r T d H K := _root_.id rfl
theorem ar_mkFunc (fn : Fn) (a b : List Opd) : wRegs C (⟨d, .mkFunc fn a b, none⟩ :: r) T H K = wRegs C r (upO T d (.func fn (sXs T a) (sXs T b))) H K := _root_.id rfl
theorem ar_mkIface (t : TypeId) (x : Opd) : wRegs C (⟨d, .mkIface t x, none⟩ :: r) T H K = wRegs C r (upO T d (.iface t (sX T x))) H K := _root_.id rfl
theorem ar_mkSlice (b : Nat) (z : List AVal) (l c : Opd) : wRegs C (⟨d, .mkSlice b z l c, none⟩ :: r) T H K = OptH (aMake b z H (sX T l) (sX T c)) C r T d K := _root_.id rfl
theorem ar_sl (n : Nat) (x : Opd) (lo hi mx : Option Opd) : wRegs C (⟨d, .sl n x lo hi mx, none⟩ :: r) T H K = OptK (aSl n (sX T x) (sXO T lo) (sXO T hi) (sXO T mx)) C r T d H K := _root_.id rfl
theorem ar_slStr (x : Opd) (lo hi : Option Opd) : wRegs C (⟨d, .slStr x lo hi, none⟩ :: r) T H K = OptK (aSlStr (sX T x) (sXO T lo) (sXO T hi)) C r T d H K := _root_.id rfl
theorem ar_fieldA (o : Nat) (x : Opd) : wRegs C (⟨d, .fieldA o x, none⟩ :: r) T H K = OptK (aField o (sX T x)) C r T d H K := _root_.id rfl
theorem ar_field (a : Bool) (n o : Nat) (x : Opd) : wRegs C (⟨d, .field a n o x, none⟩ :: r) T H K = OptK (aFieldV a n o (sX T x)) C r T d H K := _root_.id rfl
theorem ar_idxA (n : Nat) (x i : Opd) : wRegs C (⟨d, .idxA n x i, none⟩ :: r) T H K = OptK (aIdxA n (sX T x) (sX T i)) C r T d H K := _root_.id rfl
theorem ar_idxArr (m n : Nat) (x i : Opd) : wRegs C (⟨d, .idxArr m n x i, none⟩ :: r) T H K = OptK (aIdxArr m n (sX T x) (sX T i)) C r T d H K := _root_.id rfl
theorem ar_idx (m n : Nat) (a : Bool) (x i : Opd) : wRegs C (⟨d, .idx m n a x i, none⟩ :: r) T H K = OptK (aIdx m n a (sX T x) (sX T i)) C r T d H K := _root_.id rfl
theorem ar_idxS (x i : Opd) : wRegs C (⟨d, .idxS x i, none⟩ :: r) T H K = OptK (aIdxS (sX T x) (sX T i)) C r T d H K := _root_.id rfl
theorem ar_extract (i : Nat) (x : Opd) : wRegs C (⟨d, .extract i x, none⟩ :: r) T H K = OptK (aExtract i (sX T x)) C r T d H K := _root_.id rfl
theorem ar_append (n b : Nat) (s x : Opd) : wRegs C (⟨d, .append n b s x, none⟩ :: r) T H K = OptH (aAppend n b H (sX T s) (sX T x)) C r T d K := _root_.id rfl
theorem ar_len (s : Bool) (x : Opd) : wRegs C (⟨d, .len s x, none⟩ :: r) T H K = OptK (aLenK s (sX T x)) C r T d H K := _root_.id rfl
theorem ar_call (f : FuncId) (args : List Opd) : wRegs C (⟨d, .call f args, none⟩ :: r) T H K = C f (sXs T args) H (kont C r T d K) := _root_.id rfl
def callvP (C : CS) (f : AVal) (args : List AVal) (H : AHeap) (K : AVal → AHeap → Prop) : Prop := ∃ g a b, f = .func (.func g) a b ∧ C g (a ++ args ++ b) H K
theorem callvP_func (g : FuncId) (a b args : List AVal) (K : AVal → AHeap → Prop) : callvP C (.func (.func g) a b) args H K = C g (a ++ args ++ b) H K := by
  simp only [callvP, AVal.func.injEq, Fn.func.injEq]
  apply propext
  constructor
  · rintro ⟨g, a, b, ⟨rfl, rfl, rfl⟩, h⟩; exact h
  · intro h; exact ⟨_, _, _, ⟨rfl, rfl, rfl⟩, h⟩
theorem ar_callv (f : Opd) (args : List Opd) : wRegs C (⟨d, .callv f args, none⟩ :: r) T H K = callvP C (sX T f) (sXs T args) H (kont C r T d K) := _root_.id rfl
theorem ar_pf (f : PF) (xs : List Opd) : wRegs C (⟨d, .pf f xs, none⟩ :: r) T H K = OptK (aPf f (sXs T xs)) C r T d H K := _root_.id rfl
theorem ar_hf (f : HF) (xs : List Opd) : wRegs C (⟨d, .hf f xs, none⟩ :: r) T H K = OptH (aHf f H (sXs T xs)) C r T d K := _root_.id rfl
theorem ar_slA (m n : Nat) (x : Opd) (lo hi mx : Option Opd) : wRegs C (⟨d, .slA m n x lo hi mx, none⟩ :: r) T H K = OptK (aSlArr m n (sX T x) (sXO T lo) (sXO T hi) (sXO T mx)) C r T d H K := _root_.id rfl
theorem upO_some (i : Nat) (v : AVal) : upO T (some i) v = up T i v := _root_.id rfl
theorem upO_none (v : AVal) : upO T none v = T := _root_.id rfl
theorem sX_t (i : Nat) : sX T (.t i) = T i := _root_.id rfl
theorem sX_c (v : AVal) : sX T (.c v) = v := _root_.id rfl
theorem sX_f (i : Nat) : sX T (.f i) = .func (.func i) [] [] := _root_.id rfl
theorem fin_ret (res : List ARes) (K : AVal → AHeap → Prop) : fin res K .ret T H = OptP (wRes T H res) fun l => K (aresV l) H := _root_.id rfl
theorem fin_normal (res : List ARes) (K : AVal → AHeap → Prop) : fin res K .normal T H = OptP (wRes T H res) fun l => K (aresV l) H := _root_.id rfl
theorem fin_t (i : Nat) (K : AVal → AHeap → Prop) : fin [.t i] K .ret T H = K (T i) H := by
  simp only [fin, wRes, OptP_some]; rfl
theorem fin_t2 (i j : Nat) (K : AVal → AHeap → Prop) : fin [.t i, .t j] K .ret T H = K (.tuple [T i, T j]) H := by
  simp only [fin, wRes, OptP_some]; rfl
theorem fin_t3 (i j k : Nat) (K : AVal → AHeap → Prop) : fin [.t i, .t j, .t k] K .ret T H = K (.tuple [T i, T j, T k]) H := by
  simp only [fin, wRes, OptP_some]; rfl
/-! regions that draw their order, where nothing has to be looked at again -/
def CMono (C : CS) : Prop := ∀ f a H (K K' : AVal → AHeap → Prop), (∀ v H, K v H → K' v H) → C f a H K → C f a H K'
theorem calls_mono (P : Program) (N : ANat) : CMono (ACalls P N) := fun _ _ _ _ _ h hc => hc.mono h
theorem wOp_mono (hC : CMono C) {K K' : AVal → AHeap → Prop} (h : ∀ v H, K v H → K' v H) {o : AOp} (hw : wOp C T H K o) : wOp C T H K' o := by
  cases o
  case call f args => exact hC _ _ _ _ _ h hw
  case callv f args => obtain ⟨g, a, b, h1, h2⟩ := hw; exact ⟨g, a, b, h1, hC _ _ _ _ _ h h2⟩
  case pick c a b => obtain ⟨v, h1, h2⟩ := hw; exact ⟨v, h1, h _ _ h2⟩
  case bad => exact hw
  all_goals first
    | exact h _ _ hw
    | exact OptP.mono hw fun v hv => h _ _ hv
theorem wTr_regs (hC : CMono C) : ∀ (l : List AOper) {T : Env} {H : AHeap} {K : List (AVal × AHeap) → Env → AHeap → Prop} {K' : Env → AHeap → Prop}, (∀ ss T H, K' T H → K ss T H) → wRegs C l T H K' → wTr C l T H K := by
  intro l
  induction l with
  | nil => intro T H K K' h hw; exact h _ _ _ hw
  | cons o l ih =>
    intro T H K K' h hw
    simp only [wRegs, wTr] at hw ⊢
    cases hg : sG T o.guard with
    | false => rw [hg] at hw; exact ih (fun ss T H => h _ T H) hw
    | true =>
      rw [hg] at hw
      simp only [cond_true] at hw ⊢
      exact wOp_mono hC (fun v H' hw => ih (fun ss T H => h _ T H) hw) hw
def allNil : List (List Nat) → Bool
  | [] => true
  | [] :: r => allNil r
  | _ :: _ => false
theorem ck_nil {hs : List AHeap} : ∀ (l : List AOper) (ps : List (List Nat)) (ss : List (AVal × AHeap)) (T : Env), allNil ps = true → wCk hs l ps ss T
  | [], _, _, _, _ => trivial
  | o :: l, [], _, _, _ => trivial
  | o :: l, [] :: ps, [], _, _ => trivial
  | o :: l, [] :: ps, (v, Hv) :: ss, T, h => ⟨fun p hp => by simp at hp, ck_nil l ps ss _ h⟩
  | o :: l, (q :: p) :: ps, _, _, h => by simp [allNil] at h
def noNew : List AOper → Bool
  | [] => true
  | o :: r => match o.op with
    | .new _ => false
    | _ => noNew r
theorem claims_noNew : ∀ (l : List AOper), noNew l = true → ∀ (b : Nat) (H : AHeap), claims b l = l ∧ reserves H l = H
  | [], _, b, H => ⟨rfl, rfl⟩
  | o :: r, h, b, H => by
    obtain ⟨d, op, g⟩ := o
    cases op <;> simp only [noNew, Bool.false_eq_true] at h <;> exact ⟨by simp only [claims, (claims_noNew r h b H).1], by simp only [reserves, (claims_noNew r h b H).2]⟩
theorem regs_wTr (hC : CMono C) : ∀ (l : List AOper) {T : Env} {H : AHeap} {K : List (AVal × AHeap) → Env → AHeap → Prop} {K' : Env → AHeap → Prop}, (∀ ss T H, K ss T H → K' T H) → wTr C l T H K → wRegs C l T H K' := by
  intro l
  induction l with
  | nil => intro T H K K' h hw; exact h _ _ _ hw
  | cons o l ih =>
    intro T H K K' h hw
    simp only [wRegs, wTr] at hw ⊢
    cases hg : sG T o.guard with
    | false => rw [hg] at hw; exact ih (fun ss T H => h _ T H) hw
    | true =>
      rw [hg] at hw
      simp only [cond_true] at hw ⊢
      exact wOp_mono hC (fun v H' hw => ih (fun ss T H => h _ T H) hw) hw
theorem wTr_mono (hC : CMono C) : ∀ (l : List AOper) {T : Env} {H : AHeap} {K K' : List (AVal × AHeap) → Env → AHeap → Prop}, (∀ ss T H, K ss T H → K' ss T H) → wTr C l T H K → wTr C l T H K' := by
  intro l
  induction l with
  | nil => intro T H K K' h hw; exact h _ _ _ hw
  | cons o l ih =>
    intro T H K K' h hw
    simp only [wTr] at hw ⊢
    cases hg : sG T o.guard with
    | false => rw [hg] at hw; exact ih (fun ss T H => h _ T H) hw
    | true =>
      rw [hg] at hw
      simp only [cond_true] at hw ⊢
      exact wOp_mono hC (fun v H' hw => ih (fun ss T H => h _ T H) hw) hw
theorem wRegs_mono (hC : CMono C) : ∀ (l : List AOper) {T : Env} {H : AHeap} {K K' : Env → AHeap → Prop}, (∀ T H, K T H → K' T H) → wRegs C l T H K → wRegs C l T H K' := by
  intro l
  induction l with
  | nil => intro T H K K' h hw; exact h _ _ hw
  | cons o l ih =>
    intro T H K K' h hw
    simp only [wRegs] at hw ⊢
    cases hg : sG T o.guard with
    | false => rw [hg] at hw; exact ih h hw
    | true =>
      rw [hg] at hw
      simp only [cond_true] at hw ⊢
      exact wOp_mono hC (fun v H' hw => ih h hw) hw
theorem inSeq_mono {Q Q' : Post} {K K' : Env → AHeap → Prop} (h : ∀ e T H, Q e T H → Q' e T H) (hk : ∀ T H, K T H → K' T H) (e : AEx) (T : Env) (H : AHeap) (hq : inSeq Q K e T H) : inSeq Q' K' e T H := by
  cases e with
  | normal => exact hk _ _ hq
  | exit i => exact h _ _ _ hq
  | ret => exact h _ _ _ hq
theorem wp_mono' (hC : CMono C) : ∀ (c : ACode) {Q Q' : Post} {T : Env} {H : AHeap}, (∀ e T H, Q e T H → Q' e T H) → wp C c Q T H → wp C c Q' T H := by
  intro c
  induction c with
  | skip => intro Q Q' T H h hw; exact h _ _ _ hw
  | reg l => intro Q Q' T H h hw; exact wRegs_mono hC l (h .normal) hw
  | draw l chk => intro Q Q' T H h hw; exact wTr_mono hC _ (fun ss T' H' hk => ⟨hk.1, h _ _ _ hk.2⟩) hw
  | seq a b iha ihb => intro Q Q' T H h hw; exact iha (inSeq_mono h fun T H hk => ihb h hk) hw
  | cond c a b iha ihb =>
    intro Q Q' T H h hw
    obtain ⟨v, h1, h2⟩ := hw
    refine ⟨v, h1, ?_⟩
    cases v with
    | true => exact iha h h2
    | false => exact ihb h h2
  | block id c ih =>
    intro Q Q' T H h hw
    refine ih (fun e T H hk => ?_) hw
    cases e with
    | exit j =>
      simp only [inBlk] at hk ⊢
      cases hb : Nat.beq j id with
      | true => rw [hb] at hk; exact h _ _ _ hk
      | false => rw [hb] at hk; exact h _ _ _ hk
    | normal => exact h _ _ _ hk
    | ret => exact h _ _ _ hk
  | loop c ih =>
    intro Q Q' T H h hw
    obtain ⟨I, hm, hI⟩ := hw
    exact ⟨I, hm, fun m T H hi => ih (inSeq_mono h fun _ _ hk => hk) (hI m T H hi)⟩
  | exit id => intro Q Q' T H h hw; exact h _ _ _ hw
  | ret => intro Q Q' T H h hw; exact h _ _ _ hw
/-- regions that draw their order, as if they did not, where that is all the same -/
def norm : ACode → ACode
  | .draw l chk => bif allNil chk && noNew l then .reg l else .draw l chk
  | .seq a b => .seq (norm a) (norm b)
  | .cond c a b => .cond c (norm a) (norm b)
  | .block id c => .block id (norm c)
  | .loop c => .loop (norm c)
  | c => c
theorem wp_norm (hC : CMono C) : ∀ (c : ACode) {Q : Post} {T : Env} {H : AHeap}, wp C (norm c) Q T H → wp C c Q T H := by
  intro c
  induction c with
  | skip => intro Q T H hw; exact hw
  | reg l => intro Q T H hw; exact hw
  | draw l chk =>
    intro Q T H hw
    simp only [norm] at hw
    cases hb : allNil chk && noNew l with
    | false => rw [hb] at hw; exact hw
    | true =>
      rw [hb] at hw
      simp only [Bool.and_eq_true] at hb
      simp only [wp, wDraw, (claims_noNew l hb.2 H.next H).1, (claims_noNew l hb.2 H.next H).2]
      exact wTr_regs hC l (K := fun ss T' H' => wCk (H :: ss.map (·.2)) l chk ss T ∧ Q .normal T' H') (fun ss T' H' hk => ⟨ck_nil l chk ss T hb.1, hk⟩) hw
  | seq a b iha ihb => intro Q T H hw; exact wp_mono' hC a (inSeq_mono (fun _ _ _ h => h) fun T H hk => ihb hk) (iha hw)
  | cond c a b iha ihb =>
    intro Q T H hw
    obtain ⟨v, h1, h2⟩ := hw
    refine ⟨v, h1, ?_⟩
    cases v with
    | true => exact iha h2
    | false => exact ihb h2
  | block id c ih => intro Q T H hw; exact ih hw
  | loop c ih =>
    intro Q T H hw
    obtain ⟨I, hm, hI⟩ := hw
    exact ⟨I, hm, fun m T H hi => ih (hI m T H hi)⟩
  | exit id => intro Q T H hw; exact hw
  | ret => intro Q T H hw; exact hw
/-- a function, its regions so turned -/
def cN (P : Program) (f : FuncId) : Option AFn := match cFn P f with
  | some c => some ⟨c.nt, norm c.body, c.res⟩
  | none => none
theorem acalls_ofN {P : Program} {N : ANat} {f : FuncId} {c : AFn} {args : List AVal} {H : AHeap} {K : AVal → AHeap → Prop} (hn : N.is f = false) (hc : cN P f = some c) (hl : Nat.ble args.length c.nt = true) (h : wp (ACalls P N) c.body (fin c.res K) (argE args) H) : ACalls P N f args H K := by
  unfold cN at hc
  cases hf : cFn P f with
  | none => rw [hf] at hc; simp at hc
  | some c' =>
    rw [hf] at hc
    simp only [Option.some.injEq] at hc
    subst hc
    exact acalls_of hn hf hl (wp_norm (calls_mono P N) _ h)
/-- such a region, where something has to be looked at again: it has told ss -/
theorem aw_drawC {l : List AOper} {chk : List (List Nat)} (h2 : noNew l = true) (h : wTr C l T H fun ss T' H' => wCk (H :: ss.map (·.2)) l chk ss T ∧ Q .normal T' H') : wp C (.draw l chk) Q T H := by
  simp only [wp, wDraw, (claims_noNew l h2 H.next H).1, (claims_noNew l h2 H.next H).2]
  exact h
end
theorem argE_0 (a : AVal) (r : List AVal) : argE (a :: r) 0 = a := _root_.id rfl
theorem argE_1 (a b : AVal) (r : List AVal) : argE (a :: b :: r) 1 = b := _root_.id rfl
theorem argE_2 (a b c : AVal) (r : List AVal) : argE (a :: b :: c :: r) 2 = c := _root_.id rfl
theorem argE_3 (a b c d : AVal) (r : List AVal) : argE (a :: b :: c :: d :: r) 3 = d := _root_.id rfl
theorem argE_4 (a b c d e : AVal) (r : List AVal) : argE (a :: b :: c :: d :: e :: r) 4 = e := _root_.id rfl
/-! numbers -/
theorem bin_lss (k : IntKind) (a b : Int) : aBin .lss (.int k a) (.int k b) = some (.bool (decide (a < b))) := by
  simp [aBin, isShift, aIntF_eq, aInt]
theorem bin_leq (k : IntKind) (a b : Int) : aBin .leq (.int k a) (.int k b) = some (.bool (decide (a ≤ b))) := by
  simp [aBin, isShift, aIntF_eq, aInt]
theorem bin_gtr (k : IntKind) (a b : Int) : aBin .gtr (.int k a) (.int k b) = some (.bool (decide (b < a))) := by
  simp [aBin, isShift, aIntF_eq, aInt]
theorem bin_geq (k : IntKind) (a b : Int) : aBin .geq (.int k a) (.int k b) = some (.bool (decide (b ≤ a))) := by
  simp [aBin, isShift, aIntF_eq, aInt]
theorem bin_eql (k : IntKind) (a b : Int) : aBin .eql (.int k a) (.int k b) = some (.bool (decide (a = b))) := by
  simp only [aBin, isShift, aIntF_eq, aInt, cond_false, if_true]
  by_cases h : a = b <;> simp [h]
theorem bin_neq (k : IntKind) (a b : Int) : aBin .neq (.int k a) (.int k b) = some (.bool (!decide (a = b))) := by
  simp only [aBin, isShift, aIntF_eq, aInt, cond_false, if_true]
  by_cases h : a = b <;> simp [h, bne]
theorem bin_add (k : IntKind) (a b : Int) : aBin .add (.int k a) (.int k b) = some (.int k (k.wrap (a + b))) := by
  simp [aBin, isShift, aIntF_eq, aInt]
theorem bin_sub (k : IntKind) (a b : Int) : aBin .sub (.int k a) (.int k b) = some (.int k (k.wrap (a - b))) := by
  simp [aBin, isShift, aIntF_eq, aInt]
theorem bin_mul (k : IntKind) (a b : Int) : aBin .mul (.int k a) (.int k b) = some (.int k (k.wrap (a * b))) := by
  simp [aBin, isShift, aIntF_eq, aInt]
theorem bin_rem (k : IntKind) (a b : Int) (h : b ≠ 0) : aBin .rem (.int k a) (.int k b) = some (.int k (a.tmod b)) := by
  simp [aBin, isShift, aIntF_eq, aInt, h]
theorem bin_remN (a b : Nat) (h : 0 < b) : aBin .rem (.int .i64 (a : Int)) (.int .i64 (b : Int)) = some (.int .i64 ((a % b : Nat) : Int)) := by
  rw [bin_rem _ _ _ (by omega)]; rfl
theorem wrapN (a b : Nat) (h : a + b ≤ 9223372036854775807) : IntKind.i64.wrap ((a : Int) + (b : Int)) = ((a + b : Nat) : Int) := by
  rw [IntKind.wrap_i64]; omega
theorem wrap1 (a : Nat) (h : a + 1 ≤ 9223372036854775807) : IntKind.i64.wrap ((a : Int) + 1) = ((a + 1 : Nat) : Int) := by
  rw [IntKind.wrap_i64]; omega
theorem isSome_of_lt {α : Type} {l : List α} {i : Nat} (h : i < l.length) : ∃ x, l[i]? = some x := ⟨_, List.getElem?_eq_getElem h⟩
def ints (l : List Int) : List AVal := l.map fun n => .int .i64 n
theorem ints_len (l : List Int) : (ints l).length = l.length := by simp [ints]
theorem ints_get {l : List Int} {i : Nat} {n : Int} (h : l[i]? = some n) : (ints l)[i]? = some (.int .i64 n) := by simp [ints, h]
theorem ints_one (l : List Int) : ∀ x ∈ ints l, x.one = true := by intro x hx; simp only [ints, List.mem_map] at hx; obtain ⟨n, _, rfl⟩ := hx; rfl
theorem ints_snoc (l : List Int) (n : Int) : ints (l ++ [n]) = ints l ++ [.int .i64 n] := by simp [ints]
theorem ints_set (l : List Int) (i : Nat) (n : Int) : ints (l.set i n) = (ints l).set i (.int .i64 n) := by simp [ints]
theorem wrap64 {a : Int} (h1 : -9223372036854775808 ≤ a) (h2 : a ≤ 9223372036854775807) : IntKind.i64.wrap a = a := by
  rw [IntKind.wrap_i64]; omega
end Go.Abs.S
