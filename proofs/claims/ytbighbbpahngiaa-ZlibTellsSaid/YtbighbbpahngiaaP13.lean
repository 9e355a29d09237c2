/- Part of a proof (S14 S18 S19 S20 S21 Z0 ZN0 S22 S23 Z1 Z2 S24); no condition. -/
import Derived.Test.YtbighbbpahngiaaP7
import Derived.Test.YtbighbbpahngiaaP12
set_option linter.unusedSimpArgs false
set_option linter.unusedVariables false
set_option linter.unnecessarySimpa false
namespace Go.Abs.S
open Go.Abs
def AppN (m n : Nat) (H : AHeap) (s : AVal) (L : List AVal) (k : Nat) : Prop :=
  (s = nilS ∧ L = [] ∧ k = 0) ∨ ∃ b low, s = .slice (some ⟨b, L.length, 0⟩) k (.open_ m) ∧ L.length = m * k ∧ n ≤ b ∧ b < H.next ∧ H.get b = some (.cells L low false) ∧ low ≤ L.length ∧ 0 < k
theorem AppN.nil (m n : Nat) (H : AHeap) : AppN m n H nilS [] 0 := .inl ⟨rfl, rfl, rfl⟩
theorem AppN.ext {m n k : Nat} {H H' : AHeap} {s : AVal} {L : List AVal} (h : AppN m n H s L k) (e : Ext H.next H H') : AppN m n H' s L k := by
  rcases h with h | ⟨b, low, h1, h2, h3, h4, h5, h6⟩
  · exact .inl h
  · exact .inr ⟨b, low, h1, h2, h3, Nat.lt_of_lt_of_le h4 e.next, (e.old b h4).trans h5, h6⟩
theorem AppN.len {m n k : Nat} {H : AHeap} {s : AVal} {L : List AVal} (h : AppN m n H s L k) : aLenK false s = some (.int .i64 (k : Int)) := by
  rcases h with ⟨rfl, _, rfl⟩ | ⟨b, low, rfl, _⟩ <;> rfl
theorem AppN.blk {m n k : Nat} {H : AHeap} {s : AVal} {L : List AVal} (h : AppN m n H s L k) : ∀ a j r, s = .slice (some a) j r → a.b < H.next := by
  intro a j r he
  rcases h with ⟨rfl, _⟩ | ⟨b, low, rfl, _, _, h4, _⟩
  · simp [nilS] at he
  · simp only [AVal.slice.injEq, Option.some.injEq] at he
    rw [← he.1]; exact h4
def oneM (H : AHeap) (m : Nat) : AVal := .slice (some ⟨H.next, m, 0⟩) 1 (.known 1)
theorem srcM {m : Nat} {xs : List AVal} (H : AHeap) (hx : xs.length = m) : aSrc m (H.push (.cells xs 0 false)) (oneM H m) = some (1, xs) := by
  subst hx
  have := rd_whole (H := H.push (.cells xs 0 false)) (b := H.next) (l := xs) (low := 0) (ro := false) (by rw [AHeap.get_push, if_pos rfl]) (Nat.zero_le _)
  simp only [aSrc, oneM, Nat.one_mul, this]
theorem AppN.push {m n k : Nat} {H : AHeap} {s : AVal} {L : List AVal} (h : AppN m n H s L k) (hn : n ≤ H.next) {xs : List AVal} (hx : xs.length = m) (ho : xs.all AVal.one = true) (hm : 0 < m) {bytes : Nat} (hb : 2 * (k + 1) * bytes ≤ 281474976710656) (hb1 : 0 < bytes) :
    ∃ s' H', aAppend m bytes (H.push (.cells xs 0 false)) s (oneM H m) = some (s', H') ∧ AppN m n H' s' (L ++ xs) (k + 1) ∧ Ext n H H' ∧ ∀ c, c < H.next → (∀ a j r, s = .slice (some a) j r → c ≠ a.b) → H'.get c = H.get c := by
  have hlen : k + 1 ≤ 9223372036854775807 := by
    have : 2 * (k + 1) ≤ 2 * (k + 1) * bytes := Nat.le_mul_of_pos_right _ hb1
    omega
  have hlt : Nat.blt 0 m = true := by simpa [Nat.blt_eq] using hm
  have c1 : ∀ j, j = k → (Nat.blt 0 m && (Nat.ble ((2 * (j + 1) + 0) * bytes) 281474976710656 && (Nat.ble (j + 1) 9223372036854775807 && (Nat.beq xs.length (1 * m) && xs.all AVal.one)))) = true := by
    intro j hj
    subst hj
    simp only [Nat.add_zero, Nat.ble_eq_true_of_le hb, Nat.ble_eq_true_of_le hlen, hx, Nat.one_mul, Nat.beq_refl, ho, hlt, Bool.and_self]
  rcases h with ⟨rfl, rfl, rfl⟩ | ⟨b, low, rfl, h2, h3, h4, h5, h6, h7⟩
  · refine ⟨.slice (some ⟨H.next + 1, m, 0⟩) 1 (.open_ m), (H.push (.cells xs 0 false)).push (.cells xs 0 false), ?_, .inr ⟨H.next + 1, 0, by simp [hx], by simp [hx], by omega, Nat.lt_succ_self _, ?_, Nat.zero_le _, by omega⟩, ((Ext.refl n H).push hn _).push (by rw [push_next]; omega) _, fun c hc _ => by rw [AHeap.get_push, if_neg (by rw [push_next]; omega), get_push_lt hc]⟩
    · simp only [aAppend, srcM H hx, nilS]
      rw [show Nat.beq 1 0 = false from rfl, cond_false, c1 0 rfl, cond_true, hx]
      rfl
    · rw [AHeap.get_push]; exact if_pos rfl
  · have hg : (H.push (.cells xs 0 false)).get b = some (.cells L low false) := by rw [AHeap.get_push, if_neg (by omega)]; exact h5
    have hgrow : growCells (H.push (.cells xs 0 false)) ⟨b, L.length, 0⟩ L.length xs = some ((H.push (.cells xs 0 false)).set b (.cells (L ++ xs) low false)) := by
      unfold growCells
      simp only [hg, Nat.ble_eq_true_of_le h6, Nat.ble_eq_true_of_le (Nat.le_refl _), Nat.ble_eq_true_of_le (Nat.zero_le _), Nat.ble_eq_true_of_le (show L.length + 1 ≤ L.length + xs.length by omega), Nat.beq_refl, ho, Bool.and_self, cond_true, List.take_length]
    refine ⟨.slice (some ⟨b, L.length + m, 0⟩) (k + 1) (.open_ m), (H.push (.cells xs 0 false)).set b (.cells (L ++ xs) low false), ?_, .inr ⟨b, low, by simp [hx], by rw [List.length_append, h2, hx, Nat.mul_add, Nat.mul_one], h3, by rw [set_next, push_next]; omega, by rw [AHeap.get_set, if_pos rfl], by simp; omega, by omega⟩, ((Ext.refl n H).push hn _).set h3 _, fun c hc hd => by rw [AHeap.get_set, if_neg (hd _ _ _ rfl), get_push_lt hc]⟩
    have e0 : 0 + k * m = L.length := by rw [h2, Nat.mul_comm]; omega
    have e1 : Nat.ble (0 + (k + 1) * m) L.length = false := by
      rw [ble_dec]; refine decide_eq_false ?_
      rw [Nat.add_mul, Nat.one_mul]; omega
    simp only [aAppend, srcM H hx]
    rw [show Nat.beq 1 0 = false from rfl, cond_false, c1 k rfl, cond_true]
    simp only [Nat.beq_refl, cond_true, e1, cond_false, e0, hgrow, hx]
theorem idxM {b lim k m : Nat} (K : IntKind) {i : Nat} (h : i < k) : aIdxA m (.slice (some ⟨b, lim, 0⟩) k (.open_ m)) (.int K (i : Int)) = some (cellR b lim (i * m)) := by
  show (bif Nat.blt i k then some (AVal.ptr (some ⟨b, lim, 0 + i * m⟩)) else none) = _
  have : Nat.blt i k = true := by simpa [Nat.blt_eq] using h
  rw [this, Nat.zero_add]; rfl
end Go.Abs.S
namespace Go.Abs.S
open Go.Abs
def Blk (v : AVal) (P : Nat → Prop) : Prop := ∀ a m r, v = .slice (some a) m r → P a.b
theorem Blk.mono {v : AVal} {P Q : Nat → Prop} (h : Blk v P) (k : ∀ b, P b → Q b) : Blk v Q := fun a m r e => k _ (h a m r e)
theorem isE_blk {s : AVal} (h : isE s = true) (P : Nat → Prop) : Blk s P := by
  rcases isE_cases h with rfl | ⟨a, rfl⟩ <;> (intro a m r e; simp [nilS] at e)
theorem isE_one {s : AVal} (h : isE s = true) : s.one = true := by
  rcases isE_cases h with rfl | ⟨a, rfl⟩ <;> rfl
theorem blk_nil (P : Nat → Prop) : Blk nilS P := by intro a m r h; simp [nilS] at h
theorem blk_some {a : Ad} {m : Nat} {r : Room} {P : Nat → Prop} (h : P a.b) : Blk (.slice (some a) m r) P := by
  intro a' m' r' e
  simp only [AVal.slice.injEq, Option.some.injEq] at e
  rw [← e.1]; exact h
theorem Blk.and {v : AVal} {P Q : Nat → Prop} (h : Blk v P) (k : Blk v Q) : Blk v fun b => P b ∧ Q b := fun a m r e => ⟨h a m r e, k a m r e⟩
theorem rd_row {H : AHeap} {b n : Nat} {l : List AVal} (h : Row H b l) (hn : l.length = n) {i k : Nat} (hik : i + k ≤ n) : rdCells H ⟨b, n, i⟩ k = some ((l.drop i).take k) := by
  subst hn
  obtain ⟨low, h1, h2⟩ := h
  unfold rdCells
  simp only [h1, Nat.ble_eq_true_of_le h2, Nat.ble_eq_true_of_le (Nat.le_refl _), Nat.ble_eq_true_of_le hik, Bool.and_self, cond_true]
theorem row_loadK {H : AHeap} {b n : Nat} {l : List AVal} (h : Row H b l) (hn : l.length = n) {i k : Nat} (hik : i + k ≤ n) : oLoad true k H (cellR b n i) = some (.agg ((l.drop i).take k)) := by
  simp only [oLoad, cellR, rd_row h hn hik, cond_true]
theorem row_storeK {H : AHeap} {b n : Nat} {l : List AVal} (h : Row H b l) (hn : l.length = n) {i k : Nat} (hik : i + k ≤ n) {xs : List AVal} (hx : xs.length = k) (ho : xs.all AVal.one = true) :
    ∃ H', oStore k H (cellR b n i) (.agg xs) = some H' ∧ Row H' b (l.take i ++ (xs ++ l.drop (i + k))) ∧ H'.next = H.next ∧ ∀ c, c ≠ b → H'.get c = H.get c := by
  subst hn hx
  obtain ⟨low, h1, h2⟩ := h
  refine ⟨H.set b (.cells (l.take i ++ (xs ++ l.drop (i + xs.length))) l.length false), ?_, ⟨l.length, by rw [AHeap.get_set, if_pos rfl], by simp; omega⟩, rfl, fun c hc => by rw [AHeap.get_set, if_neg hc]⟩
  simp only [oStore, cellR, cells_agg, Nat.beq_refl, cond_true]
  unfold wrCells
  simp only [h1, Nat.ble_eq_true_of_le h2, Nat.beq_refl, Nat.ble_eq_true_of_le hik, ho, Bool.and_self, cond_true]
theorem fldA (b n i o : Nat) : aField o (cellR b n i) = some (cellR b n (i + o)) := _root_.id rfl
theorem nil_cell (b n i : Nat) : aNilChk (cellR b n i) = some (cellR b n i) := _root_.id rfl
theorem eq_ptr_nil (b n i : Nat) : aPf (.eqv false .ptr) [cellR b n i, .ptr none] = some (.bool false) := _root_.id rfl
theorem AppN.blk' {m n k : Nat} {H : AHeap} {s : AVal} {L : List AVal} (h : AppN m n H s L k) : Blk s (· < H.next) := fun a j r e => h.blk a j r e
theorem AppN.same {m n k : Nat} {H H' : AHeap} {s : AVal} {L : List AVal} (h : AppN m n H s L k) (hn : H.next ≤ H'.next) (e : Blk s fun b => H'.get b = H.get b) : AppN m n H' s L k := by
  rcases h with h | ⟨b, low, rfl, h2, h3, h4, h5, h6, h7⟩
  · exact .inl h
  · exact .inr ⟨b, low, rfl, h2, h3, by omega, (e _ _ _ rfl).trans h5, h6, h7⟩
theorem AppN.one {m n k : Nat} {H : AHeap} {s : AVal} {L : List AVal} (h : AppN m n H s L k) : s.one = true := by
  rcases h with ⟨rfl, _⟩ | ⟨b, low, rfl, _⟩ <;> rfl
theorem AppN.pushB {m k : Nat} {H : AHeap} {s : AVal} {L : List AVal} (h : AppN m 0 H s L k) {xs : List AVal} (hx : xs.length = m) (ho : xs.all AVal.one = true) (hm : 0 < m) {bytes : Nat} (hb : 2 * (k + 1) * bytes ≤ 281474976710656) (hb1 : 0 < bytes) :
    ∃ s' H', aAppend m bytes (H.push (.cells xs 0 false)) s (oneM H m) = some (s', H') ∧ AppN m 0 H' s' (L ++ xs) (k + 1) ∧ H.next ≤ H'.next ∧ (∀ P, Blk s P → Blk s' fun b => P b ∨ H.next ≤ b) ∧ ∀ c, c < H.next → Blk s (c ≠ ·) → H'.get c = H.get c := by
  rcases h with ⟨rfl, rfl, rfl⟩ | ⟨b, low, rfl, h2, h3, h4, h5, h6, h7⟩
  · obtain ⟨s', H', h1, h2, h3, h4⟩ := (AppN.nil m H.next H).push (Nat.le_refl _) hx ho hm hb hb1
    refine ⟨s', H', h1, ?_, h3.next, fun P _ => ?_, fun c hc _ => h3.old c hc⟩
    · rcases h2 with h2 | ⟨b, low, e1, e2, e3, e4, e5, e6, e7⟩
      · exact .inl h2
      · exact .inr ⟨b, low, e1, e2, Nat.zero_le _, e4, e5, e6, e7⟩
    · rcases h2 with ⟨_, _, h2⟩ | ⟨b, low, rfl, e2, e3, e4, e5, e6, e7⟩
      · omega
      · exact blk_some (.inr e3)
  · have h0 : AppN m 0 H (.slice (some ⟨b, L.length, 0⟩) k (.open_ m)) L k := .inr ⟨b, low, rfl, h2, h3, h4, h5, h6, h7⟩
    have hb' : AppN m b H (.slice (some ⟨b, L.length, 0⟩) k (.open_ m)) L k := .inr ⟨b, low, rfl, h2, Nat.le_refl _, h4, h5, h6, h7⟩
    have hlen : k + 1 ≤ 9223372036854775807 := by
      have : 2 * (k + 1) ≤ 2 * (k + 1) * bytes := Nat.le_mul_of_pos_right _ hb1
      omega
    have hlt : Nat.blt 0 m = true := by simpa [Nat.blt_eq] using hm
    have c1 : (Nat.blt 0 m && (Nat.ble ((2 * (k + 1) + 0) * bytes) 281474976710656 && (Nat.ble (k + 1) 9223372036854775807 && (Nat.beq xs.length (1 * m) && xs.all AVal.one)))) = true := by
      simp only [Nat.add_zero, Nat.ble_eq_true_of_le hb, Nat.ble_eq_true_of_le hlen, hx, Nat.one_mul, Nat.beq_refl, ho, hlt, Bool.and_self]
    have hg : (H.push (.cells xs 0 false)).get b = some (.cells L low false) := by rw [AHeap.get_push, if_neg (by omega)]; exact h5
    have hgrow : growCells (H.push (.cells xs 0 false)) ⟨b, L.length, 0⟩ L.length xs = some ((H.push (.cells xs 0 false)).set b (.cells (L ++ xs) low false)) := by
      unfold growCells
      simp only [hg, Nat.ble_eq_true_of_le h6, Nat.ble_eq_true_of_le (Nat.le_refl _), Nat.ble_eq_true_of_le (Nat.zero_le _), Nat.ble_eq_true_of_le (show L.length + 1 ≤ L.length + xs.length by omega), Nat.beq_refl, ho, Bool.and_self, cond_true, List.take_length]
    have e0 : 0 + k * m = L.length := by rw [h2, Nat.mul_comm]; omega
    have e1 : Nat.ble (0 + (k + 1) * m) L.length = false := by
      rw [ble_dec]; refine decide_eq_false ?_
      rw [Nat.add_mul, Nat.one_mul]; omega
    refine ⟨.slice (some ⟨b, L.length + m, 0⟩) (k + 1) (.open_ m), (H.push (.cells xs 0 false)).set b (.cells (L ++ xs) low false), ?_, .inr ⟨b, low, by simp [hx], by rw [List.length_append, h2, hx, Nat.mul_add, Nat.mul_one], Nat.zero_le _, by rw [set_next, push_next]; omega, by rw [AHeap.get_set, if_pos rfl], by simp; omega, by omega⟩, by rw [set_next, push_next]; omega, fun P hP => (have hP2 : P b := hP _ _ _ rfl; blk_some (.inl hP2)), fun c hc hd => by rw [AHeap.get_set, if_neg (hd _ _ _ rfl), get_push_lt hc]⟩
    simp only [aAppend, srcM H hx]
    rw [show Nat.beq 1 0 = false from rfl, cond_false, c1, cond_true]
    simp only [Nat.beq_refl, cond_true, e1, cond_false, e0, hgrow, hx]
end Go.Abs.S
namespace Go.Abs.S
open Go.Abs
end Go.Abs.S
namespace Go.Abs.S
open Go.Abs
def hold (c : ACode) : ACode := c
theorem hold_eq (c : ACode) : hold c = c := _root_.id rfl
theorem aeq_nilS : aeq nilS nilS = true := rfl
end Go.Abs.S
namespace Go.Abs.S
open Go.Abs
theorem sW : type_of% (And.intro (And.intro (And.intro (And.intro (And.intro (And.intro (And.intro (@pf_min) (@undef_bool)) (And.intro (@str_len) (@str_eql))) (And.intro (And.intro (@str_neq) (@conv_in)) (@un_not))) (And.intro (And.intro (And.intro (@eq_self.{1}) (@decide_true)) (@decide_false)) (And.intro (And.intro (@Bool.not_true) (@Bool.not_false)) (@argE_0)))) (And.intro (And.intro (And.intro (And.intro (@argE_1) (@argE_2)) (And.intro (@argE_3) (@argE_4))) (And.intro (And.intro (@aw_skip) (@aw_reg)) (@aw_seq))) (And.intro (And.intro (And.intro (@aw_cond) (@aw_exit)) (@aw_ret)) (And.intro (And.intro (@inSeq_normal) (@inSeq_exit)) (@inSeq_ret))))) (And.intro (And.intro (And.intro (And.intro (And.intro (@inBlk_exit) (@inBlk_normal)) (And.intro (@inBlk_ret) (@OptK_some))) (And.intro (And.intro (@OptH_some) (@OptS_some)) (@kont_app))) (And.intro (And.intro (And.intro (@ar_nil) (@ar_guard)) (@ar_mv)) (And.intro (And.intro (@ar_pick) (@ar_new)) (@ar_box)))) (And.intro (And.intro (And.intro (And.intro (@ar_build) (@ar_buildSl)) (@ar_load)) (And.intro (And.intro (@ar_store) (@ar_nilChk)) (@ar_bin))) (And.intro (And.intro (And.intro (@ar_un) (@ar_conv)) (@ar_convSB)) (And.intro (And.intro (@ar_convBS) (@ar_mkFunc)) (@ar_mkIface)))))) (And.intro (And.intro (And.intro (And.intro (And.intro (And.intro (@ar_mkSlice) (@ar_sl)) (And.intro (@ar_slStr) (@ar_fieldA))) (And.intro (And.intro (@ar_field) (@ar_idxA)) (@ar_idxArr))) (And.intro (And.intro (And.intro (@ar_idx) (@ar_idxS)) (@ar_extract)) (And.intro (And.intro (@ar_append) (@ar_len)) (@ar_call)))) (And.intro (And.intro (And.intro (And.intro (@ar_callv) (@callvP_func)) (@ar_pf)) (And.intro (And.intro (@ar_hf) (@ar_slA)) (@upO_some))) (And.intro (And.intro (And.intro (@upO_none) (@sX_t)) (@sX_c)) (And.intro (And.intro (@sX_f) (@fin_t)) (@fin_t2))))) (And.intro (And.intro (And.intro (And.intro (And.intro (@fin_t3) (@up_same)) (And.intro (@up_ne) (@ne_eq.{1}))) (And.intro (And.intro (@not_false_eq_true) (@AVal.bool.injEq)) (@decide_eq_true_eq))) (And.intro (And.intro (And.intro (@decide_eq_false_iff_not) (@Int.ofNat_eq_natCast)) (@Int.cast_ofNat_Int)) (And.intro (And.intro (@bin_lss) (@bin_leq)) (@bin_gtr)))) (And.intro (And.intro (And.intro (And.intro (@bin_geq) (@bin_eql)) (@bin_neq)) (And.intro (And.intro (@bin_add) (@bin_sub)) (@bin_mul))) (And.intro (And.intro (And.intro (@Bool.not_eq_true') (@Bool.not_eq_false')) (@Bool.true_eq_false)) (And.intro (And.intro (@Bool.false_eq_true) (@if_true.{1})) (@if_false.{1}))))))) := And.intro (And.intro (And.intro (And.intro (And.intro (And.intro (And.intro (@pf_min) (@undef_bool)) (And.intro (@str_len) (@str_eql))) (And.intro (And.intro (@str_neq) (@conv_in)) (@un_not))) (And.intro (And.intro (And.intro (@eq_self.{1}) (@decide_true)) (@decide_false)) (And.intro (And.intro (@Bool.not_true) (@Bool.not_false)) (@argE_0)))) (And.intro (And.intro (And.intro (And.intro (@argE_1) (@argE_2)) (And.intro (@argE_3) (@argE_4))) (And.intro (And.intro (@aw_skip) (@aw_reg)) (@aw_seq))) (And.intro (And.intro (And.intro (@aw_cond) (@aw_exit)) (@aw_ret)) (And.intro (And.intro (@inSeq_normal) (@inSeq_exit)) (@inSeq_ret))))) (And.intro (And.intro (And.intro (And.intro (And.intro (@inBlk_exit) (@inBlk_normal)) (And.intro (@inBlk_ret) (@OptK_some))) (And.intro (And.intro (@OptH_some) (@OptS_some)) (@kont_app))) (And.intro (And.intro (And.intro (@ar_nil) (@ar_guard)) (@ar_mv)) (And.intro (And.intro (@ar_pick) (@ar_new)) (@ar_box)))) (And.intro (And.intro (And.intro (And.intro (@ar_build) (@ar_buildSl)) (@ar_load)) (And.intro (And.intro (@ar_store) (@ar_nilChk)) (@ar_bin))) (And.intro (And.intro (And.intro (@ar_un) (@ar_conv)) (@ar_convSB)) (And.intro (And.intro (@ar_convBS) (@ar_mkFunc)) (@ar_mkIface)))))) (And.intro (And.intro (And.intro (And.intro (And.intro (And.intro (@ar_mkSlice) (@ar_sl)) (And.intro (@ar_slStr) (@ar_fieldA))) (And.intro (And.intro (@ar_field) (@ar_idxA)) (@ar_idxArr))) (And.intro (And.intro (And.intro (@ar_idx) (@ar_idxS)) (@ar_extract)) (And.intro (And.intro (@ar_append) (@ar_len)) (@ar_call)))) (And.intro (And.intro (And.intro (And.intro (@ar_callv) (@callvP_func)) (@ar_pf)) (And.intro (And.intro (@ar_hf) (@ar_slA)) (@upO_some))) (And.intro (And.intro (And.intro (@upO_none) (@sX_t)) (@sX_c)) (And.intro (And.intro (@sX_f) (@fin_t)) (@fin_t2))))) (And.intro (And.intro (And.intro (And.intro (And.intro (@fin_t3) (@up_same)) (And.intro (@up_ne) (@ne_eq.{1}))) (And.intro (And.intro (@not_false_eq_true) (@AVal.bool.injEq)) (@decide_eq_true_eq))) (And.intro (And.intro (And.intro (@decide_eq_false_iff_not) (@Int.ofNat_eq_natCast)) (@Int.cast_ofNat_Int)) (And.intro (And.intro (@bin_lss) (@bin_leq)) (@bin_gtr)))) (And.intro (And.intro (And.intro (And.intro (@bin_geq) (@bin_eql)) (@bin_neq)) (And.intro (And.intro (@bin_add) (@bin_sub)) (@bin_mul))) (And.intro (And.intro (And.intro (@Bool.not_eq_true') (@Bool.not_eq_false')) (@Bool.true_eq_false)) (And.intro (And.intro (@Bool.false_eq_true) (@if_true.{1})) (@if_false.{1}))))))
theorem sL : type_of% (And.intro (And.intro (@List.nil_append.{0}) (@List.cons_append.{0})) (@List.append_nil.{0})) := And.intro (And.intro (@List.nil_append.{0}) (@List.cons_append.{0})) (@List.append_nil.{0})
theorem sR : type_of% (And.intro (And.intro (And.intro (And.intro (And.intro (And.intro (@consK_app) (@OptKT_some)) (@OptHT_some)) (And.intro (@OptST_some) (@kontT_app))) (And.intro (And.intro (And.intro (@tr_nil) (@tr_guard)) (@tr_pick)) (And.intro (@tr_mv) (@tr_new)))) (And.intro (And.intro (And.intro (And.intro (@tr_box) (@tr_build)) (@tr_buildSl)) (And.intro (@tr_load) (@tr_store))) (And.intro (And.intro (And.intro (@tr_nilChk) (@tr_bin)) (@tr_un)) (And.intro (@tr_conv) (@tr_convSB))))) (And.intro (And.intro (And.intro (And.intro (And.intro (@tr_convBS) (@tr_mkFunc)) (@tr_mkIface)) (And.intro (@tr_mkSlice) (@tr_sl))) (And.intro (And.intro (And.intro (@tr_slStr) (@tr_fieldA)) (@tr_field)) (And.intro (@tr_idxA) (@tr_idxArr)))) (And.intro (And.intro (And.intro (And.intro (@tr_idx) (@tr_idxS)) (@tr_extract)) (And.intro (@tr_append) (@tr_len))) (And.intro (And.intro (And.intro (@tr_call) (@tr_callv)) (@tr_pf)) (And.intro (@tr_hf) (@tr_slA)))))) := And.intro (And.intro (And.intro (And.intro (And.intro (And.intro (@consK_app) (@OptKT_some)) (@OptHT_some)) (And.intro (@OptST_some) (@kontT_app))) (And.intro (And.intro (And.intro (@tr_nil) (@tr_guard)) (@tr_pick)) (And.intro (@tr_mv) (@tr_new)))) (And.intro (And.intro (And.intro (And.intro (@tr_box) (@tr_build)) (@tr_buildSl)) (And.intro (@tr_load) (@tr_store))) (And.intro (And.intro (And.intro (@tr_nilChk) (@tr_bin)) (@tr_un)) (And.intro (@tr_conv) (@tr_convSB))))) (And.intro (And.intro (And.intro (And.intro (And.intro (@tr_convBS) (@tr_mkFunc)) (@tr_mkIface)) (And.intro (@tr_mkSlice) (@tr_sl))) (And.intro (And.intro (And.intro (@tr_slStr) (@tr_fieldA)) (@tr_field)) (And.intro (@tr_idxA) (@tr_idxArr)))) (And.intro (And.intro (And.intro (And.intro (@tr_idx) (@tr_idxS)) (@tr_extract)) (And.intro (@tr_append) (@tr_len))) (And.intro (And.intro (And.intro (@tr_call) (@tr_callv)) (@tr_pf)) (And.intro (@tr_hf) (@tr_slA)))))
theorem sXs_n (T : Env) : sXs T [] = [] := _root_.id rfl
theorem sXs_c (T : Env) (x : Opd) (r : List Opd) : sXs T (x :: r) = sX T x :: sXs T r := _root_.id rfl
theorem sXO_n (T : Env) : sXO T none = none := _root_.id rfl
theorem sXO_s (T : Env) (x : Opd) : sXO T (some x) = some (sX T x) := _root_.id rfl
theorem sXP_n (T : Env) : sXP T [] = [] := _root_.id rfl
theorem sXP_c (T : Env) (o n : Nat) (x : Opd) (r : List (Nat × Nat × Opd)) : sXP T ((o, n, x) :: r) = (o, n, sX T x) :: sXP T r := _root_.id rfl
theorem sA : type_of% (And.intro sW (And.intro sL (And.intro @aw_block (And.intro @sXs_n (And.intro @sXs_c (And.intro @sXO_n (And.intro @sXO_s (And.intro @sXP_n @sXP_c)))))))) := And.intro sW (And.intro sL (And.intro @aw_block (And.intro @sXs_n (And.intro @sXs_c (And.intro @sXO_n (And.intro @sXO_s (And.intro @sXP_n @sXP_c)))))))
end Go.Abs.S
namespace Go.Proofs.Zt
open Go.Abs Go.Abs.S
abbrev Bs := List UInt8
def bitsN : Nat → Nat → List Bool
  | _, 0 => []
  | n, k + 1 => (n % 2 == 1) :: bitsN (n / 2) k
def natOf : List Bool → Nat
  | [] => 0
  | b :: r => (if b then 1 else 0) + 2 * natOf r
theorem bitsN_len (n k : Nat) : (bitsN n k).length = k := by
  induction k generalizing n with
  | zero => rfl
  | succ k ih => simp [bitsN, ih]
theorem natOf_lt (l : List Bool) : natOf l < 2 ^ l.length := by
  induction l with
  | nil => simp [natOf]
  | cons b r ih => simp only [natOf, List.length_cons, Nat.pow_succ]; split <;> omega
theorem natOf_append (a b : List Bool) : natOf (a ++ b) = natOf a + 2 ^ a.length * natOf b := by
  induction a with
  | nil => simp [natOf]
  | cons x r ih =>
    simp only [List.cons_append, natOf, ih, List.length_cons, Nat.pow_succ]
    have : 2 ^ r.length * 2 * natOf b = 2 * (2 ^ r.length * natOf b) := by rw [Nat.mul_comm (2 ^ r.length) 2, Nat.mul_assoc]
    rw [this]; omega
theorem natOf_bits {n k : Nat} (h : n < 2 ^ k) : natOf (bitsN n k) = n := by
  induction k generalizing n with
  | zero => simp at h; subst h; rfl
  | succ k ih =>
    rw [Nat.pow_succ] at h
    simp only [bitsN, natOf, ih (n := n / 2) (by omega)]
    by_cases h1 : n % 2 = 1
    · simp [h1]; omega
    · simp [h1]; omega
theorem bits_split (n a b : Nat) : bitsN n (a + b) = bitsN n a ++ bitsN (n / 2 ^ a) b := by
  induction a generalizing n with
  | zero => simp [bitsN]
  | succ a ih =>
    rw [show a + 1 + b = (a + b) + 1 by omega]
    simp only [bitsN, ih, List.cons_append]
    rw [Nat.div_div_eq_div_mul, ← Nat.pow_succ']
theorem bits_mod (n k : Nat) : bitsN (n % 2 ^ k) k = bitsN n k := by
  induction k generalizing n with
  | zero => rfl
  | succ k ih =>
    simp only [bitsN]
    have h1 : n % 2 ^ (k + 1) % 2 = n % 2 := by
      rw [Nat.pow_succ]
      exact Nat.mod_mul_left_mod n (2 ^ k) 2
    have h2 : n % 2 ^ (k + 1) / 2 = (n / 2) % 2 ^ k := by
      rw [Nat.pow_succ, Nat.mul_comm, Nat.mod_mul_right_div_self]
    rw [h1, h2, ih]
theorem natOf_take (n k : Nat) : natOf (bitsN n k) = n % 2 ^ k := by
  rw [← bits_mod, natOf_bits (Nat.mod_lt _ (Nat.two_pow_pos k))]
def byteAt (l : List Bool) (j : Nat) : Nat := natOf ((l.drop (8 * j)).take 8)
def pack (l : List Bool) : List Nat := (List.range ((l.length + 7) / 8)).map (byteAt l)
theorem pack_len (l : List Bool) : (pack l).length = (l.length + 7) / 8 := by simp [pack]
theorem byteAt_lt (l : List Bool) (j : Nat) : byteAt l j < 256 := by
  have h := natOf_lt ((l.drop (8 * j)).take 8)
  have h2 : ((l.drop (8 * j)).take 8).length ≤ 8 := by simp; omega
  exact Nat.lt_of_lt_of_le h (Nat.pow_le_pow_right (by omega) h2)
theorem pack_lt {l : List Bool} {x : Nat} (h : x ∈ pack l) : x < 256 := by
  simp only [pack, List.mem_map, List.mem_range] at h
  obtain ⟨j, _, rfl⟩ := h
  exact byteAt_lt _ _
theorem pack_get {l : List Bool} {j : Nat} (h : j < (l.length + 7) / 8) : (pack l)[j]? = some (byteAt l j) := by
  simp [pack, h]
def openP (m : List Bool) : List Nat := if m.length % 8 = 0 then pack m ++ [0] else pack m
theorem openP_len (m : List Bool) : (openP m).length = m.length / 8 + 1 := by
  unfold openP
  split
  · rw [List.length_append, pack_len]; simp; omega
  · rw [pack_len]; omega
theorem openP_last (m : List Bool) : (openP m)[m.length / 8]? = some (byteAt m (m.length / 8)) := by
  unfold openP
  split
  · rename_i h
    have hl : (pack m).length = m.length / 8 := by rw [pack_len]; omega
    rw [List.getElem?_append_right (by omega), hl, Nat.sub_self]
    have : byteAt m (m.length / 8) = 0 := by
      unfold byteAt
      rw [List.drop_of_length_le (by omega)]; rfl
    rw [this]; rfl
  · exact pack_get (by omega)
theorem pack_step (m bs : List Bool) (h0 : 0 < bs.length) (h : m.length % 8 + bs.length ≤ 8) :
    pack (m ++ bs) = (openP m).set (m.length / 8) (byteAt m (m.length / 8) + natOf bs * 2 ^ (m.length % 8)) := by
  have hlast : byteAt m (m.length / 8) < 2 ^ (m.length % 8) := by
    have h1 := natOf_lt ((m.drop (8 * (m.length / 8))).take 8)
    have h2 : ((m.drop (8 * (m.length / 8))).take 8).length = m.length % 8 := by simp; omega
    rw [h2] at h1; exact h1
  apply List.ext_getElem?
  intro j
  have hL : (m ++ bs).length = m.length + bs.length := by simp
  by_cases hj : j < m.length / 8
  · rw [pack_get (by rw [hL]; omega), List.getElem?_set_ne (by omega)]
    have e : byteAt (m ++ bs) j = byteAt m j := by
      unfold byteAt
      rw [List.drop_append_of_le_length (by omega), List.take_append_of_le_length (by simp; omega)]
    rw [e]
    unfold openP
    split
    · rw [List.getElem?_append_left (by rw [pack_len]; omega)]
      exact (pack_get (by omega)).symm
    · exact (pack_get (by omega)).symm
  · by_cases hj2 : j = m.length / 8
    · subst hj2
      rw [pack_get (by rw [hL]; omega), List.getElem?_set_self (by rw [openP_len]; omega)]
      congr 1
      unfold byteAt
      rw [List.drop_append_of_le_length (by omega)]
      have hd : (m.drop (8 * (m.length / 8))).length = m.length % 8 := by simp; omega
      rw [List.take_of_length_le (by rw [List.length_append, hd]; omega), natOf_append, hd, List.take_of_length_le (by rw [hd]; omega), Nat.mul_comm (2 ^ (m.length % 8))]
    · rw [List.getElem?_eq_none (by rw [pack_len, hL]; omega), List.getElem?_eq_none (by rw [List.length_set, openP_len]; omega)]
def fillN (n : Nat) : Nat := (8 - n % 8) % 8
theorem fill_ok (n : Nat) : (n + fillN n) % 8 = 0 := by unfold fillN; omega
structure Tok where
  n : Nat
  back : Nat
  b : UInt8
def run (b : Bs) : Nat → Nat → Nat → Nat
  | _, _, 0 => 0
  | p, i, m + 1 => if b[p]? = b[i]? then 1 + run b (p + 1) (i + 1) m else 0
theorem run_le (b : Bs) (p i m : Nat) : run b p i m ≤ m := by
  induction m generalizing p i with
  | zero => simp [run]
  | succ m ih =>
    unfold run
    split
    · have := ih (p + 1) (i + 1); omega
    · omega
theorem run_at (b : Bs) : ∀ (m p i j : Nat), j < run b p i m → b[p + j]? = b[i + j]? := by
  intro m
  induction m with
  | zero => intro p i j h; simp [run] at h
  | succ m ih =>
    intro p i j h
    unfold run at h
    split at h
    · rename_i he
      cases j with
      | zero => exact he
      | succ j =>
        have := ih (p + 1) (i + 1) j (by omega)
        rw [show p + (j + 1) = p + 1 + j by omega, show i + (j + 1) = i + 1 + j by omega]; exact this
    · omega
theorem run_stop (b : Bs) : ∀ (m p i : Nat), run b p i m < m → b[p + run b p i m]? ≠ b[i + run b p i m]? := by
  intro m
  induction m with
  | zero => intro p i h; omega
  | succ m ih =>
    intro p i h
    by_cases he : b[p]? = b[i]?
    · have e : run b p i (m + 1) = 1 + run b (p + 1) (i + 1) m := by rw [run, if_pos he]
      rw [e] at h ⊢
      have := ih (p + 1) (i + 1) (by omega)
      rw [show p + (1 + run b (p + 1) (i + 1) m) = p + 1 + run b (p + 1) (i + 1) m by omega, show i + (1 + run b (p + 1) (i + 1) m) = i + 1 + run b (p + 1) (i + 1) m by omega]; exact this
    · have e : run b p i (m + 1) = 0 := by rw [run, if_neg he]
      rw [e]; exact he
def best (b : Bs) (i m : Nat) : Nat → Nat × Nat → Nat × Nat
  | 0, x => x
  | p + 1, x => best b i m p (if x.1 < run b p i m then (run b p i m, p) else x)
def mlen (i to : Nat) : Nat := min 258 (to - i)
def matchF (b : Bs) (i to : Nat) : Nat × Nat := best b i (mlen i to) i (0, 0)
theorem best_spec (b : Bs) (i m : Nat) : ∀ (p : Nat) (x : Nat × Nat), p ≤ i → (x.1 = 0 ∨ (x.2 < i ∧ x.1 = run b x.2 i m)) → (best b i m p x).1 = 0 ∨ ((best b i m p x).2 < i ∧ (best b i m p x).1 = run b (best b i m p x).2 i m)
  | 0, x, _, hx => hx
  | p + 1, x, hp, hx => by
    unfold best
    refine best_spec b i m p _ (by omega) ?_
    split
    · exact .inr ⟨by simp only; omega, rfl⟩
    · exact hx
def toksF (b : Bs) (to : Nat) : Nat → Nat → List Tok
  | 0, _ => []
  | f + 1, i => if i < to then
      if 3 ≤ (matchF b i to).1 then ⟨(matchF b i to).1, i - (matchF b i to).2, 0⟩ :: toksF b to f (i + (matchF b i to).1)
      else ⟨0, 0, b.getD i 0⟩ :: toksF b to f (i + 1)
    else []
def toks (b : Bs) (from_ to : Nat) : List Tok := toksF b to (to - from_) from_
def codeF (s : Nat) : Nat × Nat := if s ≤ 143 then (48 + s, 8) else if s ≤ 255 then (400 + s - 144, 9) else if s ≤ 279 then (s - 256, 7) else (192 + s - 280, 8)
def fixB (s : Nat) : List Bool := (bitsN (codeF s).1 (codeF s).2).reverse
def lenL : List Nat := [3, 4, 5, 6, 7, 8, 9, 10, 11, 13, 15, 17, 19, 23, 27, 31, 35, 43, 51, 59, 67, 83, 99, 115, 131, 163, 195, 227, 258]
def lenE : List Nat := [0, 0, 0, 0, 0, 0, 0, 0, 1, 1, 1, 1, 2, 2, 2, 2, 3, 3, 3, 3, 4, 4, 4, 4, 5, 5, 5, 5, 0]
def disL : List Nat := [1, 2, 3, 4, 5, 7, 9, 13, 17, 25, 33, 49, 65, 97, 129, 193, 257, 385, 513, 769, 1025, 1537, 2049, 3073, 4097, 6145, 8193, 12289, 16385, 24577]
def disE : List Nat := [0, 0, 0, 0, 1, 1, 2, 2, 3, 3, 4, 4, 5, 5, 6, 6, 7, 7, 8, 8, 9, 9, 10, 10, 11, 11, 12, 12, 13, 13]
def findF (l : List Nat) (n : Nat) : Nat → Nat → Nat
  | 0, k => k
  | f + 1, k => if k + 1 < l.length ∧ l.getD (k + 1) 0 ≤ n then findF l n f (k + 1) else k
def find (l : List Nat) (n : Nat) : Nat := findF l n l.length 0
def lenB (n : Nat) : List Bool := fixB (257 + find lenL n) ++ bitsN (n - lenL.getD (find lenL n) 0) (lenE.getD (find lenL n) 0)
def disB (n : Nat) : List Bool := (bitsN (find disL n) 5).reverse ++ bitsN (n - disL.getD (find disL n) 0) (disE.getD (find disL n) 0)
def tokB (t : Tok) : List Bool := if t.back = 0 then fixB t.b.toNat else lenB t.n ++ disB t.back
def fixedB (l : List Tok) (last : Nat) : List Bool := bitsN last 1 ++ bitsN 1 2 ++ l.flatMap tokB ++ fixB 256
def storedB (at_ : Nat) (b : Bs) (last : Nat) : List Bool := bitsN last 1 ++ bitsN 0 2 ++ List.replicate (fillN (at_ + 3)) false ++ bitsN b.length 16 ++ bitsN (65535 - b.length) 16 ++ b.flatMap fun x => bitsN x.toNat 8
def blockB (at_ : Nat) (b : Bs) (from_ to last : Nat) : List Bool :=
  if (storedB at_ ((b.drop from_).take (to - from_)) last).length < (fixedB (toks b from_ to) last).length then storedB at_ ((b.drop from_).take (to - from_)) last else fixedB (toks b from_ to) last
def adlerF (s : Nat × Nat) (b : Bs) : Nat × Nat := b.foldl (fun s x => ((s.1 + x.toNat) % 65521, (s.2 + (s.1 + x.toNat) % 65521) % 65521)) s
def adler (sum : Nat) (b : Bs) : Nat := (adlerF (sum % 65536 % 65521, sum / 65536 % 65521) b).2 * 65536 + (adlerF (sum % 65536 % 65521, sum / 65536 % 65521) b).1
end Go.Proofs.Zt
namespace Go.Proofs.Zt
open Go.Abs Go.Abs.S Go.Proofs
open Go.Abs.F (fcall f_closed h0 yesT)
theorem awake_run : fcall Go.Abs.TAwk08.tab 3000 21 [] h0 yesT = .yes := by kernel_rfl
theorem awake_calls (w : World) : Calls Try.prog 21 #[] w fun e w' => e = .returned (.bool true) ∧ RowKit.Below w.heap.size w w' :=
  f_closed (by kernel_rfl) Go.Abs.noNat_ok Go.Abs.TAwk08.tab_ok (args := []) (fun ρ => by simp [VRels]) awake_run w
theorem natZ_ok : NatOK Try.prog (natB 21) := natB_ok (by kernel_rfl) awake_calls
abbrev natZ : ANat := natB 21
end Go.Proofs.Zt
namespace Go.Abs.S
open Go.Abs
theorem wrap_u (k : IntKind) (hk : k = .u8 ∨ k = .u16 ∨ k = .u32 ∨ k = .u64) {a : Nat} (h : a < 2 ^ k.bits) : k.wrap (a : Int) = a := by
  rcases hk with rfl | rfl | rfl | rfl
  · rw [IntKind.wrap_u8]; simp only [IntKind.bits] at h; omega
  · rw [IntKind.wrap_u16]; simp only [IntKind.bits] at h; omega
  · rw [IntKind.wrap_u32]; simp only [IntKind.bits] at h; omega
  · rw [IntKind.wrap_u64]; simp only [IntKind.bits] at h; omega
theorem wrap_um (k : IntKind) (hk : k = .u8 ∨ k = .u16 ∨ k = .u32 ∨ k = .u64) (a : Nat) : k.wrap (a : Int) = ((a % 2 ^ k.bits : Nat) : Int) := by
  rcases hk with rfl | rfl | rfl | rfl
  · rw [IntKind.wrap_u8]; simp only [IntKind.bits]; omega
  · rw [IntKind.wrap_u16]; simp only [IntKind.bits]; omega
  · rw [IntKind.wrap_u32]; simp only [IntKind.bits]; omega
  · rw [IntKind.wrap_u64]; simp only [IntKind.bits]; omega
theorem bin_orU (k : IntKind) (hk : k = .u8 ∨ k = .u16 ∨ k = .u32 ∨ k = .u64) {a b : Nat} (ha : a < 2 ^ k.bits) (hb : b < 2 ^ k.bits) : aBin .or (.int k (a : Int)) (.int k (b : Int)) = some (.int k ((a ||| b : Nat) : Int)) := by
  have e : (BitVec.ofInt k.bits (a : Int) ||| BitVec.ofInt k.bits (b : Int)).toNat = a ||| b := by
    rw [BitVec.toNat_or, ofInt_nat, ofInt_nat, Nat.mod_eq_of_lt ha, Nat.mod_eq_of_lt hb]
  simp only [aBin, isShift, cond_false, if_true, aIntF_eq, aInt, e]
  rw [wrap_u k hk (Nat.or_lt_two_pow ha hb)]
theorem bin_andU (k : IntKind) (hk : k = .u8 ∨ k = .u16 ∨ k = .u32 ∨ k = .u64) {a b : Nat} (ha : a < 2 ^ k.bits) (hb : b < 2 ^ k.bits) : aBin .and (.int k (a : Int)) (.int k (b : Int)) = some (.int k ((a &&& b : Nat) : Int)) := by
  have e : (BitVec.ofInt k.bits (a : Int) &&& BitVec.ofInt k.bits (b : Int)).toNat = a &&& b := by
    rw [BitVec.toNat_and, ofInt_nat, ofInt_nat, Nat.mod_eq_of_lt ha, Nat.mod_eq_of_lt hb]
  simp only [aBin, isShift, cond_false, if_true, aIntF_eq, aInt, e]
  rw [wrap_u k hk (Nat.and_lt_two_pow _ hb)]
theorem bin_xorU (k : IntKind) (hk : k = .u8 ∨ k = .u16 ∨ k = .u32 ∨ k = .u64) {a b : Nat} (ha : a < 2 ^ k.bits) (hb : b < 2 ^ k.bits) : aBin .xor (.int k (a : Int)) (.int k (b : Int)) = some (.int k ((a ^^^ b : Nat) : Int)) := by
  have e : (BitVec.ofInt k.bits (a : Int) ^^^ BitVec.ofInt k.bits (b : Int)).toNat = a ^^^ b := by
    rw [BitVec.toNat_xor, ofInt_nat, ofInt_nat, Nat.mod_eq_of_lt ha, Nat.mod_eq_of_lt hb]
  simp only [aBin, isShift, cond_false, if_true, aIntF_eq, aInt, e]
  rw [wrap_u k hk (Nat.xor_lt_two_pow ha hb)]
theorem bin_shlU (k k' : IntKind) (hk : k = .u8 ∨ k = .u16 ∨ k = .u32 ∨ k = .u64) (a : Nat) {b : Nat} (hb : b ≤ k.bits) : aBin .shl (.int k (a : Int)) (.int k' (b : Int)) = some (.int k ((a * 2 ^ b % 2 ^ k.bits : Nat) : Int)) := by
  rw [bin_shl, Nat.min_eq_left hb]
  have e2 : (a : Int) * 2 ^ b = ((a * 2 ^ b : Nat) : Int) := by simp
  rw [e2, wrap_um k hk]
theorem u8s_append (a b : List Nat) : u8s (a ++ b) = u8s a ++ u8s b := by simp [u8s]
theorem u8s_one (l : List Nat) : (u8s l).all AVal.one = true := by simp [u8s, AVal.one]
theorem u8s_byts {l : List Nat} (h : ∀ x ∈ l, x < 256) : u8s l = byts (l.map UInt8.ofNat) := by
  induction l with
  | nil => rfl
  | cons x r ih =>
    have h1 := h x (by simp)
    have h2 := ih fun y hy => h y (by simp [hy])
    simp only [u8s, byts, List.map_cons, List.map_map] at h2 ⊢
    rw [h2]
    congr 2
    simp only [UInt8.toNat_ofNat']
    omega
theorem AppN.many {m k j : Nat} {H : AHeap} {s x : AVal} {L xs : List AVal} (h : AppN m 0 H s L k) (hs : aSrc m H x = some (j, xs)) (hx : xs.length = m * j) (ho : xs.all AVal.one = true) (hm : 0 < m) {bytes : Nat} (hb : 2 * (k + j) * bytes ≤ 281474976710656) (hb1 : 0 < bytes) :
    ∃ s' H', aAppend m bytes H s x = some (s', H') ∧ AppN m 0 H' s' (L ++ xs) (k + j) ∧ H.next ≤ H'.next ∧ (∀ P, Blk s P → Blk s' fun b => P b ∨ H.next ≤ b) ∧ ∀ c, c < H.next → Blk s (c ≠ ·) → H'.get c = H.get c := by
  by_cases hj : j = 0
  · subst hj
    have hxs : xs = [] := List.length_eq_zero_iff.1 (by omega)
    subst hxs
    rw [List.append_nil, Nat.add_zero]
    refine ⟨s, H, ?_, h, Nat.le_refl _, fun P hP => hP.mono fun b hb => .inl hb, fun _ _ _ => rfl⟩
    simp only [aAppend, hs, show Nat.beq 0 0 = true from rfl, cond_true]
    rcases h with ⟨rfl, _⟩ | ⟨b, low, rfl, _⟩ <;> rfl
  have hxl : 0 < xs.length := by rw [hx]; exact Nat.mul_pos hm (by omega)
  have hlen : k + j ≤ 9223372036854775807 := by
    have : 2 * (k + j) ≤ 2 * (k + j) * bytes := Nat.le_mul_of_pos_right _ hb1
    omega
  have hlt : Nat.blt 0 m = true := by simpa [Nat.blt_eq] using hm
  have e0 : Nat.beq j 0 = false := by rw [beq_dec]; exact decide_eq_false hj
  have c1 : ∀ q, q = k → (Nat.blt 0 m && (Nat.ble ((2 * (q + j) + 0) * bytes) 281474976710656 && (Nat.ble (q + j) 9223372036854775807 && (Nat.beq xs.length (j * m) && xs.all AVal.one)))) = true := by
    intro q hq
    subst hq
    simp only [Nat.add_zero, Nat.ble_eq_true_of_le hb, Nat.ble_eq_true_of_le hlen, hx, Nat.mul_comm m j, Nat.beq_refl, ho, hlt, Bool.and_self]
  rcases h with ⟨rfl, rfl, rfl⟩ | ⟨b, low, rfl, h2, h3, h4, h5, h6, h7⟩
  · refine ⟨.slice (some ⟨H.next, xs.length, 0⟩) j (.open_ m), H.push (.cells xs 0 false), ?_, .inr ⟨H.next, 0, by simp, by simp [hx], Nat.zero_le _, Nat.lt_succ_self _, by rw [AHeap.get_push]; exact if_pos rfl, Nat.zero_le _, by omega⟩, by simp [AHeap.push], fun P _ => blk_some (.inr (Nat.le_refl _)), fun c hc _ => get_push_lt hc⟩
    simp only [aAppend, hs, e0, cond_false, nilS]
    rw [c1 0 rfl, cond_true]
  · have hgrow : growCells H ⟨b, L.length, 0⟩ L.length xs = some (H.set b (.cells (L ++ xs) low false)) := by
      unfold growCells
      simp only [h5, Nat.ble_eq_true_of_le h6, Nat.ble_eq_true_of_le (Nat.le_refl _), Nat.ble_eq_true_of_le (Nat.zero_le _), Nat.ble_eq_true_of_le (show L.length + 1 ≤ L.length + xs.length by omega), Nat.beq_refl, ho, Bool.and_self, cond_true, List.take_length]
    have e1 : 0 + k * m = L.length := by rw [h2, Nat.mul_comm]; omega
    have e2 : Nat.ble (0 + (k + j) * m) L.length = false := by
      rw [ble_dec]; refine decide_eq_false ?_
      rw [Nat.add_mul, h2, Nat.mul_comm k m]
      have : 0 < j * m := Nat.mul_pos (by omega) hm
      omega
    refine ⟨.slice (some ⟨b, L.length + xs.length, 0⟩) (k + j) (.open_ m), H.set b (.cells (L ++ xs) low false), ?_, .inr ⟨b, low, by simp, by rw [List.length_append, h2, hx, Nat.mul_add], Nat.zero_le _, by rw [set_next]; exact h4, by rw [AHeap.get_set, if_pos rfl], by simp; omega, by omega⟩, Nat.le_refl _, fun P hP => (have hP2 : P b := hP _ _ _ rfl; blk_some (.inl hP2)), fun c hc hd => by rw [AHeap.get_set, if_neg (hd _ _ _ rfl)]⟩
    simp only [aAppend, hs, e0, cond_false, c1 k rfl, cond_true, Nat.beq_refl, e1, e2, hgrow]
theorem AppN.cel1 {H : AHeap} {s : AVal} {L : List AVal} {k n : Nat} (h : AppN 1 0 H s L k) (hb : Blk s (· < n)) : Cel n H s L := by
  rcases h with ⟨rfl, rfl, _⟩ | ⟨b, low, rfl, h2, _, h4, h5, h6, _⟩
  · exact .inl ⟨rfl, rfl⟩
  · have e : k = L.length := by omega
    exact .inr ⟨⟨b, L.length, 0⟩, .open_ 1, by rw [e], hb _ _ _ rfl, rd_whole h5 h6⟩
theorem AppN.write {H : AHeap} {s : AVal} {L : List AVal} {k : Nat} (h : AppN 1 0 H s L k) {i : Nat} (hi : i < k) {x : AVal} (hx : x.one = true) :
    ∃ a H', aIdxA 1 s (.int .i64 (i : Int)) = some a ∧ (∀ y, L[i]? = some y → oLoad false 1 H a = some y) ∧ oStore 1 H a x = some H' ∧ AppN 1 0 H' s (L.set i x) k ∧ H'.next = H.next ∧ ∀ c, Blk s (c ≠ ·) → H'.get c = H.get c := by
  rcases h with ⟨_, _, h⟩ | ⟨b, low, rfl, h2, h3, h4, h5, h6, h7⟩
  · omega
  · have hR : Row H b L := ⟨low, h5, h6⟩
    have hL : L.length = k := by omega
    obtain ⟨H', m1, ⟨low', r1, r2⟩, k1, o1⟩ := row_store hR hL hi hx
    refine ⟨cellR b k i, H', ?_, fun y hy => row_load hR hL hy, m1, .inr ⟨b, low', by simp, by simp [h2], Nat.zero_le _, by omega, r1, r2, h7⟩, k1, fun c hc => o1 c (hc _ _ _ rfl)⟩
    rw [hL]
    exact row_idx (r := .open_ 1) .i64 hi
def upT (τ : Nat → Nat) (H H' : AHeap) (k : Nat) : Nat → Nat := fun c => if c < H.next then τ c else if c < H'.next then k else 0
theorem upT_old {τ : Nat → Nat} {H H' : AHeap} {k c : Nat} (h : c < H.next) : upT τ H H' k c = τ c := if_pos h
theorem upT_new {τ : Nat → Nat} {H H' : AHeap} {k c : Nat} (h : H.next ≤ c) (h' : c < H'.next) : upT τ H H' k c = k := by
  unfold upT; rw [if_neg (by omega), if_pos h']
theorem upT_z {τ : Nat → Nat} {H H' : AHeap} {k c : Nat} (hn : H.next ≤ H'.next) (h : H'.next ≤ c) : upT τ H H' k c = 0 := by
  unfold upT; rw [if_neg (by omega), if_neg (by omega)]
def FrS (S : Nat → Prop) (τ : Nat → Nat) (H : AHeap) (τ' : Nat → Nat) (H' : AHeap) : Prop := H.next ≤ H'.next ∧ ∀ c, c < H.next → τ' c = τ c ∧ (¬ S (τ c) → H'.get c = H.get c)
theorem FrS.refl (S : Nat → Prop) (τ : Nat → Nat) (H : AHeap) : FrS S τ H τ H := ⟨Nat.le_refl _, fun _ _ => ⟨rfl, fun _ => rfl⟩⟩
theorem FrS.trans {S : Nat → Prop} {τ τ' τ'' : Nat → Nat} {H H' H'' : AHeap} (h : FrS S τ H τ' H') (k : FrS S τ' H' τ'' H'') : FrS S τ H τ'' H'' :=
  ⟨Nat.le_trans h.1 k.1, fun c hc => by
    obtain ⟨e1, e2⟩ := h.2 c hc
    obtain ⟨e3, e4⟩ := k.2 c (Nat.lt_of_lt_of_le hc h.1)
    exact ⟨e3.trans e1, fun hs => (e4 (by rw [e1]; exact hs)).trans (e2 hs)⟩⟩
theorem FrS.wide {S S' : Nat → Prop} {τ τ' : Nat → Nat} {H H' : AHeap} (h : FrS S τ H τ' H') (hs : ∀ k, S k → S' k) : FrS S' τ H τ' H' :=
  ⟨h.1, fun c hc => ⟨(h.2 c hc).1, fun hn => (h.2 c hc).2 fun q => hn (hs _ q)⟩⟩
theorem FrS.of_ext {S : Nat → Prop} {τ : Nat → Nat} {H H' : AHeap} (e : Ext H.next H H') : FrS S τ H τ H' := ⟨e.next, fun c hc => ⟨rfl, fun _ => e.old c hc⟩⟩
end Go.Abs.S
namespace Go.Abs.S
open Go.Abs
def cutP : List Nat → ACode → ACode
  | [], c => hold c
  | 0 :: p, .seq a b => .seq (cutP p a) b
  | 1 :: p, .seq a b => .seq a (cutP p b)
  | 2 :: p, .block i c => .block i (cutP p c)
  | 3 :: p, .loop c => .loop (cutP p c)
  | 4 :: p, .cond x a b => .cond x (cutP p a) b
  | 5 :: p, .cond x a b => .cond x a (cutP p b)
  | _, c => c
def restP : List Nat → ACode → ACode
  | [], c => c
  | 0 :: p, .seq a _ => restP p a
  | 1 :: p, .seq _ b => restP p b
  | 2 :: p, .block _ c => restP p c
  | 3 :: p, .loop c => restP p c
  | 4 :: p, .cond _ a _ => restP p a
  | 5 :: p, .cond _ _ b => restP p b
  | _, c => c
theorem cutP_eq (p : List Nat) : ∀ c : ACode, cutP p c = c := by
  induction p with
  | nil => intro c; rfl
  | cons k p ih =>
    intro c
    unfold cutP
    split <;> first | rfl | (rename_i h; injection h with _ hp; subst hp; rw [ih])
theorem cutP_nil (c : ACode) : cutP [] c = hold c := _root_.id rfl
theorem cutP_0 (p : List Nat) (a b : ACode) : cutP (0 :: p) (.seq a b) = .seq (cutP p a) b := _root_.id rfl
theorem cutP_1 (p : List Nat) (a b : ACode) : cutP (1 :: p) (.seq a b) = .seq a (cutP p b) := _root_.id rfl
theorem cutP_2 (p : List Nat) (i : Nat) (c : ACode) : cutP (2 :: p) (.block i c) = .block i (cutP p c) := _root_.id rfl
theorem cutP_3 (p : List Nat) (c : ACode) : cutP (3 :: p) (.loop c) = .loop (cutP p c) := _root_.id rfl
theorem cutP_4 (p : List Nat) (x : Opd) (a b : ACode) : cutP (4 :: p) (.cond x a b) = .cond x (cutP p a) b := _root_.id rfl
theorem cutP_5 (p : List Nat) (x : Opd) (a b : ACode) : cutP (5 :: p) (.cond x a b) = .cond x a (cutP p b) := _root_.id rfl
theorem wp_cutP {C : CS} {c : ACode} {Q : Post} {T : Env} {H : AHeap} (p : List Nat) (h : wp C (cutP p c) Q T H) : wp C c Q T H := by rwa [cutP_eq] at h
theorem sC : type_of% (And.intro @cutP_nil (And.intro @cutP_0 (And.intro @cutP_1 (And.intro @cutP_2 (And.intro @cutP_3 (And.intro @cutP_4 @cutP_5)))))) := And.intro @cutP_nil (And.intro @cutP_0 (And.intro @cutP_1 (And.intro @cutP_2 (And.intro @cutP_3 (And.intro @cutP_4 @cutP_5)))))
end Go.Abs.S
namespace Go.Proofs.Zt
open Go.Abs Go.Abs.S
set_option linter.unusedSimpArgs false
def k2 (k : Nat) : Prop := k = 2 ∨ k = 4
theorem row_st {H : AHeap} {b n : Nat} {l l' : List AVal} (h : Row H b l) (hn : l.length = n) {i : Nat} (hi : i < n) {x : AVal} (hx : x.one = true) (e : l.set i x = l') :
    ∃ H', oStore 1 H (cellR b n i) x = some H' ∧ Row H' b l' ∧ H'.next = H.next ∧ ∀ c, c ≠ b → H'.get c = H.get c := by
  subst e; exact row_store h hn hi hx
def OW (n : Nat) (τ : Nat → Nat) (H : AHeap) (o : Nat) (M : List Bool) (pl : Nat) : Prop :=
  ∃ vb, Row H o [.bool true, vb, .int .i64 (pl : Int)] ∧ o < n ∧ n ≤ H.next ∧ τ o = 2 ∧ (∀ c, n ≤ c → τ c = 0) ∧ AppN 1 0 H vb (u8s (pack M)) (pack M).length ∧ Blk vb (fun b => b < n ∧ τ b = 4) ∧ pl % 8 = M.length % 8
theorem OW.fr {n n' : Nat} {τ τ' : Nat → Nat} {H H' : AHeap} {o : Nat} {M : List Bool} {pl : Nat} (h : OW n τ H o M pl) (hn : n ≤ n') (hn' : n' ≤ H'.next) (hH : H.next ≤ H'.next) (tz : ∀ c, n' ≤ c → τ' c = 0) (ht : ∀ c, c < n → k2 (τ c) → τ' c = τ c) (e : ∀ c, c < n → k2 (τ c) → H'.get c = H.get c) : OW n' τ' H' o M pl := by
  obtain ⟨vb, h1, h2, h3, h4, h5, h6, h7, h8⟩ := h
  exact ⟨vb, h1.same (e o h2 (.inl h4)), by omega, hn', by rw [ht o h2 (.inl h4)]; exact h4, tz, h6.same hH (h7.mono fun b hb => e b hb.1 (.inr hb.2)), h7.mono fun b hb => ⟨by omega, by rw [ht b hb.1 (.inr hb.2)]; exact hb.2⟩, h8⟩
theorem OW.ext {n : Nat} {τ : Nat → Nat} {H H' : AHeap} {o : Nat} {M : List Bool} {pl : Nat} (h : OW n τ H o M pl) (hH : H.next ≤ H'.next) (e : ∀ c, c < n → H'.get c = H.get c) : OW n τ H' o M pl := by
  have h' := h
  obtain ⟨vb, h1, h2, h3, h4, h5, h6, h7, h8⟩ := h
  exact h'.fr (Nat.le_refl _) (by omega) hH h5 (fun _ _ _ => rfl) fun c hc _ => e c hc
theorem OW.more {n m : Nat} {τ : Nat → Nat} {H : AHeap} {o : Nat} {M : List Bool} {pl : Nat} (h : OW n τ H o M pl) (hm : n ≤ m) (hH : m ≤ H.next) : OW m τ H o M pl := by
  have h' := h
  obtain ⟨vb, h1, h2, h3, h4, h5, h6, h7, h8⟩ := h
  exact h'.fr hm hH (Nat.le_refl _) (fun c hc => h5 c (by omega)) (fun _ _ _ => rfl) fun _ _ _ => rfl
theorem fldA (b n i o : Nat) : aField o (cellR b n i) = some (cellR b n (i + o)) := _root_.id rfl
theorem nil_cell (b n i : Nat) : aNilChk (cellR b n i) = some (cellR b n i) := _root_.id rfl
theorem eq_ptr_nil (b n i : Nat) : aPf (.eqv false .ptr) [cellR b n i, .ptr none] = some (.bool false) := _root_.id rfl
theorem inside_spec {H : AHeap} {o pl : Nat} {v0 v1 : AVal} (h : Row H o [v0, v1, .int .i64 (pl : Int)]) : ACalls Try.prog natZ 50 [cellR o 3 0] H fun v H' => v = .int .i64 ((pl % 8 : Nat) : Int) ∧ H = H' := by
  refine acalls_ofN rfl za50 rfl ?_
  have l2 : oLoad false 1 H (cellR o 3 2) = some (.int .i64 (pl : Int)) := row_load h rfl rfl
  have r8 : aBin .rem (.int .i64 (pl : Int)) (.int .i64 8) = some (.int .i64 ((pl % 8 : Nat) : Int)) := bin_remN pl 8 (by omega)
  simp only [c50, sA, Int.reduceNegSucc, reduceCtorEq, Nat.reduceEqDiff, ↓reduceIte, Nat.reduceAdd, Int.reduceEq, Int.reduceLT, Int.reduceLE, nil_cell, fldA, l2, r8]
  exact ⟨(by first | with_reducible rfl | trivial | rfl | assumption), (by first | with_reducible rfl | trivial | rfl | assumption)⟩
theorem bits_spec {n : Nat} {τ : Nat → Nat} {H : AHeap} {o : Nat} {M : List Bool} {pl : Nat} (h : OW n τ H o M pl) : ACalls Try.prog natZ 48 [cellR o 3 0] H fun v H' => v = .int .i64 (pl : Int) ∧ H = H' := by
  obtain ⟨vb, h1, _⟩ := h
  refine acalls_ofN rfl za48 rfl ?_
  have l0 : oLoad false 1 H (cellR o 3 0) = some (.bool true) := row_load h1 rfl rfl
  have l2 : oLoad false 1 H (cellR o 3 2) = some (.int .i64 (pl : Int)) := row_load h1 rfl rfl
  simp only [c48, sA, Int.reduceNegSucc, reduceCtorEq, Nat.reduceEqDiff, ↓reduceIte, Nat.reduceAdd, Int.reduceEq, Int.reduceLT, Int.reduceLE, eq_ptr_nil, nil_cell, fldA, l0, l2]
  exact ⟨(by first | with_reducible rfl | trivial | rfl | assumption), (by first | with_reducible rfl | trivial | rfl | assumption)⟩
def putP : List Nat := [1, 1, 1, 0, 2, 3, 1, 2, 1, 1]
theorem put_tail {H : AHeap} {o : Nat} {N : List Bool} {pl u m at_ st : Nat} {vb : AVal} {τ : Nat → Nat} {T : Env} {Q : Post} (g0 : T 0 = cellR o 3 0) (g1 : T 1 = .int .u32 (u : Int)) (g2 : T 2 = .int .i64 (m : Int)) (g7 : T 7 = .int .i64 (at_ : Int))
    (hat : at_ = N.length % 8) (hst : st = min (8 - at_) m) (hm : 0 < m) (hm32 : m ≤ 32) (hu : u < 2 ^ m) (hpl : pl ≤ 1000000100) (hN : N.length ≤ 1000000100)
    (R : Row H o [.bool true, vb, .int .i64 (pl : Int)]) (on : o < H.next) (to : τ o = 2) (tz : ∀ c, H.next ≤ c → τ c = 0) (A : AppN 1 0 H vb (u8s (openP N)) (openP N).length) (B : Blk vb fun b => b < H.next ∧ τ b = 4) (hp : pl % 8 = at_)
    (hQ : ∀ T2 H2, T2 0 = cellR o 3 0 → T2 1 = .int .u32 ((u / 2 ^ st : Nat) : Int) → T2 2 = .int .i64 ((m - st : Nat) : Int) → OW H2.next τ H2 o (N ++ bitsN u st) (pl + st) → FrS k2 τ H τ H2 → Q .normal T2 H2) :
    wp (ACalls Try.prog natZ) (hold (restP putP c49.body)) Q T H := by
  have hst8 : at_ + st ≤ 8 := by omega
  have hst0 : 0 < st := by omega
  have lb : oLoad false 1 H (cellR o 3 1) = some vb := row_load R rfl rfl
  have hOl := openP_len N
  have hlen : aLenK false vb = some (.int .i64 ((openP N).length : Int)) := A.len
  have w1 : IntKind.i64.wrap (((openP N).length : Int) - 1) = ((N.length / 8 : Nat) : Int) := by rw [wrap64 (by omega) (by omega)]; omega
  have hlast := openP_last N
  have hb256 := byteAt_lt N (N.length / 8)
  have hlow : byteAt N (N.length / 8) < 2 ^ at_ := by
    have h1 := natOf_lt ((N.drop (8 * (N.length / 8))).take 8)
    have h2 : ((N.drop (8 * (N.length / 8))).take 8).length = at_ := by simp; omega
    rw [h2] at h1; exact h1
  have hput : (u % 256 * 2 ^ at_ % 256) = u % 2 ^ st * 2 ^ at_ := by
    have h256 : (256 : Nat) = 2 ^ (8 - at_) * 2 ^ at_ := by rw [← Nat.pow_add, show 8 - at_ + at_ = 8 by omega]
    have e1 : u % 256 * 2 ^ at_ % 256 = u % 2 ^ (8 - at_) * 2 ^ at_ := by
      have hmm : u % 256 * 2 ^ at_ % (2 ^ (8 - at_) * 2 ^ at_) = (u % 256 % 2 ^ (8 - at_)) * 2 ^ at_ := Nat.mul_mod_mul_right _ _ _
      rw [← h256] at hmm
      rw [hmm]
      congr 1
      have : (256 : Nat) = 2 ^ (8 - at_) * 2 ^ at_ := h256
      rw [this, Nat.mod_mul_right_mod]
    rw [e1]
    congr 1
    by_cases hc : 8 - at_ ≤ m
    · rw [show st = 8 - at_ by omega]
    · have e : st = m := by omega
      rw [e, Nat.mod_eq_of_lt hu, Nat.mod_eq_of_lt (Nat.lt_of_lt_of_le hu (Nat.pow_le_pow_right (by omega) (by omega)))]
  have hps := pack_step N (bitsN u st) (by rw [bitsN_len]; exact hst0) (by rw [bitsN_len]; omega)
  rw [natOf_take, ← hat] at hps
  have hor : byteAt N (N.length / 8) ||| (u % 2 ^ st * 2 ^ at_) = byteAt N (N.length / 8) + u % 2 ^ st * 2 ^ at_ := by
    rw [Nat.or_comm, or_low at_ (u % 2 ^ st) hlow]; omega
  have hsum : byteAt N (N.length / 8) + u % 2 ^ st * 2 ^ at_ < 256 := by
    have : byteAt N (N.length / 8) ||| (u % 2 ^ st * 2 ^ at_) < 2 ^ 8 := Nat.or_lt_two_pow hb256 (by rw [← hput]; exact Nat.mod_lt _ (by omega))
    rw [hor] at this; exact this
  obtain ⟨a, H1, i1, i2, i3, A1, k1, o1⟩ := A.write (i := N.length / 8) (by omega) (x := .int .u8 ((byteAt N (N.length / 8) + u % 2 ^ st * 2 ^ at_ : Nat) : Int)) rfl
  have ld := i2 _ (u8s_get hlast)
  have hn8 : IntKind.u8.wrap (u : Int) = ((u % 256 : Nat) : Int) := wrap_um .u8 (.inl rfl) u
  have hsh := bin_shlU .u8 .i64 (.inl rfl) (u % 256) (b := at_) (by simp only [IntKind.bits]; omega)
  simp only [IntKind.bits] at hsh
  rw [show (2 : Nat) ^ 8 = 256 from rfl, hput] at hsh
  have hr := bin_orU .u8 (.inl rfl) (a := byteAt N (N.length / 8)) (b := u % 2 ^ st * 2 ^ at_) hb256 (by rw [← hput]; exact Nat.mod_lt _ (by simp [IntKind.bits]))
  rw [hor] at hr
  have w8 : IntKind.i64.wrap (8 - (at_ : Int)) = ((8 - at_ : Nat) : Int) := by rw [wrap64 (by omega) (by omega)]; omega
  have hmin : (if (m : Int) < ((8 - at_ : Nat) : Int) then (m : Int) else ((8 - at_ : Nat) : Int)) = (st : Int) := by split <;> omega
  have hshr := shrN .u32 .i64 u (b := st) (by simp only [IntKind.bits]; omega)
  have wm : IntKind.i64.wrap ((m : Int) - (st : Int)) = ((m - st : Nat) : Int) := by rw [wrap64 (by omega) (by omega)]; omega
  have R1 : Row H1 o [.bool true, vb, .int .i64 (pl : Int)] := R.same (o1 o (B.mono fun b hb => by rintro rfl; omega))
  have lp : oLoad false 1 H1 (cellR o 3 2) = some (.int .i64 (pl : Int)) := row_load R1 rfl rfl
  obtain ⟨H2, m2, r2, k2', o2⟩ := row_st R1 (n := 3) rfl (i := 2) (by omega) (x := .int .i64 ((pl + st : Nat) : Int)) rfl rfl
  simp only [c49, restP, putP, hold_eq, sA, Int.reduceNegSucc, reduceCtorEq, Nat.reduceEqDiff, ↓reduceIte, Nat.reduceAdd, Int.reduceEq, Int.reduceLT, Int.reduceLE, g0, g1, g2, g7, nil_cell, fldA, lb, hlen, w1, i1, ld, hn8, hsh, hr, i3, w8, hmin, hshr, wm, lp, wrapN pl st (by omega), m2]
  refine hQ _ _ (by simp only [sA, Int.reduceNegSucc, reduceCtorEq, Nat.reduceEqDiff, ↓reduceIte, Nat.reduceAdd, Int.reduceEq, Int.reduceLT, Int.reduceLE, g0]) (by simp only [sA, Int.reduceNegSucc, reduceCtorEq, Nat.reduceEqDiff, ↓reduceIte, Nat.reduceAdd, Int.reduceEq, Int.reduceLT, Int.reduceLE]) (by simp only [sA, Int.reduceNegSucc, reduceCtorEq, Nat.reduceEqDiff, ↓reduceIte, Nat.reduceAdd, Int.reduceEq, Int.reduceLT, Int.reduceLE]) ⟨vb, r2, by omega, Nat.le_refl _, to, fun c hc => tz c (by omega), ?_, B.mono fun b hb => ⟨by omega, hb.2⟩, ?_⟩ ⟨by omega, fun c hc => ⟨rfl, fun hs => ?_⟩⟩
  · have e : u8s (pack (N ++ bitsN u st)) = (u8s (openP N)).set (N.length / 8) (.int .u8 ((byteAt N (N.length / 8) + u % 2 ^ st * 2 ^ at_ : Nat) : Int)) := by rw [hps, u8s_set]
    have el : (pack (N ++ bitsN u st)).length = (openP N).length := by rw [hps, List.length_set]
    rw [e, el]
    exact A1.same (by omega) (B.mono fun b hb => o2 b (by rintro rfl; omega))
  · rw [List.length_append, bitsN_len]; omega
  · have h2 : τ c ≠ 2 := fun e => hs (.inl e)
    have h4 : τ c ≠ 4 := fun e => hs (.inr e)
    rw [o2 c (by rintro rfl; omega), o1 c (B.mono fun b hb => by rintro rfl; omega)]
theorem put_spec {n : Nat} {τ : Nat → Nat} {H : AHeap} {o : Nat} {M : List Bool} {pl : Nat} (h : OW n τ H o M pl) (v k : Nat) (hk : k ≤ 32) (hv : v < 2 ^ k) (hpl : pl ≤ 1000000000) (hM : M.length ≤ 1000000000) :
    ACalls Try.prog natZ 49 [cellR o 3 0, .int .u32 (v : Int), .int .i64 (k : Int)] H fun w H' => w = .int .i64 0 ∧ ∃ τ', OW H'.next τ' H' o (M ++ bitsN v k) (pl + k) ∧ FrS k2 τ H τ' H' := by
  refine acalls_ofN rfl za49 rfl ?_
  refine wp_cutP putP ?_
  have l0 : oLoad false 1 H (cellR o 3 0) = some (.bool true) := by
    obtain ⟨vb, h1, _⟩ := h
    exact row_load h1 rfl rfl
  have hv32 : v < 2 ^ 32 := Nat.lt_of_lt_of_le hv (Nat.pow_le_pow_right (by omega) hk)
  have c1 : ¬ (k : Int) < 0 := by omega
  have c2 : ¬ (32 : Int) < (k : Int) := by omega
  have w1 : IntKind.u64.wrap (v : Int) = (v : Int) := wrapU64' (by omega) (by omega)
  have s1 := shrN .u64 .i64 v (b := k) (by simp only [IntKind.bits]; omega)
  have d0 : v / 2 ^ k = 0 := Nat.div_eq_of_lt hv
  rw [d0] at s1
  simp only [c49, putP, sC, sA, Int.reduceNegSucc, reduceCtorEq, Nat.reduceEqDiff, ↓reduceIte, Nat.reduceAdd, Int.reduceEq, Int.reduceLT, Int.reduceLE, eq_ptr_nil, nil_cell, fldA, l0, c1, c2, w1, s1, Int.natCast_zero]
  refine aw_loop (fun q (T : Env) H' => ∃ (j u : Nat) (τ' : Nat → Nat) (n' : Nat), j ≤ k ∧ q = k - j ∧ T 0 = cellR o 3 0 ∧ T 1 = .int .u32 (u : Int) ∧ T 2 = .int .i64 ((k - j : Nat) : Int) ∧ u = v / 2 ^ j ∧ u < 2 ^ (k - j) ∧ OW n' τ' H' o (M ++ bitsN v j) (pl + j) ∧ FrS k2 τ H τ' H') k
    ⟨0, v, τ, n, Nat.zero_le _, rfl, by simp only [sA, Int.reduceNegSucc, reduceCtorEq, Nat.reduceEqDiff, ↓reduceIte, Nat.reduceAdd, Int.reduceEq, Int.reduceLT, Int.reduceLE]; try rfl, by simp only [sA, Int.reduceNegSucc, reduceCtorEq, Nat.reduceEqDiff, ↓reduceIte, Nat.reduceAdd, Int.reduceEq, Int.reduceLT, Int.reduceLE]; try rfl, by simp only [sA, Int.reduceNegSucc, reduceCtorEq, Nat.reduceEqDiff, ↓reduceIte, Nat.reduceAdd, Int.reduceEq, Int.reduceLT, Int.reduceLE]; try rfl, by simp, by simpa using hv, by simpa [bitsN] using h, FrS.refl _ _ _⟩ ?_
  rintro q T H' ⟨j, u, τ', n', hj, rfl, g0, g1, g2, hu, hul, hO, hF⟩
  by_cases hlt : j < k
  · have hlt' : (0 : Int) < ((k - j : Nat) : Int) := by omega
    obtain ⟨vb, R, on, nn, to, tz, A, B, hp⟩ := hO
    obtain ⟨N, hN⟩ : ∃ N, N = M ++ bitsN v j := ⟨_, rfl⟩
    rw [← hN] at A hp
    have hNl : N.length = M.length + j := by rw [hN, List.length_append, bitsN_len]
    obtain ⟨st, hst⟩ : ∃ s, s = min (8 - N.length % 8) (k - j) := ⟨_, rfl⟩
    have lp : oLoad false 1 H' (cellR o 3 2) = some (.int .i64 ((pl + j : Nat) : Int)) := row_load R rfl rfl
    have lb : oLoad false 1 H' (cellR o 3 1) = some vb := row_load R rfl rfl
    have next : ∀ (T2 : Env) (H2 : AHeap) (τ1 : Nat → Nat), FrS k2 τ H τ1 H2 → OW H2.next τ1 H2 o (N ++ bitsN u st) (pl + j + st) → OW H2.next τ1 H2 o (M ++ bitsN v (j + st)) (pl + (j + st)) := fun T2 H2 τ1 _ h => by
      rw [bits_split, ← hu, ← List.append_assoc, ← hN, ← Nat.add_assoc]; exact h
    have hdiv : u / 2 ^ st = v / 2 ^ (j + st) := by rw [hu, Nat.div_div_eq_div_mul, ← Nat.pow_add]
    have hul2 : u / 2 ^ st < 2 ^ (k - (j + st)) := by
      rw [Nat.div_lt_iff_lt_mul (Nat.two_pow_pos st), ← Nat.pow_add, show k - (j + st) + st = k - j by omega]
      exact hul
    simp only [sA, Int.reduceNegSucc, reduceCtorEq, Nat.reduceEqDiff, ↓reduceIte, Nat.reduceAdd, Int.reduceEq, Int.reduceLT, Int.reduceLE, g0, g1, g2, hlt', nil_cell, fldA]
    refine (inside_spec R).mono ?_
    rintro w _ ⟨rfl, rfl⟩
    rw [hp]
    by_cases ha : N.length % 8 = 0
    · have ha' : ((N.length % 8 : Nat) : Int) = 0 := by omega
      obtain ⟨vb1, H1, m1, A1, n1, b1, o1⟩ := A.pushB (m := 1) (xs := [.int .u8 0]) rfl rfl (by omega) (bytes := 1) (by rw [pack_len]; omega) (by omega)
      have m1' : aAppend 1 1 (H'.push (.cells [.int .u8 0] 0 false)) vb (oneS H') = some (vb1, H1) := m1
      have bld := build1 (.int .u8 0) H' (x := .int .u8 0) rfl
      have R1 := R.same (o1 o (by omega) (B.mono fun b hb => by rintro rfl; omega))
      obtain ⟨H2, m2, r2, k2', o2⟩ := row_st R1 (n := 3) rfl (i := 1) (by omega) (x := vb1) A1.one rfl
      have hop : openP N = pack N ++ [0] := by unfold openP; rw [if_pos ha]
      have B1 : Blk vb1 fun b => b < H2.next ∧ upT τ' H' H1 4 b = 4 := by
        refine ((b1 (fun b => b < n' ∧ τ' b = 4) B).and A1.blk').mono fun b hb => ⟨by omega, ?_⟩
        rcases hb.1 with h | h
        · rw [upT_old (by omega)]; exact h.2
        · exact upT_new h hb.2
      have to1 : upT τ' H' H1 4 o = 2 := by rw [upT_old (by omega)]; exact to
      have A2 : AppN 1 0 H2 vb1 (u8s (openP N)) (openP N).length := by
        have e1 : u8s (openP N) = u8s (pack N) ++ [.int .u8 0] := by rw [hop, u8s_append]; rfl
        have e2 : (openP N).length = (pack N).length + 1 := by rw [hop]; simp
        rw [e1, e2]
        exact A1.same (by omega) (B1.mono fun b hb => o2 b (by rintro rfl; omega))
      have F2 : FrS k2 τ' H' (upT τ' H' H1 4) H2 := ⟨by omega, fun c hc => ⟨upT_old hc, fun hs => by
        have h2 : τ' c ≠ 2 := fun e => hs (.inl e)
        have h4 : τ' c ≠ 4 := fun e => hs (.inr e)
        rw [o2 c (by rintro rfl; omega), o1 c hc (B.mono fun b hb => by rintro rfl; omega)]⟩⟩
      simp only [sA, Int.reduceNegSucc, reduceCtorEq, Nat.reduceEqDiff, ↓reduceIte, Nat.reduceAdd, Int.reduceEq, Int.reduceLT, Int.reduceLE, g0, g1, g2, ha', nil_cell, fldA, lb, bld, m1', m2]
      refine put_tail (τ := upT τ' H' H1 4) (N := N) (pl := pl + j) (u := u) (m := k - j) (at_ := N.length % 8) (st := st) (vb := vb1) (by simp only [sA, Int.reduceNegSucc, reduceCtorEq, Nat.reduceEqDiff, ↓reduceIte, Nat.reduceAdd, Int.reduceEq, Int.reduceLT, Int.reduceLE, g0]) (by simp only [sA, Int.reduceNegSucc, reduceCtorEq, Nat.reduceEqDiff, ↓reduceIte, Nat.reduceAdd, Int.reduceEq, Int.reduceLT, Int.reduceLE, g1]) (by simp only [sA, Int.reduceNegSucc, reduceCtorEq, Nat.reduceEqDiff, ↓reduceIte, Nat.reduceAdd, Int.reduceEq, Int.reduceLT, Int.reduceLE, g2]) (by simp only [sA, Int.reduceNegSucc, reduceCtorEq, Nat.reduceEqDiff, ↓reduceIte, Nat.reduceAdd, Int.reduceEq, Int.reduceLT, Int.reduceLE]; rw [ha]; rfl) rfl hst (by omega) (by omega) hul (by omega) (by omega) r2 (by omega) to1 (fun c hc => upT_z n1 (by omega)) A2 B1 (by omega) ?_
      intro T2 H3 q0 q1 q2 q3 q4
      simp only [sA, Int.reduceNegSucc, reduceCtorEq, Nat.reduceEqDiff, ↓reduceIte, Nat.reduceAdd, Int.reduceEq, Int.reduceLT, Int.reduceLE]
      exact ⟨_, by omega, j + st, u / 2 ^ st, upT τ' H' H1 4, H3.next, by omega, rfl, q0, q1, by rw [q2]; congr 2; omega, hdiv, hul2, next T2 H3 _ ((hF.trans F2).trans q4) q3, (hF.trans F2).trans q4⟩
    · have ha' : ¬ ((N.length % 8 : Nat) : Int) = 0 := by omega
      simp only [sA, Int.reduceNegSucc, reduceCtorEq, Nat.reduceEqDiff, ↓reduceIte, Nat.reduceAdd, Int.reduceEq, Int.reduceLT, Int.reduceLE, g0, g1, g2, ha']
      have hop : openP N = pack N := by unfold openP; rw [if_neg ha]
      refine put_tail (τ := τ') (N := N) (pl := pl + j) (u := u) (m := k - j) (at_ := N.length % 8) (st := st) (vb := vb) (by simp only [sA, Int.reduceNegSucc, reduceCtorEq, Nat.reduceEqDiff, ↓reduceIte, Nat.reduceAdd, Int.reduceEq, Int.reduceLT, Int.reduceLE, g0]) (by simp only [sA, Int.reduceNegSucc, reduceCtorEq, Nat.reduceEqDiff, ↓reduceIte, Nat.reduceAdd, Int.reduceEq, Int.reduceLT, Int.reduceLE, g1]) (by simp only [sA, Int.reduceNegSucc, reduceCtorEq, Nat.reduceEqDiff, ↓reduceIte, Nat.reduceAdd, Int.reduceEq, Int.reduceLT, Int.reduceLE, g2]) (by simp only [sA, Int.reduceNegSucc, reduceCtorEq, Nat.reduceEqDiff, ↓reduceIte, Nat.reduceAdd, Int.reduceEq, Int.reduceLT, Int.reduceLE]) rfl hst (by omega) (by omega) hul (by omega) (by omega) R (by omega) to (fun c hc => tz c (by omega)) (by rw [hop]; exact A) (B.mono fun b hb => ⟨by omega, hb.2⟩) (by omega) ?_
      intro T2 H2 q0 q1 q2 q3 q4
      simp only [sA, Int.reduceNegSucc, reduceCtorEq, Nat.reduceEqDiff, ↓reduceIte, Nat.reduceAdd, Int.reduceEq, Int.reduceLT, Int.reduceLE]
      exact ⟨_, by omega, j + st, u / 2 ^ st, τ', H2.next, by omega, rfl, q0, q1, by rw [q2]; congr 2; omega, hdiv, hul2, next T2 H2 τ' (hF.trans q4) q3, hF.trans q4⟩
  · have hlt' : ¬ (0 : Int) < ((k - j : Nat) : Int) := by omega
    have hjk : j = k := by omega
    subst hjk
    simp only [sA, Int.reduceNegSucc, reduceCtorEq, Nat.reduceEqDiff, ↓reduceIte, Nat.reduceAdd, Int.reduceEq, Int.reduceLT, Int.reduceLE, g0, g1, g2, hlt']
    obtain ⟨_, _, _, nn, _⟩ := id hO
    exact ⟨(by first | with_reducible rfl | trivial | rfl | assumption), τ', hO.more nn (Nat.le_refl _), hF⟩
end Go.Proofs.Zt
namespace Go.Proofs.Zt
open Go.Abs Go.Abs.S
set_option linter.unusedSimpArgs false
def bls (l : List Bool) : List AVal := l.map .bool
theorem bls_len (l : List Bool) : (bls l).length = l.length := by simp [bls]
theorem bls_append (a b : List Bool) : bls (a ++ b) = bls a ++ bls b := by simp [bls]
theorem bls_one (l : List Bool) : (bls l).all AVal.one = true := by simp [bls, AVal.one]
theorem bls_get {l : List Bool} {i : Nat} {b : Bool} (h : l[i]? = some b) : (bls l)[i]? = some (.bool b) := by simp [bls, h]
def RW (n : Nat) (H : AHeap) (v : AVal) (L : List Bool) (t : Nat) : Prop := ∃ sv, v = .agg [sv, .int .i64 (t : Int)] ∧ Cel n H sv (bls L)
theorem RW.ext {n : Nat} {H H' : AHeap} {v : AVal} {L : List Bool} {t : Nat} (h : RW n H v L t) (e : Ext n H H') : RW n H' v L t := by
  obtain ⟨sv, h1, h2⟩ := h; exact ⟨sv, h1, h2.ext e⟩
theorem RW.more {n m : Nat} {H : AHeap} {v : AVal} {L : List Bool} {t : Nat} (h : RW n H v L t) (hm : n ≤ m) : RW m H v L t := by
  obtain ⟨sv, h1, h2⟩ := h; exact ⟨sv, h1, h2.more hm⟩
theorem RW.fwd {H H' : AHeap} {v : AVal} {L : List Bool} {t : Nat} (h : RW H.next H v L t) (e : Ext H.next H H') : RW H'.next H' v L t := (h.ext e).more e.next
def VB (v : AVal) (P : Nat → Prop) : Prop := ∀ sv c, v = .agg [sv, c] → Blk sv P
theorem VB.mono {v : AVal} {P Q : Nat → Prop} (h : VB v P) (k : ∀ b, P b → Q b) : VB v Q := fun sv c e => (h sv c e).mono k
theorem vb_agg {sv c : AVal} {P : Nat → Prop} (h : Blk sv P) : VB (.agg [sv, c]) P := fun sv' c' e => by
  simp only [AVal.agg.injEq, List.cons.injEq, and_true] at e
  rw [← e.1]; exact h
theorem RW.vb {n : Nat} {H : AHeap} {v : AVal} {L : List Bool} {t : Nat} (h : RW n H v L t) : VB v (· < n) := by
  obtain ⟨sv, rfl, h2⟩ := h
  refine vb_agg ?_
  rcases h2 with ⟨h, _⟩ | ⟨a, r, rfl, h3, _⟩
  · exact isE_blk h _
  · exact blk_some h3
theorem cel_same {n m : Nat} {H H' : AHeap} {s : AVal} {l : List AVal} (h : Cel n H s l) (hm : n ≤ m) (e : Blk s fun b => H'.get b = H.get b) : Cel m H' s l := by
  rcases h with h | ⟨a, r, rfl, h2, h3⟩
  · exact .inl h
  · exact .inr ⟨a, r, rfl, by omega, by rw [rd_congr (e _ _ _ rfl)]; exact h3⟩
theorem cel_blk {n : Nat} {H : AHeap} {s : AVal} {l : List AVal} (h : Cel n H s l) : Blk s (· < n) := by
  rcases h with ⟨h, _⟩ | ⟨a, r, rfl, h3, _⟩
  · exact isE_blk h _
  · exact blk_some h3
theorem cel_one {n : Nat} {H : AHeap} {s : AVal} {l : List AVal} (h : Cel n H s l) : s.one = true := by
  rcases h with ⟨h, _⟩ | ⟨a, r, rfl, _⟩
  · exact isE_one h
  · rfl
theorem fin_ct2 {T : Env} {H : AHeap} (i j : Nat) (K : AVal → AHeap → Prop) {v : AVal} (h : oLoad true 2 H (T i) = some v) (hk : K (.tuple [v, T j]) H) : fin [.cell true 2 i, .t j] K .ret T H := by
  simp only [fin, wRes, h, OptP_some]; exact hk
theorem fin_1 {T : Env} {H : AHeap} (n i : Nat) (K : AVal → AHeap → Prop) {v : AVal} (h : oLoad true n H (T i) = some v) (hk : K v H) : fin [.cell true n i] K .ret T H := by
  simp only [fin, wRes, h, OptP_some]; exact hk
theorem bitsN_snoc (n i : Nat) : bitsN n (i + 1) = bitsN n i ++ [n / 2 ^ i % 2 == 1] := by rw [bits_split]; rfl
theorem rput_spec {H : AHeap} {v : AVal} {L : List Bool} {t : Nat} (h : RW H.next H v L t) (x k : Nat) (hk : k ≤ 32) (hx : x < 2 ^ k) (hL : L.length ≤ 10000000) :
    ACalls Try.prog natZ 71 [v, .int .u32 (x : Int), .int .i64 (k : Int)] H fun w H' => ∃ v', w = .tuple [v', .int .i64 0] ∧ RW H'.next H' v' (L ++ bitsN x k) t ∧ VB v' (H.next ≤ ·) ∧ Ext H.next H H' := by
  obtain ⟨sv, rfl, hs⟩ := h
  refine acalls_ofN rfl za71 rfl ?_
  have hx32 : x < 2 ^ 32 := Nat.lt_of_lt_of_le hx (Nat.pow_le_pow_right (by omega) hk)
  have hk63 : (2 : Nat) ^ k ≤ 2 ^ 32 := Nat.pow_le_pow_right (by omega) hk
  obtain ⟨H1, m1, r1, k1, o1⟩ := row_newL H [sv, .int .i64 (t : Int)] (n := 2) rfl
  obtain ⟨H2, m2, r2, k2', o2⟩ := row_newL H1 [.slice none 0 (.known 0), .int .i64 0] (n := 2) rfl
  have c1 : ¬ (k : Int) < 0 := by omega
  have c2 : ¬ (32 : Int) < (k : Int) := by omega
  have w1 : IntKind.u64.wrap (x : Int) = (x : Int) := wrapU64' (by omega) (by omega)
  have w2 : IntKind.u64.wrap (k : Int) = (k : Int) := wrapU64' (by omega) (by omega)
  have sh := bin_shlU .u64 .u64 (.inr (.inr (.inr rfl))) 1 (b := k) (by simp only [IntKind.bits]; omega)
  have shm : 1 * 2 ^ k % 2 ^ IntKind.u64.bits = 2 ^ k := by
    simp only [IntKind.bits, Nat.one_mul]
    exact Nat.mod_eq_of_lt (by omega)
  rw [shm] at sh
  have sh' : aBin .shl (.int .u64 1) (.int .u64 (k : Int)) = some (.int .u64 ((2 ^ k : Nat) : Int)) := sh
  have c3 : ¬ ((2 ^ k : Nat) : Int) ≤ (x : Int) := by omega
  have E2 : Ext H.next H H2 := ⟨by omega, fun c hc => by rw [o2 c (by omega), o1 c (by omega)]⟩
  have r1' : Row H2 H.next [sv, .int .i64 (t : Int)] := r1.same (o2 _ (by omega))
  have l0 : oLoad false 1 H2 (cellR H.next 2 0) = some sv := row_load r1' rfl rfl
  have hs2 : Cel H.next H2 sv (bls L) := hs.ext E2
  have src : aSrc 1 H2 sv = some (L.length, bls L) := by have := hs2.src; rwa [bls_len] at this
  obtain ⟨s3, H3, m3, A3, n3, b3, o3⟩ := (AppN.nil 1 0 H2).many src (by rw [bls_len]; omega) (bls_one L) (by omega) (bytes := 1) (by omega) (by omega)
  rw [List.nil_append, Nat.zero_add] at A3
  have m3' : aAppend 1 1 H2 (.slice none 0 (.known 0)) sv = some (s3, H3) := m3
  have E3 : Ext H2.next H2 H3 := ⟨n3, fun c hc => o3 c hc (blk_nil _)⟩
  have B3 : Blk s3 (H2.next ≤ ·) := (b3 (fun _ => False) (blk_nil _)).mono fun b hb => hb.elim (fun q => q.elim) fun q => q
  simp only [c71, sA, Int.reduceNegSucc, reduceCtorEq, Nat.reduceEqDiff, ↓reduceIte, Nat.reduceAdd, Int.reduceEq, Int.reduceLT, Int.reduceLE, cells_agg, m1, m2, c1, c2, w1, w2, sh', c3, fldA, fld0, l0, m3']
  refine aw_loop (fun q (T : Env) H' => ∃ j : Nat, j ≤ k ∧ q = k - j ∧ T 1 = .int .u32 ((x / 2 ^ j : Nat) : Int) ∧ T 2 = .int .i64 (k : Int) ∧ T 3 = cellR H.next 2 0 ∧ T 6 = cellR H1.next 2 0 ∧ T 9 = .int .i64 (j : Int) ∧ AppN 1 0 H' (T 8) (bls (L ++ bitsN x j)) (L.length + j) ∧ Blk (T 8) (H2.next ≤ ·) ∧ Ext H2.next H2 H') k
    ⟨0, Nat.zero_le _, rfl, by simp only [sA, Int.reduceNegSucc, reduceCtorEq, Nat.reduceEqDiff, ↓reduceIte, Nat.reduceAdd, Int.reduceEq, Int.reduceLT, Int.reduceLE]; simp, by simp only [sA, Int.reduceNegSucc, reduceCtorEq, Nat.reduceEqDiff, ↓reduceIte, Nat.reduceAdd, Int.reduceEq, Int.reduceLT, Int.reduceLE]; try rfl, by simp only [sA, Int.reduceNegSucc, reduceCtorEq, Nat.reduceEqDiff, ↓reduceIte, Nat.reduceAdd, Int.reduceEq, Int.reduceLT, Int.reduceLE]; try rfl, by simp only [sA, Int.reduceNegSucc, reduceCtorEq, Nat.reduceEqDiff, ↓reduceIte, Nat.reduceAdd, Int.reduceEq, Int.reduceLT, Int.reduceLE]; try rfl, by simp only [sA, Int.reduceNegSucc, reduceCtorEq, Nat.reduceEqDiff, ↓reduceIte, Nat.reduceAdd, Int.reduceEq, Int.reduceLT, Int.reduceLE]; try rfl, by simp only [sA, Int.reduceNegSucc, reduceCtorEq, Nat.reduceEqDiff, ↓reduceIte, Nat.reduceAdd, Int.reduceEq, Int.reduceLT, Int.reduceLE]; simpa [bitsN] using A3, by simp only [sA, Int.reduceNegSucc, reduceCtorEq, Nat.reduceEqDiff, ↓reduceIte, Nat.reduceAdd, Int.reduceEq, Int.reduceLT, Int.reduceLE]; exact B3, E3⟩ ?_
  rintro q T H' ⟨j, hj, rfl, g1, g2, g3, g6, g9, A, B, E⟩
  by_cases hlt : j < k
  · have hlt' : (j : Int) < (k : Int) := by omega
    have hxj : x / 2 ^ j < 2 ^ 32 := Nat.lt_of_le_of_lt (Nat.div_le_self _ _) hx32
    have hr : aBin .rem (.int .u32 ((x / 2 ^ j : Nat) : Int)) (.int .u32 2) = some (.int .u32 ((x / 2 ^ j % 2 : Nat) : Int)) := remU32 2 (by omega)
    have hq : aBin .quo (.int .u32 ((x / 2 ^ j : Nat) : Int)) (.int .u32 2) = some (.int .u32 ((x / 2 ^ j / 2 : Nat) : Int)) := quoU32 2 (by omega) (by omega)
    have hbit : decide (((x / 2 ^ j % 2 : Nat) : Int) = 1) = (x / 2 ^ j % 2 == 1) := by
      rw [Bool.eq_iff_iff]; simp only [decide_eq_true_eq, beq_iff_eq]; omega
    obtain ⟨s', H4, m4, A4, n4, b4, o4⟩ := A.pushB (m := 1) (xs := [.bool (x / 2 ^ j % 2 == 1)]) rfl rfl (by omega) (bytes := 1) (by omega) (by omega)
    have m4' : aAppend 1 1 (H'.push (.cells [.bool (x / 2 ^ j % 2 == 1)] 0 false)) (T 8) (oneS H') = some (s', H4) := m4
    have bld : aBuildSl 1 [.bool false] H' [(0, 1, .bool (x / 2 ^ j % 2 == 1))] = some (oneS H', H'.push (.cells [.bool (x / 2 ^ j % 2 == 1)] 0 false)) := build1 _ _ rfl
    have en := E.next
    simp only [sA, Int.reduceNegSucc, reduceCtorEq, Nat.reduceEqDiff, ↓reduceIte, Nat.reduceAdd, Int.reduceEq, Int.reduceLT, Int.reduceLE, g1, g2, g3, g6, g9, hlt', hr, hbit, bld, m4', hq, wrap1 j (by omega)]
    refine ⟨_, by omega, j + 1, by omega, rfl, by rw [Nat.pow_succ, ← Nat.div_div_eq_div_mul], (by first | with_reducible rfl | trivial | rfl | assumption), (by first | with_reducible rfl | trivial | rfl | assumption), (by first | with_reducible rfl | trivial | rfl | assumption), (by first | with_reducible rfl | trivial | rfl | assumption), ?_, (b4 _ B).mono fun b hb => by omega, E.trans ⟨n4, fun c hc => o4 c (by omega) (B.mono fun b hb => by omega)⟩⟩
    rw [bitsN_snoc, ← List.append_assoc, bls_append]
    exact A4
  · have hlt' : ¬ (j : Int) < (k : Int) := by omega
    have hjk : j = k := by omega
    subst hjk
    have en := E.next
    have R1 : Row H' H.next [sv, .int .i64 (t : Int)] := r1'.same (E.old _ (by omega))
    obtain ⟨H4, m4, r4, k4, o4⟩ := row_st R1 (n := 2) rfl (i := 0) (by omega) (x := T 8) A.one rfl
    have l4 := row_loadN r4 (n := 2) rfl
    have R2 : Row H4 H1.next [.slice none 0 (.known 0), .int .i64 0] := r2.same (by rw [o4 _ (by omega), E.old _ (by omega)])
    obtain ⟨H5, m5, r5, k5, o5⟩ := row_storeN R2 (n := 2) rfl (xs := [T 8, .int .i64 (t : Int)]) rfl (by simp only [List.all_cons, List.all_nil, A.one]; rfl)
    have l4' : oLoad true 2 H4 (cellR H.next 2 0) = some (.agg [T 8, .int .i64 (t : Int)]) := l4
    simp only [sA, Int.reduceNegSucc, reduceCtorEq, Nat.reduceEqDiff, ↓reduceIte, Nat.reduceAdd, Int.reduceEq, Int.reduceLT, Int.reduceLE, g1, g2, g3, g6, g9, hlt', fldA, fld0, m4, l4', m5]
    refine fin_ct2 _ _ _ (by simp only [sA, Int.reduceNegSucc, reduceCtorEq, Nat.reduceEqDiff, ↓reduceIte, Nat.reduceAdd, Int.reduceEq, Int.reduceLT, Int.reduceLE, g6]; exact row_loadN r5 (n := 2) rfl) ⟨_, by simp only [sA, Int.reduceNegSucc, reduceCtorEq, Nat.reduceEqDiff, ↓reduceIte, Nat.reduceAdd, Int.reduceEq, Int.reduceLT, Int.reduceLE]; try rfl, ⟨T 8, rfl, ?_⟩, vb_agg (B.mono fun b hb => by omega), ⟨by omega, fun c hc => by rw [o5 c (by omega), o4 c (by omega), E.old c (by omega)]; exact E2.old c hc⟩⟩
    have hB : Blk (T 8) fun b => b < H'.next ∧ H2.next ≤ b := A.blk'.and B
    exact (A.same (H' := H5) (by omega) (hB.mono fun b hb => by rw [o5 b (by omega), o4 b (by omega)])).cel1 (hB.mono fun b hb => by omega)
def bitsT (x k : Nat) (turned : Bool) : List Bool := if turned then (bitsN x k).reverse else bitsN x k
theorem bitsT_len (x k : Nat) (t : Bool) : (bitsT x k t).length = k := by unfold bitsT; split <;> simp [bitsN_len]
theorem bitsN_get {x k i : Nat} (h : i < k) : (bitsN x k)[i]? = some (x / 2 ^ i % 2 == 1) := by
  induction k generalizing x i with
  | zero => omega
  | succ k ih =>
    cases i with
    | zero => simp [bitsN]
    | succ i =>
      simp only [bitsN, List.getElem?_cons_succ]
      rw [ih (by omega), Nat.div_div_eq_div_mul, ← Nat.pow_succ']
theorem bitsT_get {x k i : Nat} (t : Bool) (h : i < k) : (bitsT x k t)[i]? = some (x / 2 ^ (if t then k - 1 - i else i) % 2 == 1) := by
  cases t with
  | false => exact bitsN_get h
  | true =>
    show (bitsN x k).reverse[i]? = _
    rw [List.getElem?_reverse (by rw [bitsN_len]; exact h), bitsN_len]
    exact bitsN_get (by omega)
theorem take_snoc {α : Type} {l : List α} {i : Nat} {x : α} (h : l[i]? = some x) : l.take (i + 1) = l.take i ++ [x] := by rw [List.take_add_one, h]; rfl
theorem rbits_spec {H : AHeap} {v : AVal} {L : List Bool} {t : Nat} (h : RW H.next H v L t) (x k : Nat) (turned : Bool) (hk : k ≤ 32) (hx : x ≤ 1000000000) (hL : L.length + 100 ≤ 10000000) :
    ACalls Try.prog natZ 82 [v, .int .i64 (x : Int), .int .i64 (k : Int), .bool turned] H fun w H' => RW H'.next H' w (L ++ bitsT x k turned) t ∧ (∀ P, VB v P → VB w fun b => P b ∨ H.next ≤ b) ∧ Ext H.next H H' := by
  refine acalls_ofN rfl za82 rfl ?_
  have hv : ∃ sv, v = .agg [sv, .int .i64 (t : Int)] := by obtain ⟨sv, h1, _⟩ := h; exact ⟨sv, h1⟩
  obtain ⟨sv, rfl⟩ := hv
  obtain ⟨H1, m1, r1, k1, o1⟩ := row_newL H [sv, .int .i64 (t : Int)] (n := 2) rfl
  obtain ⟨H2, m2, r2, k2', o2⟩ := row_newL H1 [.slice none 0 (.known 0), .int .i64 0] (n := 2) rfl
  have E2 : Ext H.next H H2 := ⟨by omega, fun c hc => by rw [o2 c (by omega), o1 c (by omega)]⟩
  simp only [c82, sA, Int.reduceNegSucc, reduceCtorEq, Nat.reduceEqDiff, ↓reduceIte, Nat.reduceAdd, Int.reduceEq, Int.reduceLT, Int.reduceLE, cells_agg, m1, m2]
  refine aw_loop (fun q (T : Env) H' => ∃ (j : Nat) (v' : AVal), j ≤ k ∧ q = k - j ∧ T 1 = .int .i64 (x : Int) ∧ T 2 = .int .i64 (k : Int) ∧ T 3 = .bool turned ∧ T 4 = cellR H.next 2 0 ∧ T 8 = cellR H1.next 2 0 ∧ T 9 = .int .i64 (j : Int) ∧ RW H'.next H' v' (L ++ (bitsT x k turned).take j) t ∧ (∃ cs, v' = .agg cs ∧ Row H' H.next cs ∧ cs.length = 2) ∧ Row H' H1.next [.slice none 0 (.known 0), .int .i64 0] ∧ H2.next ≤ H'.next ∧ (∀ P, VB (.agg [sv, .int .i64 (t : Int)]) P → VB v' fun b => P b ∨ H2.next ≤ b) ∧ Ext H.next H H') k
    ⟨0, .agg [sv, .int .i64 (t : Int)], Nat.zero_le _, rfl, by simp only [sA, Int.reduceNegSucc, reduceCtorEq, Nat.reduceEqDiff, ↓reduceIte, Nat.reduceAdd, Int.reduceEq, Int.reduceLT, Int.reduceLE]; try rfl, by simp only [sA, Int.reduceNegSucc, reduceCtorEq, Nat.reduceEqDiff, ↓reduceIte, Nat.reduceAdd, Int.reduceEq, Int.reduceLT, Int.reduceLE]; try rfl, by simp only [sA, Int.reduceNegSucc, reduceCtorEq, Nat.reduceEqDiff, ↓reduceIte, Nat.reduceAdd, Int.reduceEq, Int.reduceLT, Int.reduceLE]; try rfl, by simp only [sA, Int.reduceNegSucc, reduceCtorEq, Nat.reduceEqDiff, ↓reduceIte, Nat.reduceAdd, Int.reduceEq, Int.reduceLT, Int.reduceLE]; try rfl, by simp only [sA, Int.reduceNegSucc, reduceCtorEq, Nat.reduceEqDiff, ↓reduceIte, Nat.reduceAdd, Int.reduceEq, Int.reduceLT, Int.reduceLE]; try rfl, by simp only [sA, Int.reduceNegSucc, reduceCtorEq, Nat.reduceEqDiff, ↓reduceIte, Nat.reduceAdd, Int.reduceEq, Int.reduceLT, Int.reduceLE]; try rfl, by simpa using h.fwd E2, ⟨_, rfl, r1.same (o2 _ (by omega)), rfl⟩, r2, Nat.le_refl _, fun P hP => hP.mono fun b hb => .inl hb, E2⟩ ?_
  rintro q T H' ⟨j, v', hj, rfl, g1, g2, g3, g4, g8, g9, hW, ⟨cs, rfl, hR, hcl⟩, hR8, hn, hVB, E⟩
  have ld := row_loadN hR hcl
  by_cases hlt : j < k
  · have hlt' : (j : Int) < (k : Int) := by omega
    obtain ⟨at_, hat⟩ : ∃ a, a = (if turned then k - 1 - j else j) := ⟨_, rfl⟩
    have hget := bitsT_get (x := x) turned hlt
    rw [← hat] at hget
    have hatk : at_ < 32 := by rw [hat]; split <;> omega
    have hshr := shrN .i64 .u64 x (b := at_) (by simp only [IntKind.bits]; omega)
    have hr : aBin .rem (.int .i64 ((x / 2 ^ at_ : Nat) : Int)) (.int .i64 2) = some (.int .i64 ((x / 2 ^ at_ % 2 : Nat) : Int)) := bin_remN _ 2 (by omega)
    have wu : IntKind.u64.wrap (at_ : Int) = (at_ : Int) := wrapU64' (by omega) (by omega)
    have wv : IntKind.u32.wrap ((x / 2 ^ at_ % 2 : Nat) : Int) = ((x / 2 ^ at_ % 2 : Nat) : Int) := wrapU32 (by omega) (by omega)
    have hb2 : x / 2 ^ at_ % 2 < 2 ^ 1 := by omega
    have step : ∀ T' : Env, T' 1 = .int .i64 (x : Int) → T' 2 = .int .i64 (k : Int) → T' 3 = .bool turned → T' 4 = cellR H.next 2 0 → T' 8 = cellR H1.next 2 0 → T' 9 = .int .i64 (j : Int) → True := fun _ _ _ _ _ _ _ => trivial
    have put := rput_spec hW (x / 2 ^ at_ % 2) 1 (by omega) hb2 (by rw [List.length_append, List.length_take, bitsT_len]; omega)
    have b1 : bitsN (x / 2 ^ at_ % 2) 1 = [x / 2 ^ at_ % 2 == 1] := by simp [bitsN]
    rw [b1] at put
    have fin' : ∀ (w : AVal) (H3 : AHeap), (∃ v', w = .tuple [v', .int .i64 0] ∧ RW H3.next H3 v' (L ++ (bitsT x k turned).take j ++ [x / 2 ^ at_ % 2 == 1]) t ∧ VB v' (H'.next ≤ ·) ∧ Ext H'.next H' H3) → ∃ ds H4, w = .tuple [.agg ds, .int .i64 0] ∧ oStore 2 H3 (cellR H.next 2 0) (.agg ds) = some H4 ∧ RW H4.next H4 (.agg ds) (L ++ (bitsT x k turned).take (j + 1)) t ∧ (∃ cs, AVal.agg ds = .agg cs ∧ Row H4 H.next cs ∧ cs.length = 2) ∧ Row H4 H1.next [.slice none 0 (.known 0), .int .i64 0] ∧ H2.next ≤ H4.next ∧ (∀ P, VB (.agg [sv, .int .i64 (t : Int)]) P → VB (.agg ds) fun b => P b ∨ H2.next ≤ b) ∧ Ext H.next H H4 := by
      rintro w H3 ⟨v3, rfl, ⟨sv3, rfl, hC⟩, hvb3, E3⟩
      have n3 := E3.next
      obtain ⟨H4, m4, r4, k4, o4⟩ := row_storeN (hR.same (E3.old _ (by omega))) hcl (xs := [sv3, .int .i64 (t : Int)]) rfl (by simp only [List.all_cons, List.all_nil, cel_one hC]; rfl)
      refine ⟨_, H4, rfl, m4, ⟨sv3, rfl, ?_⟩, ⟨_, rfl, r4, rfl⟩, hR8.same (by rw [o4 _ (by omega), E3.old _ (by omega)]), by omega, fun P _ => vb_agg ((hvb3 _ _ rfl).mono fun b hb => .inr (by omega)), ⟨by omega, fun c hc => by rw [o4 c (by omega), E3.old c (by omega)]; exact E.old c hc⟩⟩
      rw [take_snoc hget, ← List.append_assoc]
      exact cel_same hC (by omega) ((hvb3 _ _ rfl).mono fun b hb => o4 b (by omega))
    cases turned with
    | false =>
      have e : at_ = j := by rw [hat]; rfl
      rw [e] at hshr hr wu wv put fin'
      simp only [sA, Int.reduceNegSucc, reduceCtorEq, Nat.reduceEqDiff, ↓reduceIte, Nat.reduceAdd, Int.reduceEq, Int.reduceLT, Int.reduceLE, g1, g2, g3, g4, g8, g9, hlt', ld, wu, hshr, hr, wv]
      refine put.mono ?_
      intro w H3 hw
      obtain ⟨ds, H4, rfl, m4, q1, q2, q3, q4, q6, q5⟩ := fin' w H3 hw
      simp only [sA, Int.reduceNegSucc, reduceCtorEq, Nat.reduceEqDiff, ↓reduceIte, Nat.reduceAdd, Int.reduceEq, Int.reduceLT, Int.reduceLE, g1, g2, g3, g4, g8, g9, ext_0, ext_1, m4, wrap1 j (by omega)]
      exact ⟨_, by omega, j + 1, .agg ds, by omega, rfl, (by first | with_reducible rfl | trivial | rfl | assumption), (by first | with_reducible rfl | trivial | rfl | assumption), (by first | with_reducible rfl | trivial | rfl | assumption), (by first | with_reducible rfl | trivial | rfl | assumption), (by first | with_reducible rfl | trivial | rfl | assumption), (by first | with_reducible rfl | trivial | rfl | assumption), q1, q2, q3, q4, q6, q5⟩
    | true =>
      have e : at_ = k - 1 - j := by rw [hat]; rfl
      have wk1 : IntKind.i64.wrap ((k : Int) - 1) = ((k - 1 : Nat) : Int) := by rw [wrap64 (by omega) (by omega)]; omega
      have wk2 : IntKind.i64.wrap (((k - 1 : Nat) : Int) - (j : Int)) = (at_ : Int) := by rw [wrap64 (by omega) (by omega)]; omega
      simp only [sA, Int.reduceNegSucc, reduceCtorEq, Nat.reduceEqDiff, ↓reduceIte, Nat.reduceAdd, Int.reduceEq, Int.reduceLT, Int.reduceLE, g1, g2, g3, g4, g8, g9, hlt', ld, wk1, wk2, wu, hshr, hr, wv]
      refine put.mono ?_
      intro w H3 hw
      obtain ⟨ds, H4, rfl, m4, q1, q2, q3, q4, q6, q5⟩ := fin' w H3 hw
      simp only [sA, Int.reduceNegSucc, reduceCtorEq, Nat.reduceEqDiff, ↓reduceIte, Nat.reduceAdd, Int.reduceEq, Int.reduceLT, Int.reduceLE, g1, g2, g3, g4, g8, g9, ext_0, ext_1, m4, wrap1 j (by omega)]
      exact ⟨_, by omega, j + 1, .agg ds, by omega, rfl, (by first | with_reducible rfl | trivial | rfl | assumption), (by first | with_reducible rfl | trivial | rfl | assumption), (by first | with_reducible rfl | trivial | rfl | assumption), (by first | with_reducible rfl | trivial | rfl | assumption), (by first | with_reducible rfl | trivial | rfl | assumption), (by first | with_reducible rfl | trivial | rfl | assumption), q1, q2, q3, q4, q6, q5⟩
  · have hlt' : ¬ (j : Int) < (k : Int) := by omega
    have hjk : j = k := by omega
    subst hjk
    rw [List.take_of_length_le (by rw [bitsT_len]; omega)] at hW
    obtain ⟨sw, e1, hC⟩ := hW
    simp only [AVal.agg.injEq] at e1
    subst e1
    obtain ⟨H4, m4, r4, k4, o4⟩ := row_storeN hR8 (n := 2) rfl (xs := [sw, .int .i64 (t : Int)]) rfl (by simp only [List.all_cons, List.all_nil, cel_one hC]; rfl)
    simp only [sA, Int.reduceNegSucc, reduceCtorEq, Nat.reduceEqDiff, ↓reduceIte, Nat.reduceAdd, Int.reduceEq, Int.reduceLT, Int.reduceLE, g1, g2, g3, g4, g8, g9, hlt', ld, m4]
    refine fin_1 _ _ _ (by simp only [sA, Int.reduceNegSucc, reduceCtorEq, Nat.reduceEqDiff, ↓reduceIte, Nat.reduceAdd, Int.reduceEq, Int.reduceLT, Int.reduceLE, g8]; exact row_loadN r4 (n := 2) rfl) ⟨⟨sw, rfl, ?_⟩, fun P hP => (hVB P hP).mono fun b hb => hb.imp (fun q => q) fun q => by omega, ⟨by omega, fun c hc => by rw [o4 c (by omega)]; exact E.old c hc⟩⟩
    have hb : Blk sw fun b => b < H.next ∨ H2.next ≤ b := hVB _ h.vb _ _ rfl
    exact cel_same hC (by omega) (hb.mono fun b hb => o4 b (by omega))
end Go.Proofs.Zt
namespace Go.Abs.S
open Go.Abs
theorem bnd_lh {len c lo hi : Nat} (h1 : lo ≤ hi) (h2 : hi ≤ c) : aBnd len c (some (.int .i64 (lo : Int))) (some (.int .i64 (hi : Int))) none = some (lo, hi, none) := by
  show (match bdO (some (AVal.int .i64 (Int.ofNat hi))) c len with | some h => (match bdO (some (AVal.int .i64 (Int.ofNat lo))) h 0 with | some l => some (l, h, none) | none => none) | none => none) = _
  simp only [bdO, bd, Nat.ble_eq_true_of_le h2, Nat.ble_eq_true_of_le h1, cond_true]
theorem bnd_l {len c lo : Nat} (h1 : lo ≤ len) : aBnd len c (some (.int .i64 (lo : Int))) none none = some (lo, len, none) := by
  show (match bdO none c len with | some h => (match bdO (some (AVal.int .i64 (Int.ofNat lo))) h 0 with | some l => some (l, h, none) | none => none) | none => none) = _
  simp only [bdO, bd, Nat.ble_eq_true_of_le h1, cond_true]
theorem bnd_3 {len c w : Nat} (h : w ≤ c) : aBnd len c none (some (.int .i64 (w : Int))) (some (.int .i64 (w : Int))) = some (0, w, some w) := by
  show (match bd (AVal.int .i64 (Int.ofNat w)) c with | some m => (match bd (AVal.int .i64 (Int.ofNat w)) m with | some h => (match bdO none h 0 with | some l => some (l, h, some m) | none => none) | none => none) | none => none) = _
  simp only [bdO, bd, Nat.ble_eq_true_of_le h, Nat.ble_eq_true_of_le (Nat.le_refl w), cond_true]
theorem AppN.slice {H : AHeap} {s : AVal} {L : List AVal} {k : Nat} (h : AppN 1 0 H s L k) {lo hi : Nat} (h1 : lo ≤ hi) (h2 : hi ≤ k) :
    ∃ s', aSl 1 s (some (.int .i64 (lo : Int))) (some (.int .i64 (hi : Int))) none = some s' ∧ Cel H.next H s' ((L.drop lo).take (hi - lo)) ∧ ∀ P, Blk s P → Blk s' P := by
  rcases h with ⟨rfl, rfl, rfl⟩ | ⟨b, low, rfl, h3, h4, h5, h6, h7, h8⟩
  · obtain rfl : hi = 0 := by omega
    obtain rfl : lo = 0 := by omega
    exact ⟨nilS, rfl, .inl ⟨rfl, rfl⟩, fun P h => h⟩
  · have hR : Row H b L := ⟨low, h6, h7⟩
    have hl : ((L.drop lo).take (hi - lo)).length = hi - lo := by simp; omega
    refine ⟨.slice (some ⟨b, L.length, lo⟩) (hi - lo) (.open_ 1), ?_, .inr ⟨_, _, by rw [hl], h5, by rw [hl]; exact rd_row hR rfl (by omega)⟩, fun P hP => (have q : P b := hP _ _ _ rfl; blk_some q)⟩
    simp only [aSl, Nat.beq_refl, cond_true, Nat.sub_zero, Nat.div_one, bnd_lh h1 (show hi ≤ L.length by omega), Nat.zero_add, Nat.mul_one, Nat.ble_eq_true_of_le (show hi ≤ L.length by omega)]
theorem AppN.from_ {H : AHeap} {s : AVal} {L : List AVal} {k : Nat} (h : AppN 1 0 H s L k) {lo : Nat} (h1 : lo ≤ k) :
    ∃ s', aSl 1 s (some (.int .i64 (lo : Int))) none none = some s' ∧ Cel H.next H s' (L.drop lo) ∧ ∀ P, Blk s P → Blk s' P := by
  rcases h with ⟨rfl, rfl, rfl⟩ | ⟨b, low, rfl, h3, h4, h5, h6, h7, h8⟩
  · obtain rfl : lo = 0 := by omega
    exact ⟨nilS, rfl, .inl ⟨rfl, rfl⟩, fun P h => h⟩
  · have hR : Row H b L := ⟨low, h6, h7⟩
    have hl : (L.drop lo).length = k - lo := by simp; omega
    have hr := rd_row hR rfl (i := lo) (k := k - lo) (by omega)
    rw [List.take_of_length_le (by omega)] at hr
    refine ⟨.slice (some ⟨b, L.length, lo⟩) (k - lo) (.open_ 1), ?_, .inr ⟨_, _, by rw [hl], h5, by rw [hl]; exact hr⟩, fun P hP => (have q : P b := hP _ _ _ rfl; blk_some q)⟩
    simp only [aSl, Nat.beq_refl, cond_true, Nat.sub_zero, Nat.div_one, bnd_l h1, Nat.zero_add, Nat.mul_one, Nat.ble_eq_true_of_le (show k ≤ L.length by omega)]
theorem AppN.take3 {H : AHeap} {s : AVal} {L : List AVal} {k : Nat} (h : AppN 1 0 H s L k) {w : Nat} (h1 : w ≤ k) (h0 : 0 < w) :
    ∃ s', aSl 1 s none (some (.int .i64 (w : Int))) (some (.int .i64 (w : Int))) = some s' ∧ Cel H.next H s' (L.take w) ∧ ∀ P, Blk s P → Blk s' P := by
  rcases h with ⟨rfl, rfl, rfl⟩ | ⟨b, low, rfl, h3, h4, h5, h6, h7, h8⟩
  · omega
  · have hR : Row H b L := ⟨low, h6, h7⟩
    have hl : (L.take w).length = w := by simp; omega
    have hr := rd_row hR rfl (i := 0) (k := w) (by omega)
    rw [List.drop_zero] at hr
    have e0 : Nat.beq w 0 = false := by rw [beq_dec]; exact decide_eq_false (by omega)
    refine ⟨.slice (some ⟨b, L.length, 0⟩) w (.known w), ?_, .inr ⟨_, _, by rw [hl], h5, by rw [hl]; exact hr⟩, fun P hP => (have q : P b := hP _ _ _ rfl; blk_some q)⟩
    simp only [aSl, Nat.beq_refl, cond_true, Nat.sub_zero, Nat.div_one, bnd_3 (show w ≤ L.length by omega), e0, cond_false, Nat.zero_add, Nat.mul_one, Nat.zero_mul]
theorem ap_none {m bytes : Nat} {H : AHeap} {x : AVal} (hs : aSrc m H x = some (0, [])) : aAppend m bytes H nilS x = some (nilS, H) := by
  simp only [aAppend, hs, show Nat.beq 0 0 = true from rfl, cond_true]; rfl
end Go.Abs.S
