/- Part of a proof (S3 S4 S5 N0 S6 S7 S8 S9 S10 S11); no condition. -/
import Derived.IntWalk
import Derived.Below
import Derived.OpenShut
import Derived.ChangeSlices
import Derived.WideShapes
import Derived.SizedLaws
import Derived.Test.YtbighbbpahngiaaP5
set_option linter.unusedSimpArgs false
set_option linter.unusedVariables false
set_option linter.unnecessarySimpa false
namespace Go.Abs.S
open Go.Abs
theorem junks {ρ : Pl} {p : Value → Prop} (h : ∀ v, p v → ∃ x, ∀ ρ, VRel ρ x v) : ∀ (vs : List Value), (∀ v ∈ vs, p v) → ∃ l, ∀ ρ, VRels ρ l vs
  | [], _ => ⟨[], fun ρ => by simp [VRels]⟩
  | v :: vs, hv => by
    obtain ⟨x, hx⟩ := h v (hv v (by simp))
    obtain ⟨l, hl⟩ := junks (ρ := ρ) h vs fun u hu => hv u (by simp [hu])
    exact ⟨x :: l, fun ρ => by simp only [VRels]; exact ⟨v, vs, rfl, hx ρ, hl ρ⟩⟩
theorem junk : ∀ (n : Nat) (v : Value), SizeOf.sizeOf v ≤ n → ∃ x, ∀ ρ, VRel ρ x v := by
  intro n
  induction n with
  | zero => intro v h; cases v <;> simp at h
  | succ n ih =>
    intro v h
    cases v
    case bool b => exact ⟨.bool b, fun ρ => by simp [VRel]⟩
    case agg vs =>
      obtain ⟨l, hl⟩ := junks (ρ := fun _ _ => none) (p := fun v => SizeOf.sizeOf v ≤ n) ih vs.toList fun v hv => by
        have := Array.sizeOf_lt_of_mem (Array.mem_toList_iff.1 hv)
        simp at h; omega
      exact ⟨.agg l, fun ρ => by simp only [VRel]; exact ⟨vs, rfl, hl ρ⟩⟩
    case tuple vs =>
      obtain ⟨l, hl⟩ := junks (ρ := fun _ _ => none) (p := fun v => SizeOf.sizeOf v ≤ n) ih vs.toList fun v hv => by
        have := Array.sizeOf_lt_of_mem (Array.mem_toList_iff.1 hv)
        simp at h; omega
      exact ⟨.tuple l, fun ρ => by simp only [VRel]; exact ⟨vs, rfl, hl ρ⟩⟩
    all_goals exact ⟨.val _, fun ρ => by simp only [VRel]; exact ⟨rfl, rfl⟩⟩
noncomputable def junkOf (v : Value) : AVal := Classical.choose (junk (SizeOf.sizeOf v) v (Nat.le_refl _))
theorem junkOf_rel (v : Value) (ρ : Pl) : VRel ρ (junkOf v) v := Classical.choose_spec (junk (SizeOf.sizeOf v) v (Nat.le_refl _)) ρ
def rowOf (w : World) (c : Nat) : Option Nat := match w.heap[c]? with
  | some (.cells C _ _) => some C.size
  | _ => none
noncomputable def absW (w : World) : Value → AVal
  | .bool b => .bool b
  | .int k n => .int k n
  | .string s => .str s.data.toList
  | .pointer none => .ptr none
  | .pointer (some ⟨c, off, none⟩) => match rowOf w c with
    | some n => .ptr (some ⟨c, n, off⟩)
    | none => junkOf (.pointer (some ⟨c, off, none⟩))
  | .slice none 0 0 => .slice none 0 (.known 0)
  | .slice (some ⟨c, off, none⟩) len cap => if len ≤ cap then (match rowOf w c with
    | some n => if off ≤ n then .slice (some ⟨c, n, off⟩) len (.known cap) else .val (.slice (some ⟨c, off, none⟩) len cap)
    | none => .val (.slice (some ⟨c, off, none⟩) len cap)) else .val (.slice (some ⟨c, off, none⟩) len cap)
  | .slice (some ⟨c, off, some q⟩) len cap => .val (.slice (some ⟨c, off, some q⟩) len cap)
  | .map none => .map none
  | .nilFunc => .nilFunc
  | .nilIface => .nilIface
  | v => junkOf v
def plW (w : World) : Pl := fun b l => match rowOf w b with
  | some n => if l = n then some ⟨b, 0, n, false⟩ else none
  | none => none
theorem plW_some {w : World} {b n : Nat} (h : rowOf w b = some n) : plW w b n = some ⟨b, 0, n, false⟩ := by simp [plW, h]
theorem strOf_data (s : ByteArray) : strOf s.data.toList = s := by cases s; simp [strOf]
theorem absW_rel (w : World) (v : Value) : VRel (plW w) (absW w v) v := by
  unfold absW
  split
  · simp [VRel]
  · simp [VRel]
  · simp [VRel, strOf_data]
  · simp [VRel]
  · split
    · rename_i n hn
      simp only [VRel]
      exact ⟨_, plW_some hn, Nat.zero_le _, by simp⟩
    · exact junkOf_rel _ _
  · simp [VRel]
  · split
    · rename_i hl
      split
      · rename_i n hn
        split
        · simp only [VRel]
          exact ⟨_, plW_some hn, Nat.zero_le _, by simp only [SliceRel]; exact ⟨hl, by simp⟩⟩
        · simp only [VRel]; exact ⟨trivial, rfl⟩
      · simp only [VRel]; exact ⟨trivial, rfl⟩
    · simp only [VRel]; exact ⟨trivial, rfl⟩
  · simp only [VRel]; exact ⟨trivial, rfl⟩
  · simp [VRel]
  · simp [VRel]
  · simp [VRel]
  · exact junkOf_rel _ _
noncomputable def objW (w : World) (c : Nat) : Option AObj := match w.heap[c]? with
  | some (.cells C _ _) => some (.cells (C.toList.map (absW w)) 0 true)
  | _ => none
noncomputable def trW (w : World) : Nat → Tr AObj
  | 0 => .e
  | n + 1 => match objW w n with
    | some o => (trW w n).set n o
    | none => trW w n
theorem trW_get (w : World) : ∀ (n b : Nat), (trW w n).get b = if b < n then objW w b else none
  | 0, b => by rw [if_neg (by omega)]; cases b <;> rfl
  | n + 1, b => by
    simp only [trW]
    cases hc : objW w n with
    | none =>
      simp only [trW_get w n b]
      by_cases h : b < n
      · rw [if_pos h, if_pos (by omega)]
      · by_cases e : b = n
        · subst e; rw [if_neg h, if_pos (by omega), hc]
        · rw [if_neg h, if_neg (by omega)]
    | some c =>
      simp only [Tr.get_set, trW_get w n b]
      by_cases e : b = n
      · subst e; rw [if_pos rfl, if_pos (by omega), hc]
      · rw [if_neg e]
        by_cases h : b < n
        · rw [if_pos h, if_pos (by omega)]
        · rw [if_neg h, if_neg (by omega)]
noncomputable def heapW (w : World) : AHeap := ⟨w.heap.size, trW w w.heap.size⟩
theorem heapW_get (w : World) (b : Nat) : (heapW w).get b = objW w b := by
  show (trW w w.heap.size).get b = _
  rw [trW_get]
  by_cases h : b < w.heap.size
  · rw [if_pos h]
  · rw [if_neg h]
    unfold objW
    rw [Array.getElem?_eq_none (by omega)]
theorem objW_some {w : World} {c n : Nat} (h : rowOf w c = some n) : ∃ C e fz, w.heap[c]? = some (.cells C e fz) ∧ C.size = n ∧ objW w c = some (.cells (C.toList.map (absW w)) 0 true) := by
  unfold rowOf at h
  unfold objW
  split at h
  · rename_i C e fz hC
    simp only [Option.some.injEq] at h
    exact ⟨C, e, fz, hC, h, rfl⟩
  · simp at h
theorem plW_inv {w : World} {b l : Nat} {L : Loc} (h : plW w b l = some L) : rowOf w b = some l ∧ L = ⟨b, 0, l, false⟩ := by
  unfold plW at h
  split at h
  · rename_i n hn
    split at h
    · rename_i e; subst e; simp only [Option.some.injEq] at h; exact ⟨hn, h.symm⟩
    · simp at h
  · simp at h
theorem objW_ro {w : World} {b : Nat} {x : AObj} (h : objW w b = some x) : x.rw = false := by
  unfold objW at h
  split at h
  · simp only [Option.some.injEq] at h; subst h; rfl
  · simp at h
theorem rel_world (w : World) : Rel ⟨fun c => c < w.heap.size, fun _ => False⟩ w (plW w) (heapW w) w := by
  refine ⟨rfl, rfl, rfl, Nat.le_refl _, fun _ hc => ⟨hc, rfl⟩, fun b l L h => ?_, fun b l L h => ?_, fun b l L x h hx hr => ?_, fun b l L b' l' L' x h h' he hx hr => ?_, fun _ h => h.elim, fun b l low h => ?_⟩
  · obtain ⟨h1, rfl⟩ := plW_inv h
    obtain ⟨C, e, fz, h2, _, _⟩ := objW_some h1
    have := (Array.getElem?_eq_some_iff.1 h2).1
    exact ⟨this, this⟩
  · obtain ⟨h1, rfl⟩ := plW_inv h
    obtain ⟨C, e, fz, h2, h3, h4⟩ := objW_some h1
    obtain ⟨lo, hi⟩ := fz
    refine ⟨_, _, by rw [heapW_get, h4], h2, ?_⟩
    simp only [ORel]
    refine ⟨C, e, lo, hi, rfl, h3, fun h => by simp at h, by simp; omega, fun _ i _ hi => ?_⟩
    have hlt : i < C.size := by omega
    refine ⟨absW w C[i], C[i], ?_, by simp [hlt], absW_rel w _⟩
    simp [hlt]
  · rw [heapW_get] at hx
    rw [objW_ro hx] at hr
    simp at hr
  · rw [heapW_get] at hx
    rw [objW_ro hx] at hr
    simp at hr
  · rw [heapW_get] at h
    have hr : rowOf w b = some l.length := by
      unfold objW at h
      unfold rowOf
      split at h
      · rename_i C e fz hC
        simp only [Option.some.injEq, AObj.cells.injEq] at h
        simp [← h.1]
      · simp at h
    exact ⟨_, plW_some hr, rfl, rfl⟩
end Go.Abs.S
namespace Go.Abs.S
open Go.Abs
theorem up_same (T : Env) (i : Nat) (v : AVal) : up T i v i = v := by simp [up]
theorem up_ne (T : Env) (i j : Nat) (v : AVal) (h : j ≠ i) : up T i v j = T j := by
  have : Nat.beq j i = false := by rw [beq_dec]; exact decide_eq_false h
  simp [up, this]
structure Ext (n : Nat) (H H' : AHeap) : Prop where
  next : H.next ≤ H'.next
  old : ∀ b, b < n → H'.get b = H.get b
theorem Ext.refl (n : Nat) (H : AHeap) : Ext n H H := ⟨Nat.le_refl _, fun _ _ => rfl⟩
theorem Ext.trans {n : Nat} {H H' H'' : AHeap} (h : Ext n H H') (k : Ext n H' H'') : Ext n H H'' := ⟨Nat.le_trans h.next k.next, fun b hb => (k.old b hb).trans (h.old b hb)⟩
theorem Ext.less {n m : Nat} {H H' : AHeap} (h : Ext n H H') (hm : m ≤ n) : Ext m H H' := ⟨h.next, fun b hb => h.old b (by omega)⟩
theorem Ext.push {n : Nat} {H H' : AHeap} (h : Ext n H H') (hn : n ≤ H'.next) (o : AObj) : Ext n H (H'.push o) :=
  ⟨Nat.le_trans h.next (by simp [AHeap.push]), fun b hb => by rw [AHeap.get_push, if_neg (by omega), h.old b hb]⟩
theorem Ext.set {n : Nat} {H H' : AHeap} (h : Ext n H H') {b : Nat} (hn : n ≤ b) (o : AObj) : Ext n H (H'.set b o) :=
  ⟨h.next, fun c hc => by rw [AHeap.get_set, if_neg (by omega), h.old c hc]⟩
theorem push_next (H : AHeap) (o : AObj) : (H.push o).next = H.next + 1 := rfl
theorem set_next (H : AHeap) (b : Nat) (o : AObj) : (H.set b o).next = H.next := rfl
def nilS : AVal := .slice none 0 (.known 0)
def cellP (s : AVal) (i : Nat) : AVal := match s with
  | .slice (some a) _ _ => .ptr (some ⟨a.b, a.lim, a.o + i * 1⟩)
  | _ => undefA
def isE : AVal → Bool
  | .slice none 0 (.known 0) => true
  | .val (.slice (some _) 0 0) => true
  | _ => false
theorem isE_cases {s : AVal} (h : isE s = true) : s = nilS ∨ ∃ a, s = .val (.slice (some a) 0 0) := by
  unfold isE at h
  split at h
  · exact .inl rfl
  · exact .inr ⟨_, rfl⟩
  · simp at h
theorem isE_nil {s : AVal} (h : s = nilS) : isE s = true := by subst h; rfl
def Cel (n : Nat) (H : AHeap) (s : AVal) (l : List AVal) : Prop :=
  (isE s = true ∧ l = []) ∨ ∃ a r, s = .slice (some a) l.length r ∧ a.b < n ∧ rdCells H a l.length = some l
theorem rd_congr {H H' : AHeap} {a : Ad} (h : H'.get a.b = H.get a.b) (n : Nat) : rdCells H' a n = rdCells H a n := by
  unfold rdCells; rw [h]
theorem Cel.ext {n : Nat} {H H' : AHeap} {s : AVal} {l : List AVal} (h : Cel n H s l) (e : Ext n H H') : Cel n H' s l := by
  rcases h with h | ⟨a, r, h1, h2, h3⟩
  · exact .inl h
  · exact .inr ⟨a, r, h1, h2, by rw [rd_congr (e.old _ h2)]; exact h3⟩
theorem Cel.more {n m : Nat} {H : AHeap} {s : AVal} {l : List AVal} (h : Cel n H s l) (hm : n ≤ m) : Cel m H s l := by
  rcases h with h | ⟨a, r, h1, h2, h3⟩
  · exact .inl h
  · exact .inr ⟨a, r, h1, by omega, h3⟩
theorem Cel.len {n : Nat} {H : AHeap} {s : AVal} {l : List AVal} (h : Cel n H s l) : aLenK false s = some (.int .i64 l.length) := by
  rcases h with ⟨h, rfl⟩ | ⟨a, r, rfl, _⟩
  · rcases isE_cases h with rfl | ⟨a, rfl⟩ <;> rfl
  · rfl
theorem rd_at {H : AHeap} {a : Ad} {n i : Nat} {xs : List AVal} (h : rdCells H a n = some xs) (hi : i < n) : ∃ x, xs[i]? = some x ∧ rdCells H ⟨a.b, a.lim, a.o + i⟩ 1 = some [x] := by
  obtain ⟨l, low, ro, h1, h2, h3, h4, rfl⟩ := rd_spec h
  have hlt : a.o + i < l.length := by omega
  refine ⟨l[a.o + i], ?_, ?_⟩
  · rw [List.getElem?_take_of_lt hi, List.getElem?_drop, List.getElem?_eq_getElem hlt]
  · unfold rdCells
    simp only [h1, Nat.ble_eq_true_of_le h2, Nat.ble_eq_true_of_le h3, Nat.ble_eq_true_of_le (show a.o + i + 1 ≤ a.lim by omega), Bool.and_self, cond_true]
    rw [List.drop_eq_getElem_cons hlt]
    rfl
theorem Cel.idx {n : Nat} {H : AHeap} {s : AVal} {l : List AVal} (h : Cel n H s l) (k : IntKind) {i : Nat} (hi : i < l.length) : aIdxA 1 s (.int k (i : Int)) = some (cellP s i) := by
  rcases h with ⟨_, rfl⟩ | ⟨a, r, rfl, _⟩
  · simp at hi
  · show (bif Nat.blt i l.length then _ else none) = _
    have : Nat.blt i l.length = true := by simpa [Nat.blt_eq] using hi
    rw [this]; rfl
theorem Cel.load {n : Nat} {H : AHeap} {s : AVal} {l : List AVal} (h : Cel n H s l) {i : Nat} {x : AVal} (hi : l[i]? = some x) : oLoad false 1 H (cellP s i) = some x := by
  have hlt := (List.getElem?_eq_some_iff.1 hi).1
  rcases h with ⟨_, rfl⟩ | ⟨a, r, rfl, _, h3⟩
  · simp at hi
  · obtain ⟨y, h4, h5⟩ := rd_at h3 hlt
    rw [hi] at h4
    simp only [Option.some.injEq] at h4
    subst h4
    simp only [oLoad, cellP, Nat.mul_one, h5, cond_false]
theorem rd_whole {H : AHeap} {b low : Nat} {l : List AVal} {ro : Bool} (h : H.get b = some (.cells l low ro)) (hl : low ≤ l.length) : rdCells H ⟨b, l.length, 0⟩ l.length = some l := by
  unfold rdCells
  simp only [h, Nat.ble_eq_true_of_le hl, Nat.ble_eq_true_of_le (Nat.le_refl _), Nat.zero_add, Bool.and_self, cond_true, List.drop_zero, List.take_length]
theorem cells_one {x : AVal} (h : x.one = true) : x.cells = [x] := by cases x <;> first | rfl | (simp [AVal.one] at h)
def oneS (H : AHeap) : AVal := .slice (some ⟨H.next, 1, 0⟩) 1 (.known 1)
theorem build1 (z : AVal) (H : AHeap) {x : AVal} (h : x.one = true) : aBuildSl 1 [z] H [(0, 1, x)] = some (oneS H, H.push (.cells [x] 0 false)) := by
  simp only [aBuildSl, rep, List.append_nil, aFill, cells_one h]
  rfl
theorem wr_whole {H : AHeap} {b low i : Nat} {l : List AVal} (h : H.get b = some (.cells l low false)) (hl : low ≤ l.length) (hi : i < l.length) {x : AVal} (hx : x.one = true) :
    oStore 1 H (.ptr (some ⟨b, l.length, i⟩)) x = some (H.set b (.cells (l.set i x) l.length false)) := by
  simp only [oStore, cells_one hx, List.length_cons, List.length_nil, Nat.zero_add, Nat.beq_refl, cond_true]
  unfold wrCells
  simp only [h, Nat.ble_eq_true_of_le hl, Nat.beq_refl, List.length_cons, List.length_nil, Nat.zero_add, Nat.ble_eq_true_of_le (show i + 1 ≤ l.length by omega), List.all_cons, List.all_nil, hx, Bool.and_self, cond_true]
  congr 3
  rw [List.set_eq_take_append_cons_drop, if_pos hi]
  rfl
def slR (b n : Nat) (r : Room) : AVal := .slice (some ⟨b, n, 0⟩) n r
def cellR (b n i : Nat) : AVal := .ptr (some ⟨b, n, i⟩)
def Row (H : AHeap) (b : Nat) (l : List AVal) : Prop := ∃ low, H.get b = some (.cells l low false) ∧ low ≤ l.length
theorem row_idx {b n : Nat} {r : Room} (k : IntKind) {i : Nat} (h : i < n) : aIdxA 1 (slR b n r) (.int k (i : Int)) = some (cellR b n i) := by
  show (bif Nat.blt i n then some (AVal.ptr (some ⟨b, n, 0 + i * 1⟩)) else none) = _
  have : Nat.blt i n = true := by simpa [Nat.blt_eq] using h
  rw [this, Nat.zero_add, Nat.mul_one]; rfl
theorem row_load {H : AHeap} {b n : Nat} {l : List AVal} (h : Row H b l) (hn : l.length = n) {i : Nat} {x : AVal} (hi : l[i]? = some x) : oLoad false 1 H (cellR b n i) = some x := by
  subst hn
  obtain ⟨low, h1, h2⟩ := h
  have hlt := (List.getElem?_eq_some_iff.1 hi).1
  obtain ⟨y, h4, h5⟩ := rd_at (rd_whole h1 h2) hlt
  rw [hi] at h4
  simp only [Option.some.injEq] at h4
  subst h4
  simp only [Nat.zero_add] at h5
  simp only [oLoad, cellR, h5, cond_false]
theorem row_store {H : AHeap} {b n : Nat} {l : List AVal} (h : Row H b l) (hn : l.length = n) {i : Nat} (hi : i < n) {x : AVal} (hx : x.one = true) :
    ∃ H', oStore 1 H (cellR b n i) x = some H' ∧ Row H' b (l.set i x) ∧ H'.next = H.next ∧ ∀ c, c ≠ b → H'.get c = H.get c := by
  subst hn
  obtain ⟨low, h1, h2⟩ := h
  exact ⟨_, wr_whole h1 h2 hi hx, ⟨l.length, by rw [AHeap.get_set, if_pos rfl], by simp⟩, rfl, fun c hc => by rw [AHeap.get_set, if_neg hc]⟩
theorem Row.same {H H' : AHeap} {b : Nat} {l : List AVal} (h : Row H b l) (e : H'.get b = H.get b) : Row H' b l := by
  obtain ⟨low, h1, h2⟩ := h; exact ⟨low, e.trans h1, h2⟩
theorem row_push (H : AHeap) (l : List AVal) : Row (H.push (.cells l 0 false)) H.next l := ⟨0, by rw [AHeap.get_push, if_pos rfl], Nat.zero_le _⟩
theorem get_push_lt {H : AHeap} {o : AObj} {c : Nat} (h : c < H.next) : (H.push o).get c = H.get c := by rw [AHeap.get_push, if_neg (by omega)]
theorem Row.cel {H : AHeap} {b n m : Nat} {l : List AVal} {r : Room} (h : Row H b l) (hn : l.length = n) (hb : b < m) : Cel m H (slR b n r) l := by
  subst hn
  obtain ⟨low, h1, h2⟩ := h
  exact .inr ⟨_, _, rfl, hb, rd_whole h1 h2⟩
end Go.Abs.S
namespace Go.Abs.S
open Go.Abs
section
variable {C : CS} {Q : Post} {T : Env} {H : AHeap} {K : Env → AHeap → Prop} {r : List AOper} {d : Option Nat}
theorem aw_skip : wp C .skip Q T H = Q .normal T H := _root_.id rfl
theorem aw_reg (ops : List AOper) : wp C (.reg ops) Q T H = wRegs C ops T H (Q .normal) := _root_.id rfl
theorem aw_seq (a b : ACode) : wp C (.seq a b) Q T H = wp C a (inSeq Q (wp C b Q)) T H := _root_.id rfl
open Classical in
theorem aw_cond (c : Opd) (a b : ACode) : wp C (.cond c a b) Q T H = if sX T c = .bool true then wp C a Q T H else if sX T c = .bool false then wp C b Q T H else False := by
  simp only [wp]
  by_cases h : sX T c = .bool true
  · rw [if_pos h, h]; simp
  · rw [if_neg h]
    by_cases h' : sX T c = .bool false
    · rw [if_pos h', h']; simp
    · rw [if_neg h']
      simp only [eq_iff_iff, iff_false, not_exists, not_and]
      intro v hv
      cases v
      · exact absurd hv h'
      · exact absurd hv h
theorem aw_block (id : Nat) (c : ACode) : wp C (.block id c) Q T H = wp C c (inBlk id Q) T H := _root_.id rfl
theorem aw_exit (id : Nat) : wp C (.exit id) Q T H = Q (.exit id) T H := _root_.id rfl
theorem aw_ret : wp C .ret Q T H = Q .ret T H := _root_.id rfl
theorem inSeq_normal : inSeq Q K .normal T H = K T H := _root_.id rfl
theorem inSeq_exit (i : Nat) : inSeq Q K (.exit i) T H = Q (.exit i) T H := _root_.id rfl
theorem inSeq_ret : inSeq Q K .ret T H = Q .ret T H := _root_.id rfl
theorem inBlk_exit (id i : Nat) : inBlk id Q (.exit i) T H = if i = id then Q .normal T H else Q (.exit i) T H := by
  simp only [inBlk]
  by_cases h : i = id
  · subst h; rw [if_pos rfl, Nat.beq_refl]; rfl
  · rw [if_neg h, show Nat.beq i id = false by rw [beq_dec]; exact decide_eq_false h]; rfl
theorem inBlk_normal (id : Nat) : inBlk id Q .normal T H = Q .normal T H := _root_.id rfl
theorem inBlk_ret (id : Nat) : inBlk id Q .ret T H = Q .ret T H := _root_.id rfl
theorem aw_loop {c : ACode} (I : Nat → Env → AHeap → Prop) (m : Nat) (h0 : I m T H) (h : ∀ m T H, I m T H → wp C c (inSeq Q fun T' H' => ∃ m', m' < m ∧ I m' T' H') T H) : wp C (.loop c) Q T H := ⟨I, ⟨m, h0⟩, h⟩
def OptK (o : Option AVal) (C : CS) (r : List AOper) (T : Env) (d : Option Nat) (H : AHeap) (K : Env → AHeap → Prop) : Prop := OptP o fun v => wRegs C r (upO T d v) H K
def OptH (o : Option (AVal × AHeap)) (C : CS) (r : List AOper) (T : Env) (d : Option Nat) (K : Env → AHeap → Prop) : Prop := OptP o fun p => wRegs C r (upO T d p.1) p.2 K
def OptS (o : Option AHeap) (C : CS) (r : List AOper) (T : Env) (d : Option Nat) (K : Env → AHeap → Prop) : Prop := OptP o fun H' => wRegs C r (upO T d undefA) H' K
def kont (C : CS) (r : List AOper) (T : Env) (d : Option Nat) (K : Env → AHeap → Prop) : AVal → AHeap → Prop := fun v H' => wRegs C r (upO T d v) H' K
theorem OptK_some (v : AVal) : OptK (some v) C r T d H K = wRegs C r (upO T d v) H K := OptP_some _ _
theorem OptH_some (v : AVal) (H' : AHeap) : OptH (some (v, H')) C r T d K = wRegs C r (upO T d v) H' K := OptP_some _ _
theorem OptS_some (H' : AHeap) : OptS (some H') C r T d K = wRegs C r (upO T d undefA) H' K := OptP_some _ _
theorem kont_app (v : AVal) : kont C r T d K v H = wRegs C r (upO T d v) H K := _root_.id rfl
theorem ar_nil : wRegs C [] T H K = K T H := _root_.id rfl
open Classical in
theorem ar_guard (o : AOp) (t : Nat) (b : Bool) : wRegs C (⟨d, o, some (t, b)⟩ :: r) T H K = if T t = .bool b then wRegs C (⟨d, o, none⟩ :: r) T H K else wRegs C r (upO T d undefA) H K := by
  simp only [wRegs, sG]
  by_cases h : T t = .bool b
  · rw [if_pos h, h]; cases b <;> rfl
  · rw [if_neg h]
    have : sGv b (T t) = false := by
      cases hv : T t <;> simp only [sGv]
      rename_i v
      rw [hv] at h
      cases b <;> cases v <;> simp at h ⊢
    rw [this]; rfl
theorem ar_mv (x : Opd) : wRegs C (⟨d, .mv x, none⟩ :: r) T H K = wRegs C r (upO T d (sX T x)) H K := _root_.id rfl
open Classical in
theorem ar_pick (c a b : Opd) : wRegs C (⟨d, .pick c a b, none⟩ :: r) T H K = if sX T c = .bool true then wRegs C r (upO T d (sX T a)) H K else if sX T c = .bool false then wRegs C r (upO T d (sX T b)) H K else False := by
  simp only [wRegs, sG, wOp, cond_true]
  by_cases h : sX T c = .bool true
  · rw [if_pos h, h]; simp
  · rw [if_neg h]
    by_cases h' : sX T c = .bool false
    · rw [if_pos h', h']; simp
    · rw [if_neg h']
      simp only [eq_iff_iff, iff_false, not_exists, not_and]
      intro v hv
      cases v
      · exact absurd hv h'
      · exact absurd hv h
theorem ar_new (z : List AVal) : wRegs C (⟨d, .new z, none⟩ :: r) T H K = wRegs C r (upO T d (oNew H z).1) (oNew H z).2 K := _root_.id rfl
theorem ar_box (x : Opd) : wRegs C (⟨d, .box x, none⟩ :: r) T H K = wRegs C r (upO T d (oNew H (sX T x).cells).1) (oNew H (sX T x).cells).2 K := _root_.id rfl
theorem ar_build (z : List AVal) (ps : List (Nat × Nat × Opd)) : wRegs C (⟨d, .build z ps, none⟩ :: r) T H K = OptK (aBuild z (sXP T ps)) C r T d H K := _root_.id rfl
theorem ar_buildSl (n : Nat) (z : List AVal) (ps : List (Nat × Nat × Opd)) : wRegs C (⟨d, .buildSl n z ps, none⟩ :: r) T H K = OptH (aBuildSl n z H (sXP T ps)) C r T d K := _root_.id rfl
theorem ar_load (a : Bool) (n : Nat) (x : Opd) : wRegs C (⟨d, .load a n x, none⟩ :: r) T H K = OptK (oLoad a n H (sX T x)) C r T d H K := _root_.id rfl
theorem ar_store (n : Nat) (a x : Opd) : wRegs C (⟨d, .store n a x, none⟩ :: r) T H K = OptS (oStore n H (sX T a) (sX T x)) C r T d K := _root_.id rfl
theorem ar_nilChk (x : Opd) : wRegs C (⟨d, .nilChk x, none⟩ :: r) T H K = OptK (aNilChk (sX T x)) C r T d H K := _root_.id rfl
theorem ar_bin (op : BinOp) (x y : Opd) : wRegs C (⟨d, .bin op x y, none⟩ :: r) T H K = OptK (aBin op (sX T x) (sX T y)) C r T d H K := _root_.id rfl
theorem ar_un (op : UnOp) (x : Opd) : wRegs C (⟨d, .un op x, none⟩ :: r) T H K = OptK (aUn op (sX T x)) C r T d H K := _root_.id rfl
theorem ar_conv (k : IntKind) (x : Opd) : wRegs C (⟨d, .conv k x, none⟩ :: r) T H K = OptK (aConv k (sX T x)) C r T d H K := _root_.id rfl
theorem ar_convSB (x : Opd) : wRegs C (⟨d, .convSB x, none⟩ :: r) T H K = OptH (aSB H (sX T x)) C r T d K := _root_.id rfl
theorem ar_convBS (x : Opd) : wRegs C (⟨d, .convBS x, none⟩ :: r) T H K = OptK (aBS H (sX T x)) C r T d H K := _root_.id rfl
theorem ar_mkFunc (fn : Fn) (a b : List Opd) : wRegs C (⟨d, .mkFunc fn a b, none⟩ :: r) T H K = wRegs C r (upO T d (.func fn (sXs T a) (sXs T b))) H K := _root_.id rfl
theorem ar_mkIface (t : TypeId) (x : Opd) : wRegs C (⟨d, .mkIface t x, none⟩ :: r) T H K = wRegs C r (upO T d (.iface t (sX T x))) H K := _root_.id rfl
theorem ar_mkSlice (b : Nat) (z : List AVal) (l c : Opd) : wRegs C (⟨d, .mkSlice b z l c, none⟩ :: r) T H K = OptH (aMake b z H (sX T l) (sX T c)) C r T d K := _root_.id rfl
theorem ar_sl (n : Nat) (x : Opd) (lo hi mx : Option Opd) : wRegs C (⟨d, .sl n x lo hi mx, none⟩ :: r) T H K = OptK (aSl n (sX T x) (sXO T lo) (sXO T hi) (sXO T mx)) C r T d H K := _root_.id rfl
theorem ar_slStr (x : Opd) (lo hi : Option Opd) : wRegs C (⟨d, .slStr x lo hi, none⟩ :: r) T H K = OptK (aSlStr (sX T x) (sXO T lo) (sXO T hi)) C r T d H K := _root_.id rfl
theorem ar_fieldA (o : Nat) (x : Opd) : wRegs C (⟨d, .fieldA o x, none⟩ :: r) T H K = OptK (aField o (sX T x)) C r T d H K := _root_.id rfl
theorem ar_field (a : Bool) (n o : Nat) (x : Opd) : wRegs C (⟨d, .field a n o x, none⟩ :: r) T H K = OptK (aFieldV a n o (sX T x)) C r T d H K := _root_.id rfl
theorem ar_idxA (n : Nat) (x i : Opd) : wRegs C (⟨d, .idxA n x i, none⟩ :: r) T H K = OptK (aIdxA n (sX T x) (sX T i)) C r T d H K := _root_.id rfl
theorem ar_idxArr (m n : Nat) (x i : Opd) : wRegs C (⟨d, .idxArr m n x i, none⟩ :: r) T H K = OptK (aIdxArr m n (sX T x) (sX T i)) C r T d H K := _root_.id rfl
theorem ar_idx (m n : Nat) (a : Bool) (x i : Opd) : wRegs C (⟨d, .idx m n a x i, none⟩ :: r) T H K = OptK (aIdx m n a (sX T x) (sX T i)) C r T d H K := _root_.id rfl
theorem ar_idxS (x i : Opd) : wRegs C (⟨d, .idxS x i, none⟩ :: r) T H K = OptK (aIdxS (sX T x) (sX T i)) C r T d H K := _root_.id rfl
theorem ar_extract (i : Nat) (x : Opd) : wRegs C (⟨d, .extract i x, none⟩ :: r) T H K = OptK (aExtract i (sX T x)) C r T d H K := _root_.id rfl
theorem ar_append (n b : Nat) (s x : Opd) : wRegs C (⟨d, .append n b s x, none⟩ :: r) T H K = OptH (aAppend n b H (sX T s) (sX T x)) C r T d K := _root_.id rfl
theorem ar_len (s : Bool) (x : Opd) : wRegs C (⟨d, .len s x, none⟩ :: r) T H K = OptK (aLenK s (sX T x)) C r T d H K := _root_.id rfl
theorem ar_call (f : FuncId) (args : List Opd) : wRegs C (⟨d, .call f args, none⟩ :: r) T H K = C f (sXs T args) H (kont C r T d K) := _root_.id rfl
def callvP (C : CS) (f : AVal) (args : List AVal) (H : AHeap) (K : AVal → AHeap → Prop) : Prop := ∃ g a b, f = .func (.func g) a b ∧ C g (a ++ args ++ b) H K
theorem callvP_func (g : FuncId) (a b args : List AVal) (K : AVal → AHeap → Prop) : callvP C (.func (.func g) a b) args H K = C g (a ++ args ++ b) H K := by
  simp only [callvP, AVal.func.injEq, Fn.func.injEq]
  apply propext
  constructor
  · rintro ⟨g, a, b, ⟨rfl, rfl, rfl⟩, h⟩; exact h
  · intro h; exact ⟨_, _, _, ⟨rfl, rfl, rfl⟩, h⟩
theorem ar_callv (f : Opd) (args : List Opd) : wRegs C (⟨d, .callv f args, none⟩ :: r) T H K = callvP C (sX T f) (sXs T args) H (kont C r T d K) := _root_.id rfl
theorem ar_pf (f : PF) (xs : List Opd) : wRegs C (⟨d, .pf f xs, none⟩ :: r) T H K = OptK (aPf f (sXs T xs)) C r T d H K := _root_.id rfl
theorem ar_hf (f : HF) (xs : List Opd) : wRegs C (⟨d, .hf f xs, none⟩ :: r) T H K = OptH (aHf f H (sXs T xs)) C r T d K := _root_.id rfl
theorem ar_slA (m n : Nat) (x : Opd) (lo hi mx : Option Opd) : wRegs C (⟨d, .slA m n x lo hi mx, none⟩ :: r) T H K = OptK (aSlArr m n (sX T x) (sXO T lo) (sXO T hi) (sXO T mx)) C r T d H K := _root_.id rfl
theorem upO_some (i : Nat) (v : AVal) : upO T (some i) v = up T i v := _root_.id rfl
theorem upO_none (v : AVal) : upO T none v = T := _root_.id rfl
theorem sX_t (i : Nat) : sX T (.t i) = T i := _root_.id rfl
theorem sX_c (v : AVal) : sX T (.c v) = v := _root_.id rfl
theorem sX_f (i : Nat) : sX T (.f i) = .func (.func i) [] [] := _root_.id rfl
theorem fin_t (i : Nat) (K : AVal → AHeap → Prop) : fin [.t i] K .ret T H = K (T i) H := by
  simp only [fin, wRes, OptP_some]; rfl
theorem fin_t2 (i j : Nat) (K : AVal → AHeap → Prop) : fin [.t i, .t j] K .ret T H = K (.tuple [T i, T j]) H := by
  simp only [fin, wRes, OptP_some]; rfl
theorem fin_t3 (i j k : Nat) (K : AVal → AHeap → Prop) : fin [.t i, .t j, .t k] K .ret T H = K (.tuple [T i, T j, T k]) H := by
  simp only [fin, wRes, OptP_some]; rfl
def CMono (C : CS) : Prop := ∀ f a H (K K' : AVal → AHeap → Prop), (∀ v H, K v H → K' v H) → C f a H K → C f a H K'
theorem calls_mono (P : Program) (N : ANat) : CMono (ACalls P N) := fun _ _ _ _ _ h hc => hc.mono h
theorem wOp_mono (hC : CMono C) {K K' : AVal → AHeap → Prop} (h : ∀ v H, K v H → K' v H) {o : AOp} (hw : wOp C T H K o) : wOp C T H K' o := by
  cases o
  case call f args => exact hC _ _ _ _ _ h hw
  case callv f args => obtain ⟨g, a, b, h1, h2⟩ := hw; exact ⟨g, a, b, h1, hC _ _ _ _ _ h h2⟩
  case pick c a b => obtain ⟨v, h1, h2⟩ := hw; exact ⟨v, h1, h _ _ h2⟩
  case bad => exact hw
  all_goals first
    | exact h _ _ hw
    | exact OptP.mono hw fun v hv => h _ _ hv
theorem wTr_regs (hC : CMono C) : ∀ (l : List AOper) {T : Env} {H : AHeap} {K : List (AVal × AHeap) → Env → AHeap → Prop} {K' : Env → AHeap → Prop}, (∀ ss T H, K' T H → K ss T H) → wRegs C l T H K' → wTr C l T H K := by
  intro l
  induction l with
  | nil => intro T H K K' h hw; exact h _ _ _ hw
  | cons o l ih =>
    intro T H K K' h hw
    simp only [wRegs, wTr] at hw ⊢
    cases hg : sG T o.guard with
    | false => rw [hg] at hw; exact ih (fun ss T H => h _ T H) hw
    | true =>
      rw [hg] at hw
      simp only [cond_true] at hw ⊢
      exact wOp_mono hC (fun v H' hw => ih (fun ss T H => h _ T H) hw) hw
def allNil : List (List Nat) → Bool
  | [] => true
  | [] :: r => allNil r
  | _ :: _ => false
theorem ck_nil {hs : List AHeap} : ∀ (l : List AOper) (ps : List (List Nat)) (ss : List (AVal × AHeap)) (T : Env), allNil ps = true → wCk hs l ps ss T
  | [], _, _, _, _ => trivial
  | o :: l, [], _, _, _ => trivial
  | o :: l, [] :: ps, [], _, _ => trivial
  | o :: l, [] :: ps, (v, Hv) :: ss, T, h => ⟨fun p hp => by simp at hp, ck_nil l ps ss _ h⟩
  | o :: l, (q :: p) :: ps, _, _, h => by simp [allNil] at h
def noNew : List AOper → Bool
  | [] => true
  | o :: r => match newOf o.op with
    | some _ => false
    | none => noNew r
theorem claims_noNew : ∀ (l : List AOper), noNew l = true → ∀ (b : Nat) (H : AHeap), claims b l = l ∧ reserves H l = H
  | [], _, b, H => ⟨rfl, rfl⟩
  | o :: r, h, b, H => by
    cases hz : newOf o.op with
    | some p => simp [noNew, hz] at h
    | none =>
      simp only [noNew, hz] at h
      exact ⟨by simp only [claims, hz, (claims_noNew r h b H).1], by simp only [reserves, hz, (claims_noNew r h b H).2]⟩
theorem wTr_mono (hC : CMono C) : ∀ (l : List AOper) {T : Env} {H : AHeap} {K K' : List (AVal × AHeap) → Env → AHeap → Prop}, (∀ ss T H, K ss T H → K' ss T H) → wTr C l T H K → wTr C l T H K' := by
  intro l
  induction l with
  | nil => intro T H K K' h hw; exact h _ _ _ hw
  | cons o l ih =>
    intro T H K K' h hw
    simp only [wTr] at hw ⊢
    cases hg : sG T o.guard with
    | false => rw [hg] at hw; exact ih (fun ss T H => h _ T H) hw
    | true =>
      rw [hg] at hw
      simp only [cond_true] at hw ⊢
      exact wOp_mono hC (fun v H' hw => ih (fun ss T H => h _ T H) hw) hw
theorem wRegs_mono (hC : CMono C) : ∀ (l : List AOper) {T : Env} {H : AHeap} {K K' : Env → AHeap → Prop}, (∀ T H, K T H → K' T H) → wRegs C l T H K → wRegs C l T H K' := by
  intro l
  induction l with
  | nil => intro T H K K' h hw; exact h _ _ hw
  | cons o l ih =>
    intro T H K K' h hw
    simp only [wRegs] at hw ⊢
    cases hg : sG T o.guard with
    | false => rw [hg] at hw; exact ih h hw
    | true =>
      rw [hg] at hw
      simp only [cond_true] at hw ⊢
      exact wOp_mono hC (fun v H' hw => ih h hw) hw
theorem inSeq_mono {Q Q' : Post} {K K' : Env → AHeap → Prop} (h : ∀ e T H, Q e T H → Q' e T H) (hk : ∀ T H, K T H → K' T H) (e : AEx) (T : Env) (H : AHeap) (hq : inSeq Q K e T H) : inSeq Q' K' e T H := by
  cases e with
  | normal => exact hk _ _ hq
  | exit i => exact h _ _ _ hq
  | ret => exact h _ _ _ hq
theorem wp_mono' (hC : CMono C) : ∀ (c : ACode) {Q Q' : Post} {T : Env} {H : AHeap}, (∀ e T H, Q e T H → Q' e T H) → wp C c Q T H → wp C c Q' T H := by
  intro c
  induction c with
  | skip => intro Q Q' T H h hw; exact h _ _ _ hw
  | reg l => intro Q Q' T H h hw; exact wRegs_mono hC l (h .normal) hw
  | draw l chk => intro Q Q' T H h hw; exact wTr_mono hC _ (fun ss T' H' hk => ⟨hk.1, h _ _ _ hk.2⟩) hw
  | seq a b iha ihb => intro Q Q' T H h hw; exact iha (inSeq_mono h fun T H hk => ihb h hk) hw
  | cond c a b iha ihb =>
    intro Q Q' T H h hw
    obtain ⟨v, h1, h2⟩ := hw
    refine ⟨v, h1, ?_⟩
    cases v with
    | true => exact iha h h2
    | false => exact ihb h h2
  | block id c ih =>
    intro Q Q' T H h hw
    refine ih (fun e T H hk => ?_) hw
    cases e with
    | exit j =>
      simp only [inBlk] at hk ⊢
      cases hb : Nat.beq j id with
      | true => rw [hb] at hk; exact h _ _ _ hk
      | false => rw [hb] at hk; exact h _ _ _ hk
    | normal => exact h _ _ _ hk
    | ret => exact h _ _ _ hk
  | loop c ih =>
    intro Q Q' T H h hw
    obtain ⟨I, hm, hI⟩ := hw
    exact ⟨I, hm, fun m T H hi => ih (inSeq_mono h fun _ _ hk => hk) (hI m T H hi)⟩
  | exit id => intro Q Q' T H h hw; exact h _ _ _ hw
  | ret => intro Q Q' T H h hw; exact h _ _ _ hw
def norm : ACode → ACode
  | .draw l chk => bif allNil chk && noNew l then .reg l else .draw l chk
  | .seq a b => .seq (norm a) (norm b)
  | .cond c a b => .cond c (norm a) (norm b)
  | .block id c => .block id (norm c)
  | .loop c => .loop (norm c)
  | c => c
theorem wp_norm (hC : CMono C) : ∀ (c : ACode) {Q : Post} {T : Env} {H : AHeap}, wp C (norm c) Q T H → wp C c Q T H := by
  intro c
  induction c with
  | skip => intro Q T H hw; exact hw
  | reg l => intro Q T H hw; exact hw
  | draw l chk =>
    intro Q T H hw
    simp only [norm] at hw
    cases hb : allNil chk && noNew l with
    | false => rw [hb] at hw; exact hw
    | true =>
      rw [hb] at hw
      simp only [Bool.and_eq_true] at hb
      simp only [wp, wDraw, (claims_noNew l hb.2 H.next H).1, (claims_noNew l hb.2 H.next H).2]
      exact wTr_regs hC l (K := fun ss T' H' => wCk (H :: ss.map (·.2)) l chk ss T ∧ Q .normal T' H') (fun ss T' H' hk => ⟨ck_nil l chk ss T hb.1, hk⟩) hw
  | seq a b iha ihb => intro Q T H hw; exact wp_mono' hC a (inSeq_mono (fun _ _ _ h => h) fun T H hk => ihb hk) (iha hw)
  | cond c a b iha ihb =>
    intro Q T H hw
    obtain ⟨v, h1, h2⟩ := hw
    refine ⟨v, h1, ?_⟩
    cases v with
    | true => exact iha h2
    | false => exact ihb h2
  | block id c ih => intro Q T H hw; exact ih hw
  | loop c ih =>
    intro Q T H hw
    obtain ⟨I, hm, hI⟩ := hw
    exact ⟨I, hm, fun m T H hi => ih (hI m T H hi)⟩
  | exit id => intro Q T H hw; exact hw
  | ret => intro Q T H hw; exact hw
def cN (P : Program) (f : FuncId) : Option AFn := match cFn P f with
  | some c => some ⟨c.nt, norm c.body, c.res⟩
  | none => none
theorem acalls_ofN {P : Program} {N : ANat} {f : FuncId} {c : AFn} {args : List AVal} {H : AHeap} {K : AVal → AHeap → Prop} (hn : N.is f = false) (hc : cN P f = some c) (hl : Nat.ble args.length c.nt = true) (h : wp (ACalls P N) c.body (fin c.res K) (argE args) H) : ACalls P N f args H K := by
  unfold cN at hc
  cases hf : cFn P f with
  | none => rw [hf] at hc; simp at hc
  | some c' =>
    rw [hf] at hc
    simp only [Option.some.injEq] at hc
    subst hc
    exact acalls_of hn hf hl (wp_norm (calls_mono P N) _ h)
theorem aw_drawC {l : List AOper} {chk : List (List Nat)} (h2 : noNew l = true) (h : wTr C l T H fun ss T' H' => wCk (H :: ss.map (·.2)) l chk ss T ∧ Q .normal T' H') : wp C (.draw l chk) Q T H := by
  simp only [wp, wDraw, (claims_noNew l h2 H.next H).1, (claims_noNew l h2 H.next H).2]
  exact h
end
theorem argE_0 (a : AVal) (r : List AVal) : argE (a :: r) 0 = a := _root_.id rfl
theorem argE_1 (a b : AVal) (r : List AVal) : argE (a :: b :: r) 1 = b := _root_.id rfl
theorem argE_2 (a b c : AVal) (r : List AVal) : argE (a :: b :: c :: r) 2 = c := _root_.id rfl
theorem argE_3 (a b c d : AVal) (r : List AVal) : argE (a :: b :: c :: d :: r) 3 = d := _root_.id rfl
theorem argE_4 (a b c d e : AVal) (r : List AVal) : argE (a :: b :: c :: d :: e :: r) 4 = e := _root_.id rfl
theorem bin_lss (k : IntKind) (a b : Int) : aBin .lss (.int k a) (.int k b) = some (.bool (decide (a < b))) := by
  simp [aBin, isShift, aIntF_eq, aInt]
theorem bin_leq (k : IntKind) (a b : Int) : aBin .leq (.int k a) (.int k b) = some (.bool (decide (a ≤ b))) := by
  simp [aBin, isShift, aIntF_eq, aInt]
theorem bin_gtr (k : IntKind) (a b : Int) : aBin .gtr (.int k a) (.int k b) = some (.bool (decide (b < a))) := by
  simp [aBin, isShift, aIntF_eq, aInt]
theorem bin_geq (k : IntKind) (a b : Int) : aBin .geq (.int k a) (.int k b) = some (.bool (decide (b ≤ a))) := by
  simp [aBin, isShift, aIntF_eq, aInt]
theorem bin_eql (k : IntKind) (a b : Int) : aBin .eql (.int k a) (.int k b) = some (.bool (decide (a = b))) := by
  simp only [aBin, isShift, aIntF_eq, aInt, cond_false, if_true]
  by_cases h : a = b <;> simp [h]
theorem bin_neq (k : IntKind) (a b : Int) : aBin .neq (.int k a) (.int k b) = some (.bool (!decide (a = b))) := by
  simp only [aBin, isShift, aIntF_eq, aInt, cond_false, if_true]
  by_cases h : a = b <;> simp [h, bne]
theorem bin_add (k : IntKind) (a b : Int) : aBin .add (.int k a) (.int k b) = some (.int k (k.wrap (a + b))) := by
  simp [aBin, isShift, aIntF_eq, aInt]
theorem bin_sub (k : IntKind) (a b : Int) : aBin .sub (.int k a) (.int k b) = some (.int k (k.wrap (a - b))) := by
  simp [aBin, isShift, aIntF_eq, aInt]
theorem bin_mul (k : IntKind) (a b : Int) : aBin .mul (.int k a) (.int k b) = some (.int k (k.wrap (a * b))) := by
  simp [aBin, isShift, aIntF_eq, aInt]
theorem bin_rem (k : IntKind) (a b : Int) (h : b ≠ 0) : aBin .rem (.int k a) (.int k b) = some (.int k (a.tmod b)) := by
  simp [aBin, isShift, aIntF_eq, aInt, h]
theorem bin_remN (a b : Nat) (h : 0 < b) : aBin .rem (.int .i64 (a : Int)) (.int .i64 (b : Int)) = some (.int .i64 ((a % b : Nat) : Int)) := by
  rw [bin_rem _ _ _ (by omega)]; rfl
theorem wrapN (a b : Nat) (h : a + b ≤ 9223372036854775807) : IntKind.i64.wrap ((a : Int) + (b : Int)) = ((a + b : Nat) : Int) := by
  rw [IntKind.wrap_i64]; omega
theorem wrap1 (a : Nat) (h : a + 1 ≤ 9223372036854775807) : IntKind.i64.wrap ((a : Int) + 1) = ((a + 1 : Nat) : Int) := by
  rw [IntKind.wrap_i64]; omega
def ints (l : List Int) : List AVal := l.map fun n => .int .i64 n
theorem ints_len (l : List Int) : (ints l).length = l.length := by simp [ints]
theorem ints_get {l : List Int} {i : Nat} {n : Int} (h : l[i]? = some n) : (ints l)[i]? = some (.int .i64 n) := by simp [ints, h]
theorem wrap64 {a : Int} (h1 : -9223372036854775808 ≤ a) (h2 : a ≤ 9223372036854775807) : IntKind.i64.wrap a = a := by
  rw [IntKind.wrap_i64]; omega
end Go.Abs.S
namespace Go.Abs
section
variable {P : Program} {Prot : Gh} {w0 : World} {ρ : Pl} {H : AHeap} {w : World}
theorem Rel.keep (R : Rel Prot w0 ρ H w) {w' : World} (hb : RowKit.Below w.heap.size w w') : Rel Prot w0 ρ H w' := by
  refine ⟨hb.os.trans R.os, hb.tape.trans R.tape, hb.output.trans R.output, Nat.le_trans R.size hb.size, fun c hc => ?_, fun b l L h => ?_, fun b l L h => ?_, R.free, R.inj, R.dead, R.glob⟩
  · obtain ⟨h1, h2⟩ := R.prot c hc
    exact ⟨h1, (hb.block c (Nat.lt_of_lt_of_le h1 R.size)).trans h2⟩
  · obtain ⟨h1, h2⟩ := R.dom b l L h
    exact ⟨h1, Nat.lt_of_lt_of_le h2 hb.size⟩
  · obtain ⟨x, o, h1, h2, h3⟩ := R.obj b l L h
    exact ⟨x, o, h1, (hb.block _ (R.dom b l L h).2).trans h2, h3⟩
end
end Go.Abs
namespace Go.Abs.S
open Go.Abs
section
variable {C : CS} {T : Env} {H : AHeap} {r : List AOper} {d : Option Nat}
abbrev KT := List (AVal × AHeap) → Env → AHeap → Prop
variable {K : KT}
def consK (v : AVal) (H : AHeap) (K : KT) : KT := fun ss => K ((v, H) :: ss)
theorem consK_app (v : AVal) (H' : AHeap) (ss : List (AVal × AHeap)) : consK v H' K ss T H = K ((v, H') :: ss) T H := _root_.id rfl
def OptKT (o : Option AVal) (C : CS) (r : List AOper) (T : Env) (d : Option Nat) (H : AHeap) (K : KT) : Prop := OptP o fun v => wTr C r (upO T d v) H (consK v H K)
def OptHT (o : Option (AVal × AHeap)) (C : CS) (r : List AOper) (T : Env) (d : Option Nat) (K : KT) : Prop := OptP o fun p => wTr C r (upO T d p.1) p.2 (consK p.1 p.2 K)
def OptST (o : Option AHeap) (C : CS) (r : List AOper) (T : Env) (d : Option Nat) (K : KT) : Prop := OptP o fun H' => wTr C r (upO T d undefA) H' (consK undefA H' K)
def kontT (C : CS) (r : List AOper) (T : Env) (d : Option Nat) (K : KT) : AVal → AHeap → Prop := fun v H' => wTr C r (upO T d v) H' (consK v H' K)
theorem OptKT_some (v : AVal) : OptKT (some v) C r T d H K = wTr C r (upO T d v) H (consK v H K) := OptP_some _ _
theorem OptHT_some (v : AVal) (H' : AHeap) : OptHT (some (v, H')) C r T d K = wTr C r (upO T d v) H' (consK v H' K) := OptP_some _ _
theorem OptST_some (H' : AHeap) : OptST (some H') C r T d K = wTr C r (upO T d undefA) H' (consK undefA H' K) := OptP_some _ _
theorem kontT_app (v : AVal) : kontT C r T d K v H = wTr C r (upO T d v) H (consK v H K) := _root_.id rfl
theorem tr_nil : wTr C [] T H K = K [] T H := _root_.id rfl
open Classical in
theorem tr_guard (o : AOp) (t : Nat) (b : Bool) : wTr C (⟨d, o, some (t, b)⟩ :: r) T H K = if T t = .bool b then wTr C (⟨d, o, none⟩ :: r) T H K else wTr C r (upO T d undefA) H (consK undefA H K) := by
  simp only [wTr, sG]
  by_cases h : T t = .bool b
  · rw [if_pos h, h]; cases b <;> rfl
  · rw [if_neg h]
    have : sGv b (T t) = false := by
      cases hv : T t <;> simp only [sGv]
      rename_i v
      rw [hv] at h
      cases b <;> cases v <;> simp at h ⊢
    rw [this]; rfl
open Classical in
theorem tr_pick (c a b : Opd) : wTr C (⟨d, .pick c a b, none⟩ :: r) T H K = if sX T c = .bool true then wTr C r (upO T d (sX T a)) H (consK (sX T a) H K) else if sX T c = .bool false then wTr C r (upO T d (sX T b)) H (consK (sX T b) H K) else False := by
  simp only [wTr, sG, wOp, cond_true]
  by_cases h : sX T c = .bool true
  · rw [if_pos h, h]; simp; rfl
  · rw [if_neg h]
    by_cases h' : sX T c = .bool false
    · rw [if_pos h', h']; simp; rfl
    · rw [if_neg h']
      simp only [eq_iff_iff, iff_false, not_exists, not_and]
      intro v hv
      cases v
      · exact absurd hv h'
      · exact absurd hv h
theorem tr_mv (x : Opd) : wTr C (⟨d, .mv x, none⟩ :: r) T H K = wTr C r (upO T d (sX T x)) H (consK (sX T x) H K) := _root_.id rfl
theorem tr_new (z : List AVal) : wTr C (⟨d, .new z, none⟩ :: r) T H K = wTr C r (upO T d (oNew H z).1) (oNew H z).2 (consK (oNew H z).1 (oNew H z).2 K) := _root_.id rfl
theorem tr_box (x : Opd) : wTr C (⟨d, .box x, none⟩ :: r) T H K = wTr C r (upO T d (oNew H (sX T x).cells).1) (oNew H (sX T x).cells).2 (consK (oNew H (sX T x).cells).1 (oNew H (sX T x).cells).2 K) := _root_.id rfl
theorem tr_build (z : List AVal) (ps : List (Nat × Nat × Opd)) : wTr C (⟨d, .build z ps, none⟩ :: r) T H K = OptKT (aBuild z (sXP T ps)) C r T d H K := _root_.id rfl
theorem tr_buildSl (n : Nat) (z : List AVal) (ps : List (Nat × Nat × Opd)) : wTr C (⟨d, .buildSl n z ps, none⟩ :: r) T H K = OptHT (aBuildSl n z H (sXP T ps)) C r T d K := _root_.id rfl
theorem tr_load (a : Bool) (n : Nat) (x : Opd) : wTr C (⟨d, .load a n x, none⟩ :: r) T H K = OptKT (oLoad a n H (sX T x)) C r T d H K := _root_.id rfl
theorem tr_store (n : Nat) (a x : Opd) : wTr C (⟨d, .store n a x, none⟩ :: r) T H K = OptST (oStore n H (sX T a) (sX T x)) C r T d K := _root_.id rfl
theorem tr_nilChk (x : Opd) : wTr C (⟨d, .nilChk x, none⟩ :: r) T H K = OptKT (aNilChk (sX T x)) C r T d H K := _root_.id rfl
theorem tr_bin (op : BinOp) (x y : Opd) : wTr C (⟨d, .bin op x y, none⟩ :: r) T H K = OptKT (aBin op (sX T x) (sX T y)) C r T d H K := _root_.id rfl
theorem tr_un (op : UnOp) (x : Opd) : wTr C (⟨d, .un op x, none⟩ :: r) T H K = OptKT (aUn op (sX T x)) C r T d H K := _root_.id rfl
theorem tr_conv (k : IntKind) (x : Opd) : wTr C (⟨d, .conv k x, none⟩ :: r) T H K = OptKT (aConv k (sX T x)) C r T d H K := _root_.id rfl
theorem tr_convSB (x : Opd) : wTr C (⟨d, .convSB x, none⟩ :: r) T H K = OptHT (aSB H (sX T x)) C r T d K := _root_.id rfl
theorem tr_convBS (x : Opd) : wTr C (⟨d, .convBS x, none⟩ :: r) T H K = OptKT (aBS H (sX T x)) C r T d H K := _root_.id rfl
theorem tr_mkFunc (fn : Fn) (a b : List Opd) : wTr C (⟨d, .mkFunc fn a b, none⟩ :: r) T H K = wTr C r (upO T d (.func fn (sXs T a) (sXs T b))) H (consK (.func fn (sXs T a) (sXs T b)) H K) := _root_.id rfl
theorem tr_mkIface (t : TypeId) (x : Opd) : wTr C (⟨d, .mkIface t x, none⟩ :: r) T H K = wTr C r (upO T d (.iface t (sX T x))) H (consK (.iface t (sX T x)) H K) := _root_.id rfl
theorem tr_mkSlice (b : Nat) (z : List AVal) (l c : Opd) : wTr C (⟨d, .mkSlice b z l c, none⟩ :: r) T H K = OptHT (aMake b z H (sX T l) (sX T c)) C r T d K := _root_.id rfl
theorem tr_sl (n : Nat) (x : Opd) (lo hi mx : Option Opd) : wTr C (⟨d, .sl n x lo hi mx, none⟩ :: r) T H K = OptKT (aSl n (sX T x) (sXO T lo) (sXO T hi) (sXO T mx)) C r T d H K := _root_.id rfl
theorem tr_slStr (x : Opd) (lo hi : Option Opd) : wTr C (⟨d, .slStr x lo hi, none⟩ :: r) T H K = OptKT (aSlStr (sX T x) (sXO T lo) (sXO T hi)) C r T d H K := _root_.id rfl
theorem tr_fieldA (o : Nat) (x : Opd) : wTr C (⟨d, .fieldA o x, none⟩ :: r) T H K = OptKT (aField o (sX T x)) C r T d H K := _root_.id rfl
theorem tr_field (a : Bool) (n o : Nat) (x : Opd) : wTr C (⟨d, .field a n o x, none⟩ :: r) T H K = OptKT (aFieldV a n o (sX T x)) C r T d H K := _root_.id rfl
theorem tr_idxA (n : Nat) (x i : Opd) : wTr C (⟨d, .idxA n x i, none⟩ :: r) T H K = OptKT (aIdxA n (sX T x) (sX T i)) C r T d H K := _root_.id rfl
theorem tr_idxArr (m n : Nat) (x i : Opd) : wTr C (⟨d, .idxArr m n x i, none⟩ :: r) T H K = OptKT (aIdxArr m n (sX T x) (sX T i)) C r T d H K := _root_.id rfl
theorem tr_idx (m n : Nat) (a : Bool) (x i : Opd) : wTr C (⟨d, .idx m n a x i, none⟩ :: r) T H K = OptKT (aIdx m n a (sX T x) (sX T i)) C r T d H K := _root_.id rfl
theorem tr_idxS (x i : Opd) : wTr C (⟨d, .idxS x i, none⟩ :: r) T H K = OptKT (aIdxS (sX T x) (sX T i)) C r T d H K := _root_.id rfl
theorem tr_extract (i : Nat) (x : Opd) : wTr C (⟨d, .extract i x, none⟩ :: r) T H K = OptKT (aExtract i (sX T x)) C r T d H K := _root_.id rfl
theorem tr_append (n b : Nat) (s x : Opd) : wTr C (⟨d, .append n b s x, none⟩ :: r) T H K = OptHT (aAppend n b H (sX T s) (sX T x)) C r T d K := _root_.id rfl
theorem tr_len (s : Bool) (x : Opd) : wTr C (⟨d, .len s x, none⟩ :: r) T H K = OptKT (aLenK s (sX T x)) C r T d H K := _root_.id rfl
theorem tr_call (f : FuncId) (args : List Opd) : wTr C (⟨d, .call f args, none⟩ :: r) T H K = C f (sXs T args) H (kontT C r T d K) := _root_.id rfl
theorem tr_callv (f : Opd) (args : List Opd) : wTr C (⟨d, .callv f args, none⟩ :: r) T H K = callvP C (sX T f) (sXs T args) H (kontT C r T d K) := _root_.id rfl
theorem tr_pf (f : PF) (xs : List Opd) : wTr C (⟨d, .pf f xs, none⟩ :: r) T H K = OptKT (aPf f (sXs T xs)) C r T d H K := _root_.id rfl
theorem tr_hf (f : HF) (xs : List Opd) : wTr C (⟨d, .hf f xs, none⟩ :: r) T H K = OptHT (aHf f H (sXs T xs)) C r T d K := _root_.id rfl
theorem tr_slA (m n : Nat) (x : Opd) (lo hi mx : Option Opd) : wTr C (⟨d, .slA m n x lo hi mx, none⟩ :: r) T H K = OptKT (aSlArr m n (sX T x) (sXO T lo) (sXO T hi) (sXO T mx)) C r T d H K := _root_.id rfl
theorem ck_nil' (hs : List AHeap) (o : AOper) (l : List AOper) (ps : List (List Nat)) (v : AVal) (Hv : AHeap) (ss : List (AVal × AHeap)) : wCk hs (o :: l) ([] :: ps) ((v, Hv) :: ss) T = wCk hs l ps ss (upO T o.dst v) := by
  simp [wCk]
def ckP (hs : List AHeap) (ps : List Nat) (T : Env) (o : AOper) (v : AVal) : Prop := ∀ p ∈ ps, ∃ Hp, hs[p]? = some Hp ∧ (sG T o.guard = true → ∃ u, wLd T Hp o.op = some u ∧ aeq u v = true)
theorem ck_cons (hs : List AHeap) (o : AOper) (l : List AOper) (p : Nat) (q : List Nat) (ps : List (List Nat)) (v : AVal) (Hv : AHeap) (ss : List (AVal × AHeap)) : wCk hs (o :: l) ((p :: q) :: ps) ((v, Hv) :: ss) T = (ckP hs (p :: q) T o v ∧ wCk hs l ps ss (upO T o.dst v)) := by
  simp [wCk, ckP]
theorem ck_end (hs : List AHeap) (ps : List (List Nat)) (ss : List (AVal × AHeap)) : wCk hs [] ps ss T = True := by
  cases ps <;> simp [wCk]
theorem ckP_nil (hs : List AHeap) (o : AOper) (v : AVal) : ckP hs [] T o v = True := by simp [ckP]
theorem ckP_load (hs : List AHeap) (p : Nat) (q : List Nat) (a : Bool) (n : Nat) (x : Opd) (g : Option (Nat × Bool)) (v : AVal) : ckP hs (p :: q) T ⟨d, .load a n x, g⟩ v = ((∃ Hp, hs[p]? = some Hp ∧ (sG T g = true → ∃ u, oLoad a n Hp (sX T x) = some u ∧ aeq u v = true)) ∧ ckP hs q T ⟨d, .load a n x, g⟩ v) := by
  simp [ckP, wLd]
end
def natB (f : FuncId) : ANat := ⟨fun g => Nat.beq g f, fun g args H => bif Nat.beq g f then (match args with | [] => some (.bool true, H) | _ => none) else none⟩
theorem natB_ok {P : Program} {f : FuncId} (hb : hasBody P f = true) (h : ∀ w, Calls P f #[] w fun e w' => e = .returned (.bool true) ∧ RowKit.Below w.heap.size w w') : NatOK P (natB f) := by
  refine ⟨fun g hg => ?_, fun g args H v H' hr Prot w0 ρ w vs R hv => ?_⟩
  · obtain rfl : g = f := Nat.eq_of_beq_eq_true hg
    exact hb
  · simp only [natB] at hr
    cases hg : Nat.beq g f with
    | false => rw [hg] at hr; simp at hr
    | true =>
      rw [hg] at hr
      obtain rfl : g = f := Nat.eq_of_beq_eq_true hg
      simp only [cond_true] at hr
      split at hr
      · simp only [Option.some.injEq, Prod.mk.injEq] at hr
        obtain ⟨rfl, rfl⟩ := hr
        simp only [VRels] at hv
        obtain rfl : vs = #[] := Array.toList_inj.1 (by simpa using hv)
        exact (h w).mono fun e w' ⟨he, hk⟩ => ⟨ρ, _, Pl.le_refl _, he, R.keep hk, by simp only [VRel]⟩
      · simp at hr
theorem natB_call {P : Program} {f : FuncId} {H : AHeap} {K : AVal → AHeap → Prop} (h : K (.bool true) H) : ACalls P (natB f) f [] H K :=
  acalls_nat (by show Nat.beq f f = true; exact Nat.beq_refl f) (by simp [natB]) h
end Go.Abs.S
namespace Go.Abs.S
open Go.Abs
theorem rd_pre {H : AHeap} {a : Ad} {n k : Nat} {xs : List AVal} (h : rdCells H a n = some xs) (hk : k ≤ n) : rdCells H a k = some (xs.take k) := by
  obtain ⟨l, low, ro, h1, h2, h3, h4, rfl⟩ := rd_spec h
  unfold rdCells
  simp only [h1, Nat.ble_eq_true_of_le h2, Nat.ble_eq_true_of_le h3, Nat.ble_eq_true_of_le (show a.o + k ≤ a.lim by omega), Bool.and_self, cond_true]
  rw [List.take_take, Nat.min_eq_left hk]
theorem row_newL (H : AHeap) (l : List AVal) {n : Nat} (hn : l.length = n) : ∃ H', oNew H l = (cellR H.next n 0, H') ∧ Row H' H.next l ∧ H'.next = H.next + 1 ∧ ∀ c, c ≠ H.next → H'.get c = H.get c := by
  subst hn
  exact ⟨_, rfl, row_push _ _, rfl, fun c hc => by rw [AHeap.get_push, if_neg hc]⟩
theorem cells_agg (l : List AVal) : (AVal.agg l).cells = l := _root_.id rfl
theorem ext_0 (x : AVal) (r : List AVal) : aExtract 0 (.tuple (x :: r)) = some x := _root_.id rfl
theorem ext_1 (x y : AVal) (r : List AVal) : aExtract 1 (.tuple (x :: y :: r)) = some y := _root_.id rfl
theorem ext_2 (x y z : AVal) (r : List AVal) : aExtract 2 (.tuple (x :: y :: z :: r)) = some z := _root_.id rfl
theorem Ext.of_new {H H' : AHeap} {b : Nat} (hn : H'.next = H.next + 1) (h : ∀ c, c ≠ b → H'.get c = H.get c) {n : Nat} (hb : n ≤ b) : Ext n H H' := ⟨by omega, fun c hc => h c (by omega)⟩
theorem rd_world {w : World} {c n off len : Nat} (hr : rowOf w c = some n) (hb : off + len ≤ n) {l : List AVal} (hl : l.length = len)
    (h : ∀ i, i < len → ∃ v, w.cell? ⟨c, off + i, none⟩ = some v ∧ l[i]? = some (absW w v)) : rdCells (heapW w) ⟨c, n, off⟩ len = some l := by
  obtain ⟨C, e, fz, h1, h2, h3⟩ := objW_some hr
  unfold rdCells
  rw [heapW_get, h3]
  simp only [List.length_map, Array.length_toList, h2, Nat.ble_eq_true_of_le (Nat.zero_le _), Nat.ble_eq_true_of_le (Nat.le_refl _), Nat.ble_eq_true_of_le hb, Bool.and_self, cond_true, Option.some.injEq]
  apply List.ext_getElem?
  intro i
  by_cases hi : i < len
  · obtain ⟨v, q1, q2⟩ := h i hi
    rw [q2, List.getElem?_take_of_lt hi, List.getElem?_drop, List.getElem?_map, Array.getElem?_toList]
    rw [cell?_of h1] at q1
    rw [q1]; rfl
  · rw [List.getElem?_eq_none (by simp; omega), List.getElem?_eq_none (by omega)]
end Go.Abs.S
namespace Go.Abs.S
open Go.Abs Go.WideShapes Go.ChangeShapes
theorem rowAt_off {p : Program} {fits : TypeId → Bool} {d : Nat} {e : TypeId} {count off n : Nat} (h : rowAt p fits d e count off n = true) : off ≤ count * p.cellsOf e := by
  cases d with
  | zero => simp [rowAt] at h
  | succ d =>
    unfold rowAt at h
    simp only at h
    split at h
    · simp at h
    · rename_i hs
      have hdiv := Nat.div_add_mod off (p.cellsOf e)
      have hmod := Nat.mod_lt off (Nat.pos_of_ne_zero hs)
      have key : off / p.cellsOf e ≤ count → (off % p.cellsOf e = 0 ∨ off / p.cellsOf e < count) → off ≤ count * p.cellsOf e := by
        intro h1 h2
        rcases h2 with h2 | h2
        · have := Nat.mul_le_mul_right (p.cellsOf e) h1
          rw [Nat.mul_comm] at hdiv
          omega
        · have := Nat.mul_le_mul_right (p.cellsOf e) (Nat.succ_le_of_lt h2)
          rw [Nat.succ_mul] at this
          rw [Nat.mul_comm] at hdiv
          omega
      simp only [Bool.or_eq_true, Bool.and_eq_true, decide_eq_true_eq, beq_iff_eq] at h
      rcases h with ⟨⟨h1, h2⟩, _⟩ | ⟨h1, _⟩
      · exact key (by omega) (.inl h1)
      · exact key (by omega) (.inr h1)
theorem liesAt_off {p : Program} : ∀ {d : Nat} {e : TypeId} {count off : Nat} {u : TypeId} {n : Nat}, liesAt p d e count off u n = true → off ≤ count * p.cellsOf e := by
  intro d
  induction d with
  | zero => intro e count off u n h; simp [liesAt] at h
  | succ d ih =>
    intro e count off u n h
    unfold liesAt at h
    simp only [Bool.or_eq_true] at h
    rcases h with h | h
    · exact rowAt_off h
    · split at h
      · exact ih h
      · simp at h
theorem okWide_room {P : Program} {w : World} {r : Reach} {base : Nat} {t e : TypeId} {a : Addr} {len cap : Nat} (ht : P.underlying t = some (.slice e)) (h : Value.okWide P w r base t (.slice (some a) len cap)) :
    a.spot = none ∧ len ≤ cap ∧ ∃ n, rowOf w a.block = some n ∧ a.off ≤ n := by
  simp only [Value.okWide, ht, Cell.okWide, Cell.ok] at h
  obtain ⟨h1, _, _, h2, row, cells, h3, h4⟩ := h
  refine ⟨h2, h1, cells, ?_, Nat.le_trans (liesAt_off h4) (Nat.div_mul_le_self _ _)⟩
  unfold World.shape? at h3
  unfold rowOf
  split at h3
  · rename_i c el fz hc
    simp only [Option.some.injEq, Prod.mk.injEq] at h3
    rw [hc]
    simp only [h3.2]
  · simp at h3
theorem cells_slice (v : Value) {a : Option Addr} {len cap : Nat} (h : v = .slice a len cap) : v.cells.toList = [.slice a len cap] := by subst h; rfl
variable {H : Type} {enc : TypeId × Value → H}
end Go.Abs.S
namespace Go.Abs.S
open Go.Abs
theorem Cel.src {n : Nat} {H : AHeap} {s : AVal} {l : List AVal} (h : Cel n H s l) : aSrc 1 H s = some (l.length, l) := by
  rcases h with ⟨h, rfl⟩ | ⟨a, r, rfl, _, h⟩
  · rcases isE_cases h with rfl | ⟨a, rfl⟩ <;> rfl
  · simp only [aSrc, Nat.mul_one, h]
end Go.Abs.S
namespace Go.Abs.S
open Go.Abs
theorem str_len (s : List UInt8) : aLenK true (.str s) = some (.int .i64 (s.length : Int)) := _root_.id rfl
theorem str_eql (x y : List UInt8) : aBin .eql (.str x) (.str y) = some (.bool (decide (x = y))) := by
  simp only [aBin, aStr]
  by_cases h : x = y <;> simp [h]
theorem str_neq (x y : List UInt8) : aBin .neq (.str x) (.str y) = some (.bool (!decide (x = y))) := by
  simp only [aBin, aStr]
  by_cases h : x = y <;> simp [h]
theorem conv_in (k k' : IntKind) (n : Int) : aConv k (.int k' n) = some (.int k (k.wrap n)) := by
  simp only [aConv, wrF_eq]
theorem un_not (b : Bool) : aUn .not (.bool b) = some (.bool (!b)) := _root_.id rfl
theorem bin_quo (k : IntKind) (a b : Int) (h : b ≠ 0) : aBin .quo (.int k a) (.int k b) = some (.int k (k.wrap (a.tdiv b))) := by
  simp [aBin, isShift, aIntF_eq, aInt, h]
theorem bin_shl (k k' : IntKind) (a : Int) (b : Nat) : aBin .shl (.int k a) (.int k' (b : Int)) = some (.int k (k.wrap (a * 2 ^ (min b k.bits)))) := by
  simp only [aBin, isShift, cond_true, aShiftF_eq, aShift]
  rw [if_neg (by omega)]; rfl
theorem bin_shr (k k' : IntKind) (a : Int) (b : Nat) : aBin .shr (.int k a) (.int k' (b : Int)) = some (.int k (a.fdiv (2 ^ (min b k.bits)))) := by
  simp only [aBin, isShift, cond_true, aShiftF_eq, aShift]
  rw [if_neg (by omega)]; rfl
theorem undef_bool (b : Bool) : (undefA = AVal.bool b) = False := by simp [undefA]
end Go.Abs.S
namespace Go.Abs.S
open Go.Abs
theorem ofInt_nat (n m : Nat) : (BitVec.ofInt m (n : Int)).toNat = n % 2 ^ m := by
  rw [BitVec.toNat_ofInt]
  omega
theorem wrapI {a : Nat} (h : a < 2 ^ 63) : IntKind.i64.wrap (a : Int) = a := by
  rw [IntKind.wrap_i64]; omega
theorem bin_shlN {k' : IntKind} {a b : Nat} (hb : b ≤ 63) (h : a * 2 ^ b < 2 ^ 63) : aBin .shl (.int .i64 (a : Int)) (.int k' (b : Int)) = some (.int .i64 ((a * 2 ^ b : Nat) : Int)) := by
  rw [bin_shl]
  have e : min b IntKind.i64.bits = b := by simp only [IntKind.bits]; omega
  rw [e]
  have e2 : (a : Int) * 2 ^ b = ((a * 2 ^ b : Nat) : Int) := by simp
  rw [e2, wrapI h]
theorem or_low (n a : Nat) {b : Nat} (h : b < 2 ^ n) : a * 2 ^ n ||| b = a * 2 ^ n + b := by
  rw [Nat.mul_comm, Nat.two_pow_add_eq_or_of_lt h]
theorem pf_min (a b : Int) : aPf (.mm false) [.int .i64 a, .int .i64 b] = some (.int .i64 (if b < a then b else a)) := by
  simp only [aPf, aMMs, aMM, aMM1, ltF_eq, cond_false]
  by_cases h : b < a <;> simp [h]
def u8s (l : List Nat) : List AVal := l.map fun n : Nat => .int .u8 (n : Int)
theorem u8s_len (l : List Nat) : (u8s l).length = l.length := by simp [u8s]
theorem u8s_get {l : List Nat} {i : Nat} {n : Nat} (h : l[i]? = some n) : (u8s l)[i]? = some (.int .u8 (n : Int)) := by simp [u8s, h]
theorem u8s_set (l : List Nat) (i n : Nat) : u8s (l.set i n) = (u8s l).set i (.int .u8 (n : Int)) := by simp [u8s]
end Go.Abs.S
