/- Symbolic runs of the abstract machine, part 4: slices that read as lists; growing them, writing into them; what is left as it was. Plain Lean. -/
import Derived.Test.YtndeemjhengoiaaS3
namespace Go.Abs.S
open Go.Abs

theorem up_same (T : Env) (i : Nat) (v : AVal) : up T i v i = v := by simp [up]
theorem up_ne (T : Env) (i j : Nat) (v : AVal) (h : j ≠ i) : up T i v j = T j := by
  have : Nat.beq j i = false := by rw [beq_dec]; exact decide_eq_false h
  simp [up, this]

/-- no block ahead of n has turned -/
structure Ext (n : Nat) (H H' : AHeap) : Prop where
  next : H.next ≤ H'.next
  old : ∀ b, b < n → H'.get b = H.get b
theorem Ext.refl (n : Nat) (H : AHeap) : Ext n H H := ⟨Nat.le_refl _, fun _ _ => rfl⟩
theorem Ext.trans {n : Nat} {H H' H'' : AHeap} (h : Ext n H H') (k : Ext n H' H'') : Ext n H H'' := ⟨Nat.le_trans h.next k.next, fun b hb => (k.old b hb).trans (h.old b hb)⟩
theorem Ext.less {n m : Nat} {H H' : AHeap} (h : Ext n H H') (hm : m ≤ n) : Ext m H H' := ⟨h.next, fun b hb => h.old b (by omega)⟩
theorem Ext.push {n : Nat} {H H' : AHeap} (h : Ext n H H') (hn : n ≤ H'.next) (o : AObj) : Ext n H (H'.push o) :=
  ⟨Nat.le_trans h.next (by simp [AHeap.push]), fun b hb => by rw [AHeap.get_push, if_neg (by omega), h.old b hb]⟩
theorem Ext.set {n : Nat} {H H' : AHeap} (h : Ext n H H') {b : Nat} (hn : n ≤ b) (o : AObj) : Ext n H (H'.set b o) :=
  ⟨h.next, fun c hc => by rw [AHeap.get_set, if_neg (by omega), h.old c hc]⟩
theorem push_next (H : AHeap) (o : AObj) : (H.push o).next = H.next + 1 := rfl
theorem set_next (H : AHeap) (b : Nat) (o : AObj) : (H.set b o).next = H.next := rfl

def nilS : AVal := .slice none 0 (.known 0)
/-- the place of a slice's cell -/
def cellP (s : AVal) (i : Nat) : AVal := match s with
  | .slice (some a) _ _ => .ptr (some ⟨a.b, a.lim, a.o + i * 1⟩)
  | _ => undefA
/-- a slice of cells reads as l; it lies ahead of n -/
def Cel (n : Nat) (H : AHeap) (s : AVal) (l : List AVal) : Prop :=
  (s = nilS ∧ l = []) ∨ ∃ a r, s = .slice (some a) l.length r ∧ a.b < n ∧ rdCells H a l.length = some l
theorem rd_congr {H H' : AHeap} {a : Ad} (h : H'.get a.b = H.get a.b) (n : Nat) : rdCells H' a n = rdCells H a n := by
  unfold rdCells; rw [h]
theorem Cel.ext {n : Nat} {H H' : AHeap} {s : AVal} {l : List AVal} (h : Cel n H s l) (e : Ext n H H') : Cel n H' s l := by
  rcases h with h | ⟨a, r, h1, h2, h3⟩
  · exact .inl h
  · exact .inr ⟨a, r, h1, h2, by rw [rd_congr (e.old _ h2)]; exact h3⟩
theorem Cel.more {n m : Nat} {H : AHeap} {s : AVal} {l : List AVal} (h : Cel n H s l) (hm : n ≤ m) : Cel m H s l := by
  rcases h with h | ⟨a, r, h1, h2, h3⟩
  · exact .inl h
  · exact .inr ⟨a, r, h1, by omega, h3⟩
theorem Cel.len {n : Nat} {H : AHeap} {s : AVal} {l : List AVal} (h : Cel n H s l) : aLenK false s = some (.int .i64 l.length) := by
  rcases h with ⟨rfl, rfl⟩ | ⟨a, r, rfl, _⟩ <;> rfl
theorem rd_at {H : AHeap} {a : Ad} {n i : Nat} {xs : List AVal} (h : rdCells H a n = some xs) (hi : i < n) : ∃ x, xs[i]? = some x ∧ rdCells H ⟨a.b, a.lim, a.o + i⟩ 1 = some [x] := by
  obtain ⟨l, low, ro, h1, h2, h3, h4, rfl⟩ := rd_spec h
  have hlt : a.o + i < l.length := by omega
  refine ⟨l[a.o + i], ?_, ?_⟩
  · rw [List.getElem?_take_of_lt hi, List.getElem?_drop, List.getElem?_eq_getElem hlt]
  · unfold rdCells
    simp only [h1, Nat.ble_eq_true_of_le h2, Nat.ble_eq_true_of_le h3, Nat.ble_eq_true_of_le (show a.o + i + 1 ≤ a.lim by omega), Bool.and_self, cond_true]
    rw [List.drop_eq_getElem_cons hlt]
    rfl
theorem Cel.idx {n : Nat} {H : AHeap} {s : AVal} {l : List AVal} (h : Cel n H s l) (k : IntKind) {i : Nat} (hi : i < l.length) : aIdxA 1 s (.int k (i : Int)) = some (cellP s i) := by
  rcases h with ⟨_, rfl⟩ | ⟨a, r, rfl, _⟩
  · simp at hi
  · show (bif Nat.blt i l.length then _ else none) = _
    have : Nat.blt i l.length = true := by simpa [Nat.blt_eq] using hi
    rw [this]; rfl
theorem Cel.load {n : Nat} {H : AHeap} {s : AVal} {l : List AVal} (h : Cel n H s l) {i : Nat} {x : AVal} (hi : l[i]? = some x) : oLoad false 1 H (cellP s i) = some x := by
  have hlt := (List.getElem?_eq_some_iff.1 hi).1
  rcases h with ⟨_, rfl⟩ | ⟨a, r, rfl, _, h3⟩
  · simp at hi
  · obtain ⟨y, h4, h5⟩ := rd_at h3 hlt
    rw [hi] at h4
    simp only [Option.some.injEq] at h4
    subst h4
    simp only [oLoad, cellP, Nat.mul_one, h5, cond_false]

/-- a row of its own: block b, from n on; it may be written -/
def Own (n : Nat) (H : AHeap) (s : AVal) (l : List AVal) : Prop :=
  ∃ b r low, s = .slice (some ⟨b, l.length, 0⟩) l.length r ∧ n ≤ b ∧ b < H.next ∧ H.get b = some (.cells l low false) ∧ low ≤ l.length
/-- the same, and it may grow; or nil -/
def App (n : Nat) (H : AHeap) (s : AVal) (l : List AVal) : Prop :=
  (s = nilS ∧ l = []) ∨ ∃ b low, s = .slice (some ⟨b, l.length, 0⟩) l.length (.open_ 1) ∧ n ≤ b ∧ b < H.next ∧ H.get b = some (.cells l low false) ∧ low ≤ l.length
theorem App.nil (n : Nat) (H : AHeap) : App n H nilS [] := .inl ⟨rfl, rfl⟩
theorem rd_whole {H : AHeap} {b low : Nat} {l : List AVal} {ro : Bool} (h : H.get b = some (.cells l low ro)) (hl : low ≤ l.length) : rdCells H ⟨b, l.length, 0⟩ l.length = some l := by
  unfold rdCells
  simp only [h, Nat.ble_eq_true_of_le hl, Nat.ble_eq_true_of_le (Nat.le_refl _), Nat.zero_add, Bool.and_self, cond_true, List.drop_zero, List.take_length]
theorem App.cel {n : Nat} {H : AHeap} {s : AVal} {l : List AVal} (h : App n H s l) : Cel H.next H s l := by
  rcases h with h | ⟨b, low, h1, h2, h3, h4, h5⟩
  · exact .inl h
  · exact .inr ⟨_, _, h1, h3, rd_whole h4 h5⟩
theorem Own.cel {n : Nat} {H : AHeap} {s : AVal} {l : List AVal} (h : Own n H s l) : Cel H.next H s l := by
  obtain ⟨b, r, low, h1, h2, h3, h4, h5⟩ := h
  exact .inr ⟨_, _, h1, h3, rd_whole h4 h5⟩
theorem App.ext {n : Nat} {H H' : AHeap} {s : AVal} {l : List AVal} (h : App n H s l) (e : Ext H.next H H') : App n H' s l := by
  rcases h with h | ⟨b, low, h1, h2, h3, h4, h5⟩
  · exact .inl h
  · exact .inr ⟨b, low, h1, h2, Nat.lt_of_lt_of_le h3 e.next, by rw [e.old b h3]; exact h4, h5⟩
theorem Own.ext {n : Nat} {H H' : AHeap} {s : AVal} {l : List AVal} (h : Own n H s l) (e : Ext H.next H H') : Own n H' s l := by
  obtain ⟨b, r, low, h1, h2, h3, h4, h5⟩ := h
  exact ⟨b, r, low, h1, h2, Nat.lt_of_lt_of_le h3 e.next, by rw [e.old b h3]; exact h4, h5⟩
theorem cells_one {x : AVal} (h : x.one = true) : x.cells = [x] := by cases x <;> first | rfl | (simp [AVal.one] at h)
/-- one element, ready to be appended -/
def oneS (H : AHeap) : AVal := .slice (some ⟨H.next, 1, 0⟩) 1 (.known 1)
theorem build1 (z : AVal) (H : AHeap) {x : AVal} (h : x.one = true) : aBuildSl 1 [z] H [(0, 1, x)] = some (oneS H, H.push (.cells [x] 0 false)) := by
  simp only [aBuildSl, rep, List.append_nil, aFill, cells_one h]
  rfl
theorem src1 (H : AHeap) (x : AVal) : aSrc 1 (H.push (.cells [x] 0 false)) (oneS H) = some (1, [x]) := by
  have := rd_whole (H := H.push (.cells [x] 0 false)) (b := H.next) (l := [x]) (low := 0) (ro := false) (by rw [AHeap.get_push, if_pos rfl]) (by simp)
  simp only [List.length_cons, List.length_nil, Nat.zero_add] at this
  simp only [aSrc, oneS, Nat.mul_one, this]
theorem App.push {n : Nat} {H : AHeap} {s : AVal} {l : List AVal} (h : App n H s l) (hn : n ≤ H.next) {x : AVal} (hx : x.one = true) {bytes : Nat} (hb : 2 * (l.length + 1) * bytes ≤ 281474976710656) (hb1 : 0 < bytes) :
    ∃ s' H', aAppend 1 bytes (H.push (.cells [x] 0 false)) s (oneS H) = some (s', H') ∧ App n H' s' (l ++ [x]) ∧ Ext n H H' := by
  have hlen : l.length + 1 ≤ 9223372036854775807 := by
    have : 2 * (l.length + 1) ≤ 2 * (l.length + 1) * bytes := Nat.le_mul_of_pos_right _ hb1
    omega
  have c1 : ∀ k, k = l.length → (Nat.blt 0 1 && (Nat.ble ((2 * (k + 1) + 0) * bytes) 281474976710656 && (Nat.ble (k + 1) 9223372036854775807 && (Nat.beq [x].length (1 * 1) && [x].all AVal.one)))) = true := by
    intro k hk
    subst hk
    simp only [Nat.add_zero, Nat.ble_eq_true_of_le hb, Nat.ble_eq_true_of_le hlen, List.all_cons, List.all_nil, hx]
    rfl
  rcases h with ⟨rfl, rfl⟩ | ⟨b, low, rfl, h2, h3, h4, h5⟩
  · refine ⟨.slice (some ⟨H.next + 1, 1, 0⟩) 1 (.open_ 1), (H.push (.cells [x] 0 false)).push (.cells [x] 0 false), ?_, .inr ⟨H.next + 1, 0, rfl, by omega, Nat.lt_succ_self _, ?_, Nat.zero_le _⟩, ((Ext.refl n H).push hn _).push (by rw [push_next]; omega) _⟩
    · simp only [aAppend, src1, nilS]
      rw [show Nat.beq 1 0 = false from rfl, cond_false, c1 0 rfl, cond_true]
      rfl
    · rw [AHeap.get_push]; exact if_pos rfl
  · have hg : (H.push (.cells [x] 0 false)).get b = some (.cells l low false) := by rw [AHeap.get_push, if_neg (by omega)]; exact h4
    have hgrow : growCells (H.push (.cells [x] 0 false)) ⟨b, l.length, 0⟩ l.length [x] = some ((H.push (.cells [x] 0 false)).set b (.cells (l ++ [x]) low false)) := by
      unfold growCells
      simp only [hg, Nat.ble_eq_true_of_le h5, Nat.ble_eq_true_of_le (Nat.le_refl _), Nat.ble_eq_true_of_le (Nat.zero_le _), Nat.beq_refl, List.length_cons, List.length_nil, Nat.zero_add, List.all_cons, List.all_nil, hx, Bool.and_self, cond_true, List.take_length]
    refine ⟨.slice (some ⟨b, l.length + 1, 0⟩) (l.length + 1) (.open_ 1), (H.push (.cells [x] 0 false)).set b (.cells (l ++ [x]) low false), ?_, .inr ⟨b, low, by simp, h2, by rw [set_next, push_next]; omega, by rw [AHeap.get_set, if_pos rfl], by simp; omega⟩, ((Ext.refl n H).push hn _).set h2 _⟩
    simp only [aAppend, src1]
    rw [show Nat.beq 1 0 = false from rfl, cond_false, c1 l.length rfl, cond_true]
    have e1 : Nat.ble (l.length + 1) l.length = false := by
      rw [ble_dec]; exact decide_eq_false (by omega)
    simp only [Nat.beq_refl, cond_true, Nat.zero_add, Nat.mul_one, e1, cond_false, hgrow, List.length_cons, List.length_nil]
theorem wr_whole {H : AHeap} {b low i : Nat} {l : List AVal} (h : H.get b = some (.cells l low false)) (hl : low ≤ l.length) (hi : i < l.length) {x : AVal} (hx : x.one = true) :
    oStore 1 H (.ptr (some ⟨b, l.length, i⟩)) x = some (H.set b (.cells (l.set i x) l.length false)) := by
  simp only [oStore, cells_one hx, List.length_cons, List.length_nil, Nat.zero_add, Nat.beq_refl, cond_true]
  unfold wrCells
  simp only [h, Nat.ble_eq_true_of_le hl, Nat.beq_refl, List.length_cons, List.length_nil, Nat.zero_add, Nat.ble_eq_true_of_le (show i + 1 ≤ l.length by omega), List.all_cons, List.all_nil, hx, Bool.and_self, cond_true]
  congr 3
  rw [List.set_eq_take_append_cons_drop, if_pos hi]
  rfl
theorem Own.store {n : Nat} {H : AHeap} {s : AVal} {l : List AVal} (h : Own n H s l) {i : Nat} (hi : i < l.length) {x : AVal} (hx : x.one = true) :
    ∃ H', oStore 1 H (cellP s i) x = some H' ∧ Own n H' s (l.set i x) ∧ Ext n H H' ∧ H'.next = H.next ∧ ∀ b, (∀ a m r, s = .slice (some a) m r → b ≠ a.b) → H'.get b = H.get b := by
  obtain ⟨b, r, low, rfl, h2, h3, h4, h5⟩ := h
  refine ⟨H.set b (.cells (l.set i x) l.length false), ?_, ⟨b, r, l.length, by simp, h2, h3, by rw [AHeap.get_set, if_pos rfl], by simp⟩, (Ext.refl n H).set h2 _, rfl, fun c hc => ?_⟩
  · simp only [cellP, Nat.mul_one, Nat.zero_add]
    exact wr_whole h4 h5 hi hx
  · rw [AHeap.get_set, if_neg (hc _ _ _ rfl)]
/-- a row that is made -/
theorem own_make {H : AHeap} {z : AVal} {bytes k n : Nat} (hn : n ≤ H.next) (hk : bytes * k ≤ 281474976710656) (hk' : k ≤ 9223372036854775807) :
    ∃ s, aMake bytes [z] H (.int .i64 (k : Int)) (.int .i64 (k : Int)) = some (s, H.push (.cells (List.replicate k z) 0 false)) ∧ s = .slice (some ⟨H.next, k, 0⟩) k (.known k) ∧ Own n (H.push (.cells (List.replicate k z) 0 false)) s (List.replicate k z) := by
  have hr : rep [z] k = List.replicate k z := by
    clear hk hk'
    induction k with
    | zero => rfl
    | succ k ih => simp only [rep, ih, List.replicate_succ]; rfl
  have hnat : natOf (.int .i64 (k : Int)) = some k := by
    show natOf (.int .i64 (Int.ofNat k)) = some k
    simp only [natOf, Nat.ble_eq_true_of_le hk', cond_true]
  refine ⟨_, ?_, rfl, ⟨H.next, .known k, 0, by simp, hn, Nat.lt_succ_self _, by rw [AHeap.get_push]; exact if_pos rfl, Nat.zero_le _⟩⟩
  simp only [aMake, hnat, Nat.ble_eq_true_of_le (Nat.le_refl _), Nat.ble_eq_true_of_le hk, Bool.and_self, cond_true, hr, List.length_replicate]
/-! rows by their block -/
def slR (b n : Nat) (r : Room) : AVal := .slice (some ⟨b, n, 0⟩) n r
def cellR (b n i : Nat) : AVal := .ptr (some ⟨b, n, i⟩)
def Row (H : AHeap) (b : Nat) (l : List AVal) : Prop := ∃ low, H.get b = some (.cells l low false) ∧ low ≤ l.length
theorem slR_one (b n : Nat) (r : Room) : (slR b n r).one = true := rfl
theorem row_len (b n : Nat) (r : Room) : aLenK false (slR b n r) = some (.int .i64 (n : Int)) := _root_.id rfl
theorem row_idx {b n : Nat} {r : Room} (k : IntKind) {i : Nat} (h : i < n) : aIdxA 1 (slR b n r) (.int k (i : Int)) = some (cellR b n i) := by
  show (bif Nat.blt i n then some (AVal.ptr (some ⟨b, n, 0 + i * 1⟩)) else none) = _
  have : Nat.blt i n = true := by simpa [Nat.blt_eq] using h
  rw [this, Nat.zero_add, Nat.mul_one]; rfl
theorem row_load {H : AHeap} {b n : Nat} {l : List AVal} (h : Row H b l) (hn : l.length = n) {i : Nat} {x : AVal} (hi : l[i]? = some x) : oLoad false 1 H (cellR b n i) = some x := by
  subst hn
  obtain ⟨low, h1, h2⟩ := h
  have hlt := (List.getElem?_eq_some_iff.1 hi).1
  obtain ⟨y, h4, h5⟩ := rd_at (rd_whole h1 h2) hlt
  rw [hi] at h4
  simp only [Option.some.injEq] at h4
  subst h4
  simp only [Nat.zero_add] at h5
  simp only [oLoad, cellR, h5, cond_false]
theorem row_store {H : AHeap} {b n : Nat} {l : List AVal} (h : Row H b l) (hn : l.length = n) {i : Nat} (hi : i < n) {x : AVal} (hx : x.one = true) :
    ∃ H', oStore 1 H (cellR b n i) x = some H' ∧ Row H' b (l.set i x) ∧ H'.next = H.next ∧ ∀ c, c ≠ b → H'.get c = H.get c := by
  subst hn
  obtain ⟨low, h1, h2⟩ := h
  exact ⟨_, wr_whole h1 h2 hi hx, ⟨l.length, by rw [AHeap.get_set, if_pos rfl], by simp⟩, rfl, fun c hc => by rw [AHeap.get_set, if_neg hc]⟩
theorem Row.same {H H' : AHeap} {b : Nat} {l : List AVal} (h : Row H b l) (e : H'.get b = H.get b) : Row H' b l := by
  obtain ⟨low, h1, h2⟩ := h; exact ⟨low, e.trans h1, h2⟩
theorem row_make {H : AHeap} {z : AVal} {bytes k : Nat} (hk : bytes * k ≤ 281474976710656) (hk' : k ≤ 9223372036854775807) :
    aMake bytes [z] H (.int .i64 (k : Int)) (.int .i64 (k : Int)) = some (slR H.next k (.known k), H.push (.cells (List.replicate k z) 0 false)) := by
  obtain ⟨s, h1, h2, _⟩ := own_make (H := H) (z := z) (Nat.le_refl _) hk hk'
  rw [h1, h2]; rfl
theorem row_push (H : AHeap) (l : List AVal) : Row (H.push (.cells l 0 false)) H.next l := ⟨0, by rw [AHeap.get_push, if_pos rfl], Nat.zero_le _⟩
theorem get_push_lt {H : AHeap} {o : AObj} {c : Nat} (h : c < H.next) : (H.push o).get c = H.get c := by rw [AHeap.get_push, if_neg (by omega)]
theorem new1 (H : AHeap) (x : AVal) : oNew H [x] = (cellR H.next 1 0, H.push (.cells [x] 0 false)) := _root_.id rfl
theorem Row.cel {H : AHeap} {b n m : Nat} {l : List AVal} {r : Room} (h : Row H b l) (hn : l.length = n) (hb : b < m) : Cel m H (slR b n r) l := by
  subst hn
  obtain ⟨low, h1, h2⟩ := h
  exact .inr ⟨_, _, rfl, hb, rd_whole h1 h2⟩
theorem row_make1 {H : AHeap} {z : AVal} {bytes k : Nat} (hk : bytes * k ≤ 281474976710656) (hk' : k ≤ 9223372036854775807) :
    ∃ H', aMake bytes [z] H (.int .i64 (k : Int)) (.int .i64 (k : Int)) = some (slR H.next k (.known k), H') ∧ Row H' H.next (List.replicate k z) ∧ H'.next = H.next + 1 ∧ ∀ c, c ≠ H.next → H'.get c = H.get c :=
  ⟨_, row_make hk hk', row_push _ _, rfl, fun c hc => by rw [AHeap.get_push, if_neg hc]⟩
theorem row_new1 (H : AHeap) (x : AVal) : ∃ H', oNew H [x] = (cellR H.next 1 0, H') ∧ Row H' H.next [x] ∧ H'.next = H.next + 1 ∧ ∀ c, c ≠ H.next → H'.get c = H.get c :=
  ⟨_, new1 H x, row_push _ _, rfl, fun c hc => by rw [AHeap.get_push, if_neg hc]⟩
theorem App.same {n : Nat} {H H' : AHeap} {s : AVal} {l : List AVal} (h : App n H s l) (hn : H.next ≤ H'.next) (e : ∀ c, n ≤ c → H'.get c = H.get c) : App n H' s l := by
  rcases h with h | ⟨b, low, h1, h2, h3, h4, h5⟩
  · exact .inl h
  · exact .inr ⟨b, low, h1, h2, by omega, by rw [e b h2]; exact h4, h5⟩
end Go.Abs.S
