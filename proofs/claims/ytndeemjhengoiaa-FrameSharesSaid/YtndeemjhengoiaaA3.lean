/- The abstract machine, part 3: reading, writing, new blocks, growing: each keeps 'Rel'. -/
import Derived.Test.YtndeemjhengoiaaA2
namespace Go.Abs
section
variable {P : Program} {Prot : Gh} {w0 : World} {ρ : Pl} {H : AHeap} {w : World}

def rdCells (H : AHeap) (a : Ad) (n : Nat) : Option (List AVal) :=
  match H.get a.b with
  | some (.cells l low _) => bif Nat.ble low a.lim && (Nat.ble a.lim l.length && Nat.ble (a.o + n) a.lim) then some ((l.drop a.o).take n) else none
  | _ => none

def wrCells (H : AHeap) (a : Ad) (xs : List AVal) : Option AHeap :=
  match H.get a.b with
  | some (.cells l low false) =>
    bif Nat.ble low a.lim && (Nat.beq a.lim l.length && (Nat.ble (a.o + xs.length) a.lim && xs.all AVal.one)) then
      some (H.set a.b (.cells (l.take a.o ++ (xs ++ l.drop (a.o + xs.length))) a.lim false)) else none
  | _ => none

theorem Rel.drew (R : Rel Prot w0 ρ H w) : Rel Prot w0 ρ H w.drew :=
  ⟨R.os, R.tape, R.output, R.size, R.prot, R.dom, R.obj, R.free, R.inj, R.dead⟩

theorem rd_spec {a : Ad} {n : Nat} {xs : List AVal} (h : rdCells H a n = some xs) :
    ∃ l low ro, H.get a.b = some (.cells l low ro) ∧ low ≤ a.lim ∧ a.lim ≤ l.length ∧ a.o + n ≤ a.lim ∧ xs = (l.drop a.o).take n := by
  unfold rdCells at h
  split at h
  · rename_i l low ro hg
    cases hc : (Nat.ble low a.lim && (Nat.ble a.lim l.length && Nat.ble (a.o + n) a.lim)) with
    | false => rw [hc] at h; simp at h
    | true =>
      rw [hc] at h
      simp only [Bool.and_eq_true, Nat.ble_eq] at hc
      simp only [cond_true, Option.some.injEq] at h
      exact ⟨l, low, ro, hg, hc.1, hc.2.1, hc.2.2, h.symm⟩
  · simp at h

theorem rd_run (R : Rel Prot w0 ρ H w) {a : Ad} {n : Nat} {xs : List AVal} (h : rdCells H a n = some xs) {L : Loc} (hL : ρ a.b a.lim = some L) (hs : L.sh ≤ a.o) :
    ∃ vs : Array Value, (loadCells ⟨L.c, a.o - L.sh, none⟩ n).run P w = .ok vs w ∧ VRels ρ xs vs.toList ∧ vs.size = n := by
  obtain ⟨l, low, ro, hg, h1, h2, h3, rfl⟩ := rd_spec h
  obtain ⟨x, o, hx, ho, hr⟩ := R.obj _ _ _ hL
  rw [hg] at hx
  obtain rfl := (Option.some.injEq _ _).mp hx
  simp only [ORel] at hr
  obtain ⟨C, e, lo, hi, rfl, hsz, hfz, _, hc⟩ := hr
  have hc := hc h1
  by_cases hn : n = 0
  · subst hn
    exact ⟨#[], rfl, by simp [VRels], rfl⟩
  have hb : a.o - L.sh + n ≤ C.size := by
    obtain ⟨x, v, _, q, _⟩ := hc (a.o + n - 1) (by omega) (by omega)
    have := (Array.getElem?_eq_some_iff.1 q).1
    omega
  obtain ⟨vs, q1, q2, q3⟩ := loadCells_run (P := P) ho n hb
  refine ⟨vs, q1, VRels.of_nth _ _ (by simp [q2]; omega) fun i x hi => ?_, q2⟩
  have hlt : i < n := by
    by_cases q : i < n
    · exact q
    · rw [List.getElem?_take, if_neg q] at hi; simp at hi
  rw [List.getElem?_take_of_lt hlt, List.getElem?_drop] at hi
  obtain ⟨y, v, p1, p2, p3⟩ := hc (a.o + i) (by omega) (by omega)
  rw [p1] at hi
  obtain rfl := (Option.some.injEq _ _).mp hi
  refine ⟨v, ?_, p3⟩
  rw [Array.getElem?_toList, q3 i hlt, ← p2]
  congr 1
  omega

theorem wr_spec {a : Ad} {xs : List AVal} {H' : AHeap} (h : wrCells H a xs = some H') :
    ∃ l low, H.get a.b = some (.cells l low false) ∧ low ≤ a.lim ∧ a.lim = l.length ∧ a.o + xs.length ≤ a.lim ∧ (∀ x ∈ xs, x.one = true) ∧
      H' = H.set a.b (.cells (l.take a.o ++ (xs ++ l.drop (a.o + xs.length))) a.lim false) := by
  unfold wrCells at h
  split at h
  · rename_i l low hg
    cases hc : (Nat.ble low a.lim && (Nat.beq a.lim l.length && (Nat.ble (a.o + xs.length) a.lim && xs.all AVal.one))) with
    | false => rw [hc] at h; simp at h
    | true =>
      rw [hc] at h
      simp only [Bool.and_eq_true, Nat.ble_eq, List.all_eq_true] at hc
      simp only [cond_true, Option.some.injEq] at h
      exact ⟨l, low, hg, hc.1, Nat.eq_of_beq_eq_true hc.2.1, hc.2.2.1, hc.2.2.2, h.symm⟩
  · simp at h

/-- what one block's turning asks -/
theorem Rel.turn (R : Rel Prot w0 ρ H w) {b l : Nat} {L : Loc} (hL : ρ b l = some L) {x : AObj} (hx : H.get b = some x) (hrw : x.rw = true) {w' : World} (hb : But w w' L.c)
    {y : AObj} (_hyr : y.rw = true) (hy : ∀ l' L', ρ b l' = some L' → ∃ o, w'.heap[L'.c]? = some o ∧ ORel ρ L' l' y o) : Rel Prot w0 ρ (H.set b y) w' := by
  refine ⟨hb.os.trans R.os, hb.tape.trans R.tape, hb.output.trans R.output, hb.size ▸ R.size, fun c hc => ?_, fun b' l' L' h => ?_, fun b' l' L' h => ?_, fun b' l' L' z h hz hr => ?_, fun b1 l1 L1 b2 l2 L2 z h1 h2 he hz hr => ?_, fun d hd => ?_⟩
  · obtain ⟨p1, p2⟩ := R.prot c hc
    refine ⟨p1, ?_⟩
    rw [hb.rest c (fun e => R.free _ _ _ _ hL hx hrw (e ▸ hc))]
    exact p2
  · have := R.dom _ _ _ h
    exact ⟨this.1, hb.size ▸ this.2⟩
  · by_cases e : b' = b
    · subst e
      obtain ⟨o, h1, h2⟩ := hy _ _ h
      exact ⟨y, o, by rw [AHeap.get_set, if_pos rfl], h1, h2⟩
    · obtain ⟨z, o, h1, h2, h3⟩ := R.obj _ _ _ h
      refine ⟨z, o, by rw [AHeap.get_set, if_neg e]; exact h1, ?_, h3⟩
      rw [hb.rest _ (fun q => e (R.inj _ _ _ _ _ _ _ hL h q.symm hx hrw).1.symm)]
      exact h2
  · rw [AHeap.get_set] at hz
    by_cases e : b' = b
    · subst e
      exact R.free _ _ _ _ h hx hrw
    · rw [if_neg e] at hz
      exact R.free _ _ _ _ h hz hr
  · rw [AHeap.get_set] at hz
    by_cases e : b1 = b
    · subst e
      exact R.inj _ _ _ _ _ _ _ h1 h2 he hx hrw
    · rw [if_neg e] at hz
      exact R.inj _ _ _ _ _ _ _ h1 h2 he hz hr
  · exact R.dead d hd

theorem one_of {xs : List AVal} {vs : List Value} (h : VRels ρ xs vs) (ho : ∀ x ∈ xs, x.one = true) : ∀ v ∈ vs, v.oneCell' = true := by
  induction xs generalizing vs with
  | nil => simp only [VRels] at h; subst h; simp
  | cons x xs ih =>
    simp only [VRels] at h
    obtain ⟨v, r, rfl, h1, h2⟩ := h
    intro u hu
    rcases List.mem_cons.1 hu with rfl | hu
    · exact h1.one (ho x (by simp))
    · exact ih h2 (fun y hy => ho y (by simp [hy])) u hu

theorem wr_run (R : Rel Prot w0 ρ H w) {a : Ad} {xs : List AVal} {H' : AHeap} (h : wrCells H a xs = some H') {L : Loc} (hL : ρ a.b a.lim = some L) (hs : L.sh ≤ a.o)
    {vs : List Value} (hv : VRels ρ xs vs) : ∃ w', (storeCells ⟨L.c, a.o - L.sh, none⟩ vs 0).run P w = .ok () w' ∧ Rel Prot w0 ρ H' w' := by
  obtain ⟨l, low, hg, h0, h1, h2, h3, rfl⟩ := wr_spec h
  obtain ⟨x, o, hx, ho, hr⟩ := R.obj _ _ _ hL
  have hlen := VRels.len hv
  rw [hg] at hx
  obtain rfl := (Option.some.injEq _ _).mp hx
  simp only [ORel] at hr
  obtain ⟨C, e, lo, hi, rfl, hsz, hfz, _, hc⟩ := hr
  have hc' := hc h0
  have hb : a.o - L.sh + vs.length ≤ C.size := by
    by_cases q : L.sh < a.lim
    · obtain ⟨x, v, _, q, _⟩ := hc' (a.lim - 1) (by omega) (by omega)
      have := (Array.getElem?_eq_some_iff.1 q).1
      omega
    · omega
  obtain ⟨w', C', r1, r2, r3, r4, r5⟩ := storeCells_run (P := P) (off := a.o - L.sh) vs 0 w C ho (by omega) (hfz trivial).1 (one_of hv h3)
  refine ⟨w', r1, R.turn hL hg rfl r2 rfl fun l' L' hL' => ?_⟩
  have hlen2 : (l.take a.o ++ (xs ++ l.drop (a.o + xs.length))).length = l.length := by simp; omega
  obtain ⟨x, o, hx, ho', hr'⟩ := R.obj _ _ _ hL'
  rw [hg] at hx
  obtain rfl := (Option.some.injEq _ _).mp hx
  simp only [ORel] at hr' ⊢
  obtain ⟨C2, e2, lo2, hi2, q1, q2, q3, q5, q4⟩ := hr'
  by_cases hcc : L'.c = L.c
  · rw [hcc, ho] at ho'
    obtain rfl := (Option.some.injEq _ _).mp ho'
    simp only [Obj.cells.injEq, Prod.mk.injEq] at q1
    obtain ⟨rfl, rfl, rfl, rfl⟩ := q1
    refine ⟨_, hcc ▸ r3, C', e, lo, hi, rfl, r4.trans q2, by rw [r4]; exact q3, by rw [hlen2]; exact q5, fun a1 => ?_⟩
    have hll : l' = a.lim := by omega
    subst hll
    obtain rfl : L' = L := by rw [hL] at hL'; exact ((Option.some.injEq _ _).mp hL').symm
    intro i i1 i2
    obtain ⟨x, v, p1, p2, p3⟩ := hc' i i1 i2
    by_cases hin : a.o ≤ i ∧ i < a.o + xs.length
    · have hx : xs[i - a.o]? = some xs[i - a.o] := List.getElem?_eq_getElem (by omega)
      obtain ⟨u, u1, u2⟩ := hv.nth _ _ hx
      refine ⟨_, u, ?_, ?_, u2⟩
      · rw [List.getElem?_append_right (by simp; omega), List.getElem?_append_left (by simp; omega)]
        simp only [List.length_take]
        rw [← hx]
        congr 1
        omega
      · have q := r5 (i - L'.sh)
        have c1 : a.o - L'.sh + 0 ≤ i - L'.sh := by omega
        have c2 : i - L'.sh < a.o - L'.sh + 0 + vs.length := by omega
        rw [if_pos ⟨c1, c2⟩] at q
        rw [q, ← u1, show i - L'.sh - (a.o - L'.sh + 0) = i - a.o by omega]
    · refine ⟨x, v, ?_, ?_, p3⟩
      · rw [← p1]
        by_cases h4 : i < a.o
        · rw [List.getElem?_append_left (by simp; omega), List.getElem?_take_of_lt h4]
        · rw [List.getElem?_append_right (by simp; omega), List.getElem?_append_right (by simp; omega), List.getElem?_drop]
          congr 1
          simp
          omega
      · have q := r5 (i - L'.sh)
        have hn : ¬ (a.o - L'.sh + 0 ≤ i - L'.sh ∧ i - L'.sh < a.o - L'.sh + 0 + vs.length) := by omega
        rw [if_neg hn] at q
        rw [q]
        exact p2
  · refine ⟨_, (r2.rest _ hcc).trans ho', C2, e2, lo2, hi2, q1, q2, q3, by rw [hlen2]; exact q5, fun a1 => ?_⟩
    have hll : l' = a.lim := by omega
    subst hll
    obtain rfl : L' = L := by rw [hL] at hL'; exact ((Option.some.injEq _ _).mp hL').symm
    exact absurd rfl hcc

def upd (ρ : Pl) (b l : Nat) (L : Loc) : Pl := fun b' l' => if b' = b ∧ l' = l then some L else ρ b' l'
theorem upd_same (ρ : Pl) (b l : Nat) (L : Loc) : upd ρ b l L b l = some L := by simp [upd]
theorem upd_le {ρ : Pl} {b l : Nat} {L : Loc} (h : ∀ L', ρ b l = some L' → L' = L) : ρ.le (upd ρ b l L) := by
  intro b' l' L' h'
  unfold upd
  split
  · rename_i q
    obtain ⟨rfl, rfl⟩ := q
    rw [h _ h']
  · exact h'

/-- a new block -/
theorem Rel.push' (R : Rel Prot w0 ρ H w) {w' : World} (n1 : w'.os = w.os) (n2 : w'.tape = w.tape) (n3 : w'.output = w.output) (n4 : w'.heap.size = w.heap.size + 1) (n5 : ∀ i, i < w.heap.size → w'.heap[i]? = w.heap[i]?) {x : AObj} {o : Obj} {lim n : Nat} {cl : Bool} (n6 : w'.heap[w.heap.size]? = some o) (hO : ORel (upd ρ H.next lim ⟨w.heap.size, 0, n, cl⟩) ⟨w.heap.size, 0, n, cl⟩ lim x o) :
    ρ.le (upd ρ H.next lim ⟨w.heap.size, 0, n, cl⟩) ∧ Rel Prot w0 (upd ρ H.next lim ⟨w.heap.size, 0, n, cl⟩) (H.push x) w' := by
  have hnew : ∀ l L, ρ H.next l = some L → False := fun l L h => by have := (R.dom _ _ _ h).1; omega
  have hle : ρ.le (upd ρ H.next lim ⟨w.heap.size, 0, n, cl⟩) := upd_le fun L' h' => (hnew _ _ h').elim
  refine ⟨hle, n1.trans R.os, n2.trans R.tape, n3.trans R.output, Nat.le_trans R.size (by omega), fun c hc => ?_, fun b l L h => ?_, fun b l L hb => ?_, fun b l L z hb hz hr => ?_, fun b1 l1 L1 b2 l2 L2 z h1 h2 he hz hr => ?_, fun d hd => ?_⟩
  · obtain ⟨p1, p2⟩ := R.prot c hc
    refine ⟨p1, ?_⟩
    rw [← p2]
    exact n5 _ (Nat.lt_of_lt_of_le p1 R.size)
  · unfold upd at h
    split at h
    · rename_i q
      obtain ⟨rfl, rfl⟩ := q
      obtain rfl := (Option.some.injEq _ _).mp h
      exact ⟨Nat.lt_succ_self _, by simp only; omega⟩
    · have := R.dom _ _ _ h
      exact ⟨Nat.lt_succ_of_lt this.1, by omega⟩
  · unfold upd at hb
    split at hb
    · rename_i q
      obtain ⟨rfl, rfl⟩ := q
      obtain rfl := (Option.some.injEq _ _).mp hb
      exact ⟨x, o, by rw [AHeap.get_push, if_pos rfl], n6, hO⟩
    · obtain ⟨z, o', h1, h2, h3⟩ := R.obj _ _ _ hb
      have hd := R.dom _ _ _ hb
      exact ⟨z, o', by rw [AHeap.get_push, if_neg (by omega)]; exact h1, by rw [← h2]; exact n5 _ hd.2, h3.mono hle⟩
  · unfold upd at hb
    split at hb
    · obtain rfl := (Option.some.injEq _ _).mp hb
      intro hp
      have := (R.prot _ hp).1
      have := R.size
      simp at *
      omega
    · have hd := R.dom _ _ _ hb
      rw [AHeap.get_push, if_neg (by omega)] at hz
      exact R.free _ _ _ _ hb hz hr
  · unfold upd at h1 h2
    split at h1 <;> split at h2
    · rename_i q1 q2
      obtain rfl := (Option.some.injEq _ _).mp h1
      obtain rfl := (Option.some.injEq _ _).mp h2
      exact ⟨q1.1.trans q2.1.symm, rfl⟩
    · obtain rfl := (Option.some.injEq _ _).mp h1
      have := (R.dom _ _ _ h2).2
      simp only at he
      omega
    · obtain rfl := (Option.some.injEq _ _).mp h2
      have := (R.dom _ _ _ h1).2
      simp only at he
      omega
    · have hd := R.dom _ _ _ h1
      rw [AHeap.get_push, if_neg (by omega)] at hz
      exact R.inj _ _ _ _ _ _ _ h1 h2 he hz hr
  · obtain ⟨q1, q2⟩ := R.dead d hd
    refine ⟨Nat.lt_succ_of_lt q1, fun l => ?_⟩
    unfold upd
    rw [if_neg (by omega)]
    exact q2 l

/-- less is laid aside -/
theorem Rel.fewer (R : Rel Prot w0 ρ H w) {D : Nat → Prop} (h : ∀ d, D d → Prot.dead d) : Rel ⟨Prot.prot, D⟩ w0 ρ H w :=
  ⟨R.os, R.tape, R.output, R.size, R.prot, R.dom, R.obj, R.free, R.inj, fun d hd => R.dead d (h d hd)⟩
/-- a number is laid aside -/
theorem Rel.reserve (R : Rel Prot w0 ρ H w) (x : AObj) : Rel ⟨Prot.prot, fun d => Prot.dead d ∨ d = H.next⟩ w0 ρ (H.push x) w := by
  refine ⟨R.os, R.tape, R.output, R.size, R.prot, fun b l L h => ?_, fun b l L hb => ?_, fun b l L z hb hz hr => ?_, fun b1 l1 L1 b2 l2 L2 z h1 h2 he hz hr => ?_, fun d hd => ?_⟩
  · have := R.dom _ _ _ h
    exact ⟨Nat.lt_succ_of_lt this.1, this.2⟩
  · obtain ⟨z, o', h1, h2, h3⟩ := R.obj _ _ _ hb
    have hd := R.dom _ _ _ hb
    exact ⟨z, o', by rw [AHeap.get_push, if_neg (by omega)]; exact h1, h2, h3⟩
  · have hd := R.dom _ _ _ hb
    rw [AHeap.get_push, if_neg (by omega)] at hz
    exact R.free _ _ _ _ hb hz hr
  · have hd := R.dom _ _ _ h1
    rw [AHeap.get_push, if_neg (by omega)] at hz
    exact R.inj _ _ _ _ _ _ _ h1 h2 he hz hr
  · rcases hd with hd | hd
    · obtain ⟨q1, q2⟩ := R.dead d hd
      exact ⟨Nat.lt_succ_of_lt q1, q2⟩
    · subst hd
      refine ⟨Nat.lt_succ_self _, fun l => ?_⟩
      cases hx : ρ H.next l with
      | none => rfl
      | some L => have := (R.dom _ _ _ hx).1; omega
/-- what was laid aside comes to be -/
theorem Rel.claim' (R : Rel Prot w0 ρ H w) {b : Nat} (hdead : Prot.dead b) {w' : World} (n1 : w'.os = w.os) (n2 : w'.tape = w.tape) (n3 : w'.output = w.output) (n4 : w'.heap.size = w.heap.size + 1) (n5 : ∀ i, i < w.heap.size → w'.heap[i]? = w.heap[i]?) {x : AObj} (hx : H.get b = some x) {o : Obj} {lim n : Nat} {cl : Bool} (n6 : w'.heap[w.heap.size]? = some o) (hO : ORel (upd ρ b lim ⟨w.heap.size, 0, n, cl⟩) ⟨w.heap.size, 0, n, cl⟩ lim x o) :
    ρ.le (upd ρ b lim ⟨w.heap.size, 0, n, cl⟩) ∧ Rel ⟨Prot.prot, fun d => Prot.dead d ∧ d ≠ b⟩ w0 (upd ρ b lim ⟨w.heap.size, 0, n, cl⟩) H w' := by
  obtain ⟨hbn, hnone⟩ := R.dead b hdead
  have hnew : ∀ l L, ρ b l = some L → False := fun l L h => by rw [hnone] at h; simp at h
  have hle : ρ.le (upd ρ b lim ⟨w.heap.size, 0, n, cl⟩) := upd_le fun L' h' => (hnew _ _ h').elim
  refine ⟨hle, n1.trans R.os, n2.trans R.tape, n3.trans R.output, Nat.le_trans R.size (by omega), fun c hc => ?_, fun b l L h => ?_, fun b l L hb => ?_, fun b l L z hb hz hr => ?_, fun b1 l1 L1 b2 l2 L2 z h1 h2 he hz hr => ?_, fun d hd => ?_⟩
  · obtain ⟨p1, p2⟩ := R.prot c hc
    refine ⟨p1, ?_⟩
    rw [← p2]
    exact n5 _ (Nat.lt_of_lt_of_le p1 R.size)
  · unfold upd at h
    split at h
    · rename_i q
      obtain ⟨rfl, rfl⟩ := q
      obtain rfl := (Option.some.injEq _ _).mp h
      exact ⟨hbn, by simp only; omega⟩
    · have := R.dom _ _ _ h
      exact ⟨this.1, by omega⟩
  · unfold upd at hb
    split at hb
    · rename_i q
      obtain ⟨rfl, rfl⟩ := q
      obtain rfl := (Option.some.injEq _ _).mp hb
      exact ⟨x, o, hx, n6, hO⟩
    · obtain ⟨z, o', h1, h2, h3⟩ := R.obj _ _ _ hb
      have hd := R.dom _ _ _ hb
      exact ⟨z, o', h1, by rw [← h2]; exact n5 _ hd.2, h3.mono hle⟩
  · unfold upd at hb
    split at hb
    · obtain rfl := (Option.some.injEq _ _).mp hb
      intro hp
      have := (R.prot _ hp).1
      have := R.size
      simp at *
      omega
    · exact R.free _ _ _ _ hb hz hr
  · unfold upd at h1 h2
    split at h1 <;> split at h2
    · rename_i q1 q2
      obtain rfl := (Option.some.injEq _ _).mp h1
      obtain rfl := (Option.some.injEq _ _).mp h2
      exact ⟨q1.1.trans q2.1.symm, rfl⟩
    · obtain rfl := (Option.some.injEq _ _).mp h1
      have := (R.dom _ _ _ h2).2
      simp only at he
      omega
    · obtain rfl := (Option.some.injEq _ _).mp h2
      have := (R.dom _ _ _ h1).2
      simp only at he
      omega
    · exact R.inj _ _ _ _ _ _ _ h1 h2 he hz hr
  · obtain ⟨hd1, hd2⟩ := hd
    obtain ⟨q1, q2⟩ := R.dead d hd1
    refine ⟨q1, fun l => ?_⟩
    unfold upd
    rw [if_neg (fun q => hd2 q.1)]
    exact q2 l

theorem Rel.push (R : Rel Prot w0 ρ H w) {x : AObj} {o : Obj} {lim n : Nat} {cl : Bool} (hO : ORel (upd ρ H.next lim ⟨w.heap.size, 0, n, cl⟩) ⟨w.heap.size, 0, n, cl⟩ lim x o) :
    ρ.le (upd ρ H.next lim ⟨w.heap.size, 0, n, cl⟩) ∧ Rel Prot w0 (upd ρ H.next lim ⟨w.heap.size, 0, n, cl⟩) (H.push x) (w.alloc o) :=
  R.push' (w' := w.alloc o) rfl rfl rfl (by simp) (fun i hi => RowKit.Below.heap_alloc _ _ _ hi) (by show (w.heap.push o)[w.heap.size]? = _; simp) hO

def newCells (H : AHeap) (xs : List AVal) : Ad × AHeap := (⟨H.next, xs.length, 0⟩, H.push (.cells xs 0 false))

/-- a new row of cells; the model's may have more cells behind them -/
theorem new_run (R : Rel Prot w0 ρ H w) {xs : List AVal} {C : Array Value} {e : TypeId} {vs : List Value} (hv : VRels ρ xs vs) (hC : ∀ i, i < xs.length → C[i]? = vs[i]?) :
    ∃ ρ' L, ρ.le ρ' ∧ ρ' H.next xs.length = some L ∧ L = ⟨w.heap.size, 0, C.size, true⟩ ∧ Rel Prot w0 ρ' (H.push (.cells xs 0 false)) (w.alloc (.cells C e)) := by
  refine ⟨upd ρ H.next xs.length ⟨w.heap.size, 0, C.size, true⟩, _, ?_, upd_same _ _ _ _, rfl, ?_⟩
  all_goals
    obtain ⟨h1, h2⟩ := R.push (x := .cells xs 0 false) (o := .cells C e) (lim := xs.length) (n := C.size) (cl := true) (by
      simp only [ORel]
      refine ⟨C, e, 0, 0, rfl, rfl, fun _ => ⟨fun i _ => by omega, Nat.le_refl _⟩, Nat.le_refl _, fun _ i i1 i2 => ?_⟩
      have hx : xs[i]? = some xs[i] := List.getElem?_eq_getElem i2
      obtain ⟨v, u1, u2⟩ := hv.nth _ _ hx
      refine ⟨_, v, hx, ?_, VRel.mono (upd_le fun L' h' => by have := (R.dom _ _ _ h').1; omega) _ _ u2⟩
      simpa [hC i i2] using u1)
  · exact h1
  · exact h2

/-- a row grows beyond what is known of it, from cell 'p' on -/
def growCells (H : AHeap) (a : Ad) (p : Nat) (xs : List AVal) : Option AHeap :=
  match H.get a.b with
  | some (.cells l low false) =>
    bif Nat.ble low a.lim && (Nat.beq a.lim l.length && (Nat.ble p a.lim && (Nat.ble a.o p && (Nat.ble (a.lim + 1) (p + xs.length) && xs.all AVal.one)))) then
      some (H.set a.b (.cells (l.take p ++ xs) (bif Nat.beq p a.lim then low else p + xs.length) false)) else none
  | _ => none

theorem grow_spec {a : Ad} {p : Nat} {xs : List AVal} {H' : AHeap} (h : growCells H a p xs = some H') :
    ∃ l low, H.get a.b = some (.cells l low false) ∧ low ≤ a.lim ∧ a.lim = l.length ∧ p ≤ a.lim ∧ a.o ≤ p ∧ a.lim < p + xs.length ∧ (∀ x ∈ xs, x.one = true) ∧
      H' = H.set a.b (.cells (l.take p ++ xs) (bif Nat.beq p a.lim then low else p + xs.length) false) := by
  unfold growCells at h
  split at h
  · rename_i l low hg
    cases hc : (Nat.ble low a.lim && (Nat.beq a.lim l.length && (Nat.ble p a.lim && (Nat.ble a.o p && (Nat.ble (a.lim + 1) (p + xs.length) && xs.all AVal.one))))) with
    | false => rw [hc] at h; simp at h
    | true =>
      rw [hc] at h
      simp only [Bool.and_eq_true, Nat.ble_eq, List.all_eq_true] at hc
      simp only [cond_true, Option.some.injEq] at h
      exact ⟨l, low, hg, hc.1, Nat.eq_of_beq_eq_true hc.2.1, hc.2.2.1, hc.2.2.2.1, hc.2.2.2.2.1, hc.2.2.2.2.2, h.symm⟩
  · simp at h

theorem low_of {p lim low m : Nat} {l' : Nat} (h : (bif Nat.beq p lim then low else m) ≤ l') : (p = lim ∧ low ≤ l') ∨ m ≤ l' := by
  cases hb : Nat.beq p lim with
  | true => rw [hb] at h; exact .inl ⟨Nat.eq_of_beq_eq_true hb, h⟩
  | false => rw [hb] at h; exact .inr h

/-- the relation behind a growth, given where the new name lies and what has been kept -/
theorem Rel.grown (R : Rel Prot w0 ρ H w) {a : Ad} {p : Nat} {xs : List AVal} {H' : AHeap} (h : growCells H a p xs = some H') {L : Loc} (hL : ρ a.b a.lim = some L) {w' : World} {N : Loc}
    (hos : w'.os = w.os) (htape : w'.tape = w.tape) (hout : w'.output = w.output) (hsize : w.heap.size ≤ w'.heap.size) (hrest : ∀ i, i < w.heap.size → i ≠ L.c → w'.heap[i]? = w.heap[i]?)
    (hN : (N.c = L.c ∧ N.sh = L.sh) ∨ (w.heap.size ≤ N.c ∧ N.c < w'.heap.size))
    (hNew : ∃ C e lo hi, w'.heap[N.c]? = some (.cells C e (lo, hi)) ∧ C.size = N.n ∧ FzOK N C.size lo hi ∧
      ∀ l low, H.get a.b = some (.cells l low false) → CellsRel ρ N (p + xs.length) (l.take p ++ xs) C)
    (hOld : ∃ C C' e lo hi, w.heap[L.c]? = some (.cells C e (lo, hi)) ∧ w'.heap[L.c]? = some (.cells C' e (lo, hi)) ∧ C'.size = C.size ∧ ∀ j, j + L.sh < p → C'[j]? = C[j]?) :
    ρ.le (upd ρ a.b (p + xs.length) N) ∧ Rel Prot w0 (upd ρ a.b (p + xs.length) N) H' w' := by
  obtain ⟨l, low, hg, h0, h1, h2, h3, h4, h5, rfl⟩ := grow_spec h
  have hname : ∀ b' l' L', ρ b' l' = some L' → b' = a.b → l' ≤ l.length := by
    intro b' l' L' hL' e
    subst e
    obtain ⟨x, o, hx, _, hr⟩ := R.obj _ _ _ hL'
    rw [hg] at hx
    obtain rfl := (Option.some.injEq _ _).mp hx
    simp only [ORel] at hr
    obtain ⟨_, _, _, _, _, _, _, hl, _⟩ := hr
    exact hl
  have hle : ρ.le (upd ρ a.b (p + xs.length) N) := upd_le fun L' h' => by have := hname _ _ _ h' rfl; omega
  have hlen : (l.take p ++ xs).length = p + xs.length := by simp; omega
  have hLc := (R.dom _ _ _ hL).2
  refine ⟨hle, hos.trans R.os, htape.trans R.tape, hout.trans R.output, Nat.le_trans R.size hsize, fun c hc => ?_, fun b' l' L' hb => ?_, fun b' l' L' hb => ?_, fun b' l' L' z hb hz hr => ?_, fun b1 l1 L1 b2 l2 L2 z p1 p2 he hz hr => ?_, fun d hd => ?_⟩
  · obtain ⟨p1, p2⟩ := R.prot c hc
    refine ⟨p1, ?_⟩
    rw [hrest c (Nat.lt_of_lt_of_le p1 R.size) (fun e => R.free _ _ _ _ hL hg rfl (e ▸ hc))]
    exact p2
  · unfold upd at hb
    split at hb
    · rename_i q
      obtain rfl := (Option.some.injEq _ _).mp hb
      refine ⟨q.1 ▸ (R.dom _ _ _ hL).1, ?_⟩
      rcases hN with ⟨q, _⟩ | ⟨_, q⟩
      · rw [q]; omega
      · exact q
    · have := R.dom _ _ _ hb
      exact ⟨this.1, Nat.lt_of_lt_of_le this.2 hsize⟩
  · unfold upd at hb
    split at hb
    · rename_i q
      obtain ⟨rfl, rfl⟩ := q
      obtain rfl := (Option.some.injEq _ _).mp hb
      obtain ⟨C, e, lo, hi, c1, c2, c3, c4⟩ := hNew
      refine ⟨_, _, by rw [AHeap.get_set, if_pos rfl], c1, ?_⟩
      simp only [ORel]
      refine ⟨C, e, lo, hi, rfl, c2, fun _ => c3, Nat.le_of_eq hlen.symm, fun _ i i1 i2 => ?_⟩
      obtain ⟨x, v, r1, r2, r3⟩ := c4 l low hg i i1 i2
      exact ⟨x, v, r1, r2, VRel.mono hle _ _ r3⟩
    · by_cases e : b' = a.b
      · have hnm := hname _ _ _ hb e
        subst e
        obtain ⟨x, o, hx, ho, hr⟩ := R.obj _ _ _ hb
        rw [hg] at hx
        obtain rfl := (Option.some.injEq _ _).mp hx
        simp only [ORel] at hr
        obtain ⟨C, e, lo, hi, rfl, c2, c3, c4, c5⟩ := hr
        by_cases hc : L'.c = L.c
        · have hsh := (R.inj _ _ _ _ _ _ _ hb hL hc hg rfl).2
          obtain ⟨C1, C', e1, lo1, hi1, d1, d2, d3, d4⟩ := hOld
          rw [← hc, ho] at d1
          simp only [Option.some.injEq, Obj.cells.injEq, Prod.mk.injEq] at d1
          obtain ⟨rfl, rfl, rfl, rfl⟩ := d1
          refine ⟨_, _, by rw [AHeap.get_set, if_pos rfl], by rw [hc]; exact d2, ?_⟩
          simp only [ORel]
          refine ⟨C', e, lo, hi, rfl, d3.trans c2, by rw [d3]; exact c3, by rw [hlen]; omega, fun hlow => ?_⟩
          rcases low_of hlow with ⟨q1, q2⟩ | q2
          · intro i i1 i2
            obtain ⟨x, v, r1, r2, r3⟩ := c5 q2 i i1 i2
            refine ⟨x, v, ?_, ?_, VRel.mono hle _ _ r3⟩
            · rw [List.getElem?_append_left (by simp; omega), List.getElem?_take, if_pos (by omega)]
              exact r1
            · rw [d4 _ (by omega)]
              exact r2
          · omega
        · refine ⟨_, _, by rw [AHeap.get_set, if_pos rfl], by rw [hrest _ (R.dom _ _ _ hb).2 hc]; exact ho, ?_⟩
          simp only [ORel]
          refine ⟨C, e, lo, hi, rfl, c2, c3, by rw [hlen]; omega, fun hlow => ?_⟩
          rcases low_of hlow with ⟨q1, q2⟩ | q2
          · intro i i1 i2
            obtain ⟨x, v, r1, r2, r3⟩ := c5 q2 i i1 i2
            refine ⟨x, v, ?_, r2, VRel.mono hle _ _ r3⟩
            rw [List.getElem?_append_left (by simp; omega), List.getElem?_take, if_pos (by omega)]
            exact r1
          · omega
      · obtain ⟨x, o, hx, ho, hr⟩ := R.obj _ _ _ hb
        refine ⟨x, o, by rw [AHeap.get_set, if_neg e]; exact hx, ?_, hr.mono hle⟩
        rw [hrest _ (R.dom _ _ _ hb).2 (fun q => e (R.inj _ _ _ _ _ _ _ hL hb q.symm hg rfl).1.symm)]
        exact ho
  · unfold upd at hb
    split at hb
    · obtain rfl := (Option.some.injEq _ _).mp hb
      intro hp
      rcases hN with ⟨q, _⟩ | ⟨q, _⟩
      · exact R.free _ _ _ _ hL hg rfl (q ▸ hp)
      · have := (R.prot _ hp).1
        have := R.size
        omega
    · rw [AHeap.get_set] at hz
      by_cases e : b' = a.b
      · subst e
        exact R.free _ _ _ _ hb hg rfl
      · rw [if_neg e] at hz
        exact R.free _ _ _ _ hb hz hr
  · have key : ∀ b' l' L', ρ b' l' = some L' → L'.c = N.c → a.b = b' ∧ N.sh = L'.sh := by
      intro b' l' L' hb hc
      rcases hN with ⟨q1, q2⟩ | ⟨q1, q2⟩
      · obtain ⟨x1, x2⟩ := R.inj _ _ _ _ _ _ _ hL hb (q1 ▸ hc.symm) hg rfl
        exact ⟨x1, q2.trans x2⟩
      · have := (R.dom _ _ _ hb).2
        omega
    unfold upd at p1 p2
    split at p1 <;> split at p2
    · rename_i q1 q2
      obtain rfl := (Option.some.injEq _ _).mp p1
      obtain rfl := (Option.some.injEq _ _).mp p2
      exact ⟨q1.1.trans q2.1.symm, rfl⟩
    · rename_i q1 q2
      obtain rfl := (Option.some.injEq _ _).mp p1
      obtain ⟨k1, k2⟩ := key _ _ _ p2 he.symm
      exact ⟨q1.1.trans k1, k2⟩
    · rename_i q1 q2
      obtain rfl := (Option.some.injEq _ _).mp p2
      obtain ⟨k1, k2⟩ := key _ _ _ p1 he
      exact ⟨k1.symm.trans q2.1.symm, k2.symm⟩
    · rw [AHeap.get_set] at hz
      by_cases e : b1 = a.b
      · subst e
        exact R.inj _ _ _ _ _ _ _ p1 p2 he hg rfl
      · rw [if_neg e] at hz
        exact R.inj _ _ _ _ _ _ _ p1 p2 he hz hr
  · obtain ⟨q1, q2⟩ := R.dead d hd
    refine ⟨q1, fun l => ?_⟩
    unfold upd
    rw [if_neg]
    · exact q2 l
    · rintro ⟨rfl, _⟩
      rw [q2] at hL
      simp at hL
end
end Go.Abs
