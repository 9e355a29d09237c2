/- Part of a proof (S15 S13 S16 R3); no condition. -/
import Derived.ChangeArms
import Derived.ChangeSame
import Derived.Test.YthdkgakoogjoaaaDoorP6
import Derived.Test.YthdkgakoogjoaaaDoorP11
import Derived.Test.YthdkgakoogjoaaaDoorP12
set_option linter.unusedSimpArgs false
set_option linter.unusedVariables false
set_option linter.unnecessarySimpa false
/- Symbolic runs of the abstract machine, part 15: rows of bytes that grow by texts. Plain Lean. -/
namespace Go.Abs.S
open Go.Abs
theorem byts_ones (s : List UInt8) : ∀ x ∈ byts s, x.one = true := by
  intro x hx
  exact List.all_eq_true.1 (byts_one s) x hx
def Apart (s : AVal) (c : Nat) : Prop := ∀ a m r, s = .slice (some a) m r → c ≠ a.b
theorem apart_nil (c : Nat) : Apart nilS c := by intro a m r h; simp [nilS] at h
theorem App.apart {n : Nat} {H : AHeap} {s : AVal} {l : List AVal} (h : App n H s l) {c : Nat} (hc : H.next ≤ c) : Apart s c := by
  intro a m r he
  rcases h with ⟨rfl, _⟩ | ⟨b, low, rfl, _, h3, _⟩
  · simp [nilS] at he
  · simp only [AVal.slice.injEq, Option.some.injEq] at he
    rw [← he.1]; simp only; omega
theorem App.apart_lt {n : Nat} {H : AHeap} {s : AVal} {l : List AVal} (h : App n H s l) {c : Nat} (hc : c < n) : Apart s c := by
  intro a m r he
  rcases h with ⟨rfl, _⟩ | ⟨b, low, rfl, h2, _⟩
  · simp [nilS] at he
  · simp only [AVal.slice.injEq, Option.some.injEq] at he
    rw [← he.1]; simp only; omega
theorem ap_app {n : Nat} {H : AHeap} {s : AVal} {t xs : List UInt8} (h : App n H s (byts t)) (hn : n ≤ H.next) {y : AVal} (hs : aSrc 1 H y = some (xs.length, byts xs)) (hb : t.length + xs.length ≤ 100000000) :
    ∃ s' H', aAppend 1 1 H s y = some (s', H') ∧ App n H' s' (byts (t ++ xs)) ∧ Ext n H H' ∧ ∀ c, c < H.next → Apart s c → H'.get c = H.get c ∧ Apart s' c := by
  by_cases h0 : xs = []
  · subst h0
    simp only [List.append_nil]
    have e0 : Nat.beq ([] : List UInt8).length 0 = true := rfl
    refine ⟨s, H, ?_, h, Ext.refl _ _, fun c _ hc => ⟨rfl, hc⟩⟩
    simp only [aAppend, hs, e0, cond_true]
    rcases h with ⟨rfl, _⟩ | ⟨b, low, rfl, _⟩ <;> rfl
  have hl : 0 < xs.length := List.length_pos_iff.2 h0
  have e0 : Nat.beq xs.length 0 = false := by rw [beq_dec]; exact decide_eq_false (by omega)
  have c1 : ∀ k, k = t.length → (Nat.blt 0 1 && (Nat.ble ((2 * (k + xs.length) + 0) * 1) 281474976710656 && (Nat.ble (k + xs.length) 9223372036854775807 && (Nat.beq (byts xs).length (xs.length * 1) && (byts xs).all AVal.one)))) = true := by
    intro k hk
    subst hk
    simp only [Nat.add_zero, Nat.mul_one, Nat.ble_eq_true_of_le (show 2 * (t.length + xs.length) ≤ 281474976710656 by omega), Nat.ble_eq_true_of_le (show t.length + xs.length ≤ 9223372036854775807 by omega), byts_len, Nat.beq_refl, byts_one, Bool.and_self]
    rfl
  rcases h with ⟨rfl, h2⟩ | ⟨b, low, rfl, h2, h3, h4, h5⟩
  · have ht : t = [] := by simpa [byts] using h2
    subst ht
    refine ⟨.slice (some ⟨H.next, xs.length, 0⟩) xs.length (.open_ 1), H.push (.cells (byts xs) 0 false), ?_, .inr ⟨H.next, 0, ?_, hn, Nat.lt_succ_self _, ?_, Nat.zero_le _⟩, (Ext.refl n H).push hn _, fun c hc _ => ⟨get_push_lt hc, fun a m r he => by simp only [AVal.slice.injEq, Option.some.injEq] at he; rw [← he.1]; simp only; omega⟩⟩
    · simp only [aAppend, hs, e0, cond_false, nilS]
      rw [c1 0 rfl, cond_true, byts_len]
    · simp only [List.nil_append, byts_len]
    · rw [AHeap.get_push]; exact if_pos rfl
  · rw [byts_len] at h5 ⊢
    have hgrow : growCells H ⟨b, t.length, 0⟩ t.length (byts xs) = some (H.set b (.cells (byts t ++ byts xs) low false)) := by
      have e : t.length = (byts t).length := (byts_len t).symm
      unfold growCells
      simp only [h4, Nat.ble_eq_true_of_le (show low ≤ t.length from h5), Nat.ble_eq_true_of_le (show t.length ≤ (byts t).length by omega), Nat.ble_eq_true_of_le (Nat.zero_le _), Nat.ble_eq_true_of_le (show t.length + 1 ≤ t.length + xs.length by omega), ← e, Nat.beq_refl, byts_len, byts_one, Bool.and_self, cond_true, List.take_length, Nat.ble_eq_true_of_le (Nat.le_refl _)]
      congr 4
      rw [e, List.take_length]
    refine ⟨.slice (some ⟨b, t.length + xs.length, 0⟩) (t.length + xs.length) (.open_ 1), H.set b (.cells (byts t ++ byts xs) low false), ?_, .inr ⟨b, low, ?_, h2, h3, ?_, ?_⟩, (Ext.refl n H).set h2 _, fun c hc hd => ⟨by rw [AHeap.get_set, if_neg (hd _ _ _ rfl)], fun a m r he => by simp only [AVal.slice.injEq, Option.some.injEq] at he; rw [← he.1]; show c ≠ b; exact hd _ _ _ rfl⟩⟩
    · simp only [aAppend, hs, e0, cond_false]
      rw [c1 t.length rfl, cond_true]
      have e1 : Nat.ble (t.length + xs.length) t.length = false := by rw [ble_dec]; exact decide_eq_false (by omega)
      simp only [Nat.beq_refl, cond_true, Nat.zero_add, Nat.mul_one, e1, cond_false, hgrow, byts_len]
    · simp only [byts_len, List.length_append]
    · rw [AHeap.get_set, if_pos rfl, byts_append]
    · simp only [byts_len, List.length_append]; omega
theorem sb_app (H : AHeap) (s : List UInt8) : ∃ v H', aSB H (.str s) = some (v, H') ∧ App H.next H' v (byts s) ∧ Ext H.next H H' := by
  refine ⟨_, _, rfl, .inr ⟨H.next, 0, ?_, Nat.le_refl _, Nat.lt_succ_self _, ?_, Nat.zero_le _⟩, (Ext.refl _ H).push (Nat.le_refl _) _⟩
  · simp only [byts_len]
  · rw [AHeap.get_push]; exact if_pos rfl
theorem bs_cel {n : Nat} {H : AHeap} {s : AVal} {t : List UInt8} (h : Cel n H s (byts t)) : aBS H s = some (.str t) := by
  rcases h with ⟨rfl, h2⟩ | ⟨a, r, rfl, _, h3⟩
  · have ht : t = [] := by simpa [byts] using h2
    subst ht; rfl
  · simp only [aBS, h3, bytesOf_byts]
theorem byts_len' {n : Nat} {H : AHeap} {s : AVal} {t : List UInt8} (h : Cel n H s (byts t)) : aLenK false s = some (.int .i64 (t.length : Int)) := by
  have := h.len; rwa [byts_len] at this
theorem byts_src {n : Nat} {H : AHeap} {s : AVal} {t : List UInt8} (h : Cel n H s (byts t)) : aSrc 1 H s = some (t.length, byts t) := by
  have := h.src; rwa [byts_len] at this
theorem App.less {m n : Nat} {H : AHeap} {s : AVal} {l : List AVal} (h : App n H s l) (hm : m ≤ n) : App m H s l := by
  rcases h with h | ⟨b, low, h1, h2, h3⟩
  · exact .inl h
  · exact .inr ⟨b, low, h1, by omega, h3⟩
/-- texts, as a literal slice has them -/
def strs (l : List (List UInt8)) : List AVal := l.map .str
theorem strs_get {l : List (List UInt8)} {i : Nat} {s : List UInt8} (h : l[i]? = some s) : (strs l)[i]? = some (.str s) := by simp [strs, h]
theorem build_s1 (H : AHeap) (s : List UInt8) : ∃ H', aBuildSl 1 [.str []] H [(0, 1, .str s)] = some (slR H.next 1 (.known 1), H') ∧ Row H' H.next (strs [s]) ∧ H'.next = H.next + 1 ∧ Ext H.next H H' :=
  ⟨H.push (.cells [.str s] 0 false), rfl, row_push H [.str s], rfl, (Ext.refl _ H).push (Nat.le_refl _) _⟩
theorem build_s2 (H : AHeap) (s t : List UInt8) : ∃ H', aBuildSl 2 [.str []] H [(0, 1, .str s), (1, 1, .str t)] = some (slR H.next 2 (.known 2), H') ∧ Row H' H.next (strs [s, t]) ∧ H'.next = H.next + 1 ∧ Ext H.next H H' :=
  ⟨H.push (.cells [.str s, .str t] 0 false), rfl, row_push H [.str s, .str t], rfl, (Ext.refl _ H).push (Nat.le_refl _) _⟩
/-- pairs of texts that came in: a list of headers -/
def Prs (n : Nat) (H : AHeap) (s : AVal) (l : List (List UInt8 × List UInt8)) : Prop :=
  (s = nilS ∧ l = []) ∨ ∃ a r, s = .slice (some a) l.length r ∧ a.b < n ∧ ∀ i p, l[i]? = some p → rdCells H ⟨a.b, a.lim, a.o + i * 2⟩ 2 = some [.str p.1, .str p.2]
theorem Prs.len {n : Nat} {H : AHeap} {s : AVal} {l : List (List UInt8 × List UInt8)} (h : Prs n H s l) : aLenK false s = some (.int .i64 (l.length : Int)) := by
  rcases h with ⟨rfl, rfl⟩ | ⟨a, r, rfl, _⟩ <;> rfl
theorem Prs.ext {n : Nat} {H H' : AHeap} {s : AVal} {l : List (List UInt8 × List UInt8)} (h : Prs n H s l) (e : Ext n H H') : Prs n H' s l := by
  rcases h with h | ⟨a, r, h1, h2, h3⟩
  · exact .inl h
  · exact .inr ⟨a, r, h1, h2, fun i p hp => by rw [rd_congr (a := ⟨a.b, a.lim, a.o + i * 2⟩) (e.old _ h2)]; exact h3 i p hp⟩
theorem Prs.at {n : Nat} {H : AHeap} {s : AVal} {l : List (List UInt8 × List UInt8)} (h : Prs n H s l) {i : Nat} {p : List UInt8 × List UInt8} (hp : l[i]? = some p) :
    ∃ a, aIdxA 2 s (.int .i64 (i : Int)) = some (.ptr (some a)) ∧ oLoad true 2 H (.ptr (some a)) = some (.agg [.str p.1, .str p.2]) ∧ oLoad false 1 H (.ptr (some ⟨a.b, a.lim, a.o⟩)) = some (.str p.1) ∧ oLoad false 1 H (.ptr (some ⟨a.b, a.lim, a.o + 1⟩)) = some (.str p.2)
      ∧ aField 0 (.ptr (some a)) = some (.ptr (some ⟨a.b, a.lim, a.o⟩)) ∧ aField 1 (.ptr (some a)) = some (.ptr (some ⟨a.b, a.lim, a.o + 1⟩)) := by
  have hlt := (List.getElem?_eq_some_iff.1 hp).1
  rcases h with ⟨_, rfl⟩ | ⟨a, r, rfl, _, h3⟩
  · simp at hlt
  · have h4 := h3 i p hp
    obtain ⟨x, g1, g2⟩ := rd_at h4 (i := 0) (by omega)
    obtain ⟨y, g3, g4⟩ := rd_at h4 (i := 1) (by omega)
    simp only [List.getElem?_cons_zero, Option.some.injEq] at g1
    simp only [List.getElem?_cons_succ, List.getElem?_cons_zero, Option.some.injEq] at g3
    subst g1 g3
    simp only [Nat.add_zero] at g2
    refine ⟨⟨a.b, a.lim, a.o + i * 2⟩, ?_, ?_, ?_, ?_, ?_, ?_⟩
    · show (bif Nat.blt i l.length then _ else none) = _
      have : Nat.blt i l.length = true := by simpa [Nat.blt_eq] using hlt
      rw [this]; rfl
    · simp only [oLoad, h4, cond_true]
    · simp only [oLoad, g2, cond_false]
    · simp only [oLoad, g4, cond_false]
    · simp only [aField, Nat.add_zero]
    · simp only [aField]
end Go.Abs.S
/- Symbolic runs of the abstract machine, part 13: bytes that came in, out of the world; pairs of such. Plain Lean. -/
namespace Go.Abs.S
open Go.Abs Go.WideShapes Go.ChangeShapes
variable {H : Type} {enc : TypeId × Value → H}
theorem byte_wf {n : Int} (h : (Lit.int .u8 n).wf = true) : ((UInt8.ofNat n.toNat).toNat : Int) = n := by
  simp [Lit.wf, IntKind.min, IntKind.max, IntKind.signed, IntKind.bits] at h
  rw [UInt8.toNat_ofNat']
  omega
theorem arg_bytes {P : Program} {W : World} {base : Nat} {t e : TypeId} {v : Value} {d : DataW H} {p : List MemPlace} (ht : P.underlying t = some (.slice e)) (he : P.underlying e = some (.int .u8)) (hc : P.cellsOf e = 1)
    (hok : Value.okWide P W .any base t v) (h : DataW.Trod enc P W 0 (fun _ => true) true t v d p) :
    ∃ l : List UInt8, ArgS (heapW W).next (heapW W) (absW W v) (byts l) ∧ ((d = .nil ∧ l = []) ∨ ∃ el sp, d = .slice el sp ∧ el.length = l.length) ∧ (absW W v).one = true ∧ l.length ≤ maxLen := by
  obtain ⟨oa, len, cap, rfl⟩ := okWide_slice ht hok
  obtain ⟨fuel, hf⟩ := h
  rw [cells_slice _ rfl] at hf
  rcases open_ints ht he hc hf with ⟨h1, h2⟩ | ⟨a, len', cap', zs, h1, _, h3, h4, h5, h6, h7, h8⟩
  · simp only [List.cons.injEq, Value.slice.injEq, and_true] at h1
    obtain ⟨rfl, rfl, rfl⟩ := h1
    simp only [Prod.mk.injEq] at h2
    exact ⟨[], .inl ⟨by simp [absW, nilS], rfl⟩, .inl ⟨h2.1, rfl⟩, by simp [absW, AVal.one], by simp⟩
  · simp only [List.cons.injEq, Value.slice.injEq, and_true] at h1
    obtain ⟨rfl, rfl, rfl⟩ := h1
    simp only [if_true] at h5
    obtain ⟨q1, q2, n, q3, q4⟩ := okWide_room ht hok
    obtain ⟨c, off, spot⟩ := a
    simp only at q1 q3 q4
    subst q1
    simp only [Prod.mk.injEq] at h6
    have hlt : ((zs.take len).map fun n : Int => UInt8.ofNat n.toNat).length = len := by simp; omega
    have hcell : ∀ i, i < len → W.cell? ⟨c, off + i, none⟩ = some (.int .u8 (zs.getD i 0)) := fun i hi => by
      have := h7 i (by omega)
      rwa [add_none] at this
    have hb : off + len ≤ n := by
      by_cases h0 : len = 0
      · omega
      · obtain ⟨C, e', fz, g1, g2, _⟩ := objW_some q3
        have := hcell (len - 1) (by omega)
        rw [cell?_of g1] at this
        have := (Array.getElem?_eq_some_iff.1 this).1
        omega
    refine ⟨(zs.take len).map fun n : Int => UInt8.ofNat n.toNat, .inr ⟨⟨c, n, off⟩, cap, ?_, by rw [byts_len, hlt]; exact q2, ?_, ?_⟩, .inr ⟨_, _, h6.1, by simp [lits]⟩, ?_, by rw [hlt]; omega⟩
    · rw [byts_len, hlt]
      simp only [absW, q2, if_true, q3]
    · obtain ⟨C, e', fz, g1, _, _⟩ := objW_some q3
      exact (Array.getElem?_eq_some_iff.1 g1).1
    · rw [byts_len, hlt]
      refine rd_world q3 hb (by rw [byts_len, hlt]) fun i hi => ⟨_, hcell i hi, ?_⟩
      simp only [absW]
      have hz : i < zs.length := by omega
      have hw := h8 zs[i] (List.getElem_mem hz)
      have hg : ((zs.take len).map fun n : Int => UInt8.ofNat n.toNat)[i]? = some (UInt8.ofNat zs[i].toNat) := by
        rw [List.getElem?_map, List.getElem?_take_of_lt hi, List.getElem?_eq_getElem hz]; rfl
      rw [byts_get hg, byte_wf hw]
      simp [List.getD, hz]
    · simp only [absW, q2, if_true, q3, AVal.one]
/-- two of a kind -/
theorem pair_cells {P : Program} {W : World} {r : Reach} {base : Nat} {t e u : TypeId} {v : Value} {d : DataW H} {p : List MemPlace} (ha : P.underlying t = some (.array 2 e)) (hc : P.cellsOf t = 2) (hce : P.cellsOf e = 1) (hts : P.cellTypes P.depth t = some [u, u])
    (h : Value.okWide P W r base t v) (hd : DataW.Trod enc P W 0 (fun _ => true) true t v d p) :
    ∃ x y d1 p1 d2 p2, v = .agg #[x, y] ∧ Cell.okWide P W r base u x ∧ Cell.okWide P W r base u y ∧ (∃ n, DataW.trod enc P W 0 (fun _ => true) true n e [x] = some (d1, p1)) ∧ (∃ n, DataW.trod enc P W 0 (fun _ => true) true n e [y] = some (d2, p2)) := by
  simp only [Value.okWide, ha] at h
  obtain ⟨cs, rfl, hs, ts, h1, _, h2⟩ := h
  rw [hts] at h1
  simp only [Option.some.injEq] at h1
  subst h1
  rw [hc] at hs
  obtain ⟨fuel, hf⟩ := hd
  obtain ⟨xs, m, _, hx, hl, hn, hi⟩ := DataW.trod_array ha hf
  obtain ⟨x, y, rfl⟩ : ∃ x y, cs = #[x, y] := by
    refine ⟨cs[0]'(by omega), cs[1]'(by omega), ?_⟩
    apply Array.ext
    · simp [hs]
    · intro i h1 h2
      match i with
      | 0 => rfl
      | 1 => rfl
      | n + 2 => omega
  obtain ⟨u0, a1, a2⟩ := h2 0 x rfl
  obtain ⟨u1, b1, b2⟩ := h2 1 y rfl
  have a1 : some u = some u0 := a1
  have b1 : some u = some u1 := b1
  simp only [Option.some.injEq] at a1 b1
  subst a1
  subst b1
  have i0 := hi 0 (by omega)
  have i1 := hi 1 (by omega)
  rw [hce] at i0 i1
  have x0 : ∃ z, xs[0]? = some z := ⟨xs[0]'(by omega), List.getElem?_eq_getElem _⟩
  have x1 : ∃ z, xs[1]? = some z := ⟨xs[1]'(by omega), List.getElem?_eq_getElem _⟩
  obtain ⟨z0, x0⟩ := x0
  obtain ⟨z1, x1⟩ := x1
  rw [x0] at i0
  rw [x1] at i1
  have e0 : (List.drop (0 * 1) (Value.agg #[x, y]).cells.toList).take 1 = [x] := rfl
  have e1 : (List.drop (1 * 1) (Value.agg #[x, y]).cells.toList).take 1 = [y] := rfl
  rw [e0] at i0
  rw [e1] at i1
  exact ⟨x, y, z0.1, z0.2, z1.1, z1.2, rfl, a2, b2, ⟨m, i0⟩, ⟨m, i1⟩⟩
end Go.Abs.S
/- Symbolic runs of the abstract machine, part 16: slices of whatever elements that came in; lists of pairs of texts. Plain Lean. -/
namespace Go.Abs.S
open Go.Abs Go.WideShapes Go.ChangeShapes
variable {H : Type} {enc : TypeId × Value → H}
theorem cells_at {w : World} {b : Nat} {c off : Nat} {n : Nat} {cs : List Value} (h : w.cells? b ⟨c, off, none⟩ n = some cs) : cs.length = n ∧ ∀ i, i < n → w.cell? ⟨c, off + i, none⟩ = cs[i]? := by
  unfold World.cells? at h
  split at h
  · have key : ∀ (l : List Nat) (cs : List Value), l.mapM (fun i => w.cell? ((⟨c, off, none⟩ : Addr).add i)) = some cs → cs.length = l.length ∧ ∀ (i j : Nat), l[i]? = some j → w.cell? ((⟨c, off, none⟩ : Addr).add j) = cs[i]? := by
      intro l
      induction l with
      | nil => intro cs h; simp at h; subst h; simp
      | cons x l ih =>
        intro cs h
        simp only [List.mapM_cons] at h
        cases hx : w.cell? ((⟨c, off, none⟩ : Addr).add x) with
        | none => rw [hx] at h; simp at h
        | some v =>
          rw [hx] at h
          cases hr : l.mapM (fun i => w.cell? ((⟨c, off, none⟩ : Addr).add i)) with
          | none => rw [hr] at h; simp at h
          | some vs =>
            rw [hr] at h
            simp at h
            subst h
            obtain ⟨h1, h2⟩ := ih vs hr
            refine ⟨by simp [h1], fun i j hj => ?_⟩
            cases i with
            | zero => simp at hj; subst hj; simpa using hx
            | succ i => simpa using h2 i j (by simpa using hj)
    obtain ⟨h1, h2⟩ := key _ _ h
    refine ⟨by simpa using h1, fun i hi => ?_⟩
    have := h2 i i (by simp [hi])
    rwa [add_none] at this
  · simp at h
theorem arg_slice {P : Program} {W : World} {base : Nat} {t e : TypeId} {v : Value} {d : DataW H} {p : List MemPlace} (ht : P.underlying t = some (.slice e)) (hm : 0 < P.cellsOf e)
    (hok : Value.okWide P W .any base t v) (h : DataW.Trod enc P W 0 (fun _ => true) true t v d p) :
    (absW W v = nilS ∧ d = .nil) ∨ ∃ c n off len cap els sp, absW W v = .slice (some ⟨c, n, off⟩) len (.known cap) ∧ len ≤ cap ∧ cap ≤ maxLen ∧ c < W.heap.size ∧ d = .slice els sp ∧ els.length = len ∧
      ∀ i, i < len → ∃ cs k y, cs.length = P.cellsOf e ∧ rdCells (heapW W) ⟨c, n, off + i * P.cellsOf e⟩ (P.cellsOf e) = some (cs.map (absW W)) ∧ DataW.trod enc P W 0 (fun _ => true) true k e cs = some y ∧ els[i]? = some y.1 := by
  obtain ⟨oa, len, cap, rfl⟩ := okWide_slice ht hok
  obtain ⟨fuel, hf⟩ := h
  rw [cells_slice _ rfl] at hf
  rcases DataW.trod_slice ht hf with ⟨h1, h2⟩ | ⟨a, len', cap', elems, rest, n', _, h1, hx, _, h3, h4, h5, h6, _⟩
  · simp only [List.cons.injEq, Value.slice.injEq, and_true] at h1
    obtain ⟨rfl, rfl, rfl⟩ := h1
    simp only [Prod.mk.injEq] at h2
    exact .inl ⟨by simp [absW, nilS], h2.1⟩
  · simp only [List.cons.injEq, Value.slice.injEq, and_true] at h1
    obtain ⟨rfl, rfl, rfl⟩ := h1
    obtain ⟨q1, q2, n, q3, q4⟩ := okWide_room ht hok
    obtain ⟨c, off, spot⟩ := a
    simp only at q1 q3 q4
    subst q1
    simp only [Prod.mk.injEq] at hx
    refine .inr ⟨c, n, off, len, cap, _, _, by simp only [absW, q2, if_true, q3], q2, h4, ?_, hx.1, by simpa using h5, fun i hi => ?_⟩
    · obtain ⟨C, e', fz, g1, _, _⟩ := objW_some q3
      exact (Array.getElem?_eq_some_iff.1 g1).1
    · have hE := h6 i hi
      have hei : elems[i]? = some (elems[i]'(by omega)) := List.getElem?_eq_getElem _
      rw [hei] at hE
      rw [add_none] at hE
      obtain ⟨cs, hc, ho⟩ := Option.bind_eq_some_iff.1 hE
      obtain ⟨l1, l2⟩ := cells_at hc
      refine ⟨cs, n', _, l1, ?_, ho, by simp [hei]⟩
      refine rd_world q3 ?_ (by simpa using l1) fun j hj => ?_
      · obtain ⟨C, e', fz, g1, g2, _⟩ := objW_some q3
        have := l2 (P.cellsOf e - 1) (by omega)
        rw [cell?_of g1] at this
        have hlt : P.cellsOf e - 1 < cs.length := by omega
        rw [List.getElem?_eq_getElem hlt] at this
        have := (Array.getElem?_eq_some_iff.1 this).1
        omega
      · have hlt : j < cs.length := by omega
        exact ⟨cs[j], by rw [l2 j hj, List.getElem?_eq_getElem hlt], by simp [hlt]⟩
/-- lists of pairs of texts -/
theorem arg_pairs {P : Program} {W : World} {base : Nat} {t e : TypeId} {f0 f1 : Field} {v : Value} {d : DataW H} {p : List MemPlace} (ht : P.underlying t = some (.slice e)) (he : P.underlying e = some (.struct #[f0, f1])) (hm : P.cellsOf e = 2)
    (h0 : P.underlying f0.type = some .string) (h1 : P.underlying f1.type = some .string) (o0 : f0.offset = 0) (o1 : f1.offset = 1) (c0 : P.cellsOf f0.type = 1) (c1 : P.cellsOf f1.type = 1)
    (hok : Value.okWide P W .any base t v) (h : DataW.Trod enc P W 0 (fun _ => true) true t v d p) :
    ∃ l : List (List UInt8 × List UInt8), Prs (heapW W).next (heapW W) (absW W v) l ∧ (∀ q ∈ l, q.1.length ≤ maxLen ∧ q.2.length ≤ maxLen) ∧ l.length ≤ maxLen ∧ (absW W v).one = true := by
  rcases arg_slice ht (by omega) hok h with ⟨h2, _⟩ | ⟨c, n, off, len, cap, els, sp, h2, h3, h4, h5, h6, h7, h8⟩
  · exact ⟨[], .inl ⟨h2, rfl⟩, by simp, by simp, by rw [h2]; rfl⟩
  · have key : ∀ i, i < len → ∃ q : List UInt8 × List UInt8, rdCells (heapW W) ⟨c, n, off + i * 2⟩ 2 = some [.str q.1, .str q.2] ∧ q.1.length ≤ maxLen ∧ q.2.length ≤ maxLen := by
      intro i hi
      obtain ⟨cs, k, y, g1, g2, g3, _⟩ := h8 i hi
      rw [hm] at g1 g2
      obtain ⟨y0, y1, m, _, _, t0, t1⟩ := trod_struct2 he g3
      rw [o0, c0] at t0
      rw [o1, c1] at t1
      obtain ⟨a, b, rfl⟩ : ∃ a b, cs = [a, b] := by
        match cs, g1 with
        | [a, b], _ => exact ⟨a, b, rfl⟩
      obtain ⟨s, e1, _, l1⟩ := DataW.trod_string h0 t0
      obtain ⟨u, e2, _, l2⟩ := DataW.trod_string h1 t1
      simp at e1 e2
      subst e1 e2
      exact ⟨(s.data.toList, u.data.toList), by simpa [absW] using g2, by rw [Array.length_toList]; exact l1, by rw [Array.length_toList]; exact l2⟩
    have hall : ∀ k, k ≤ len → ∃ l : List (List UInt8 × List UInt8), l.length = k ∧ ∀ i q, l[i]? = some q → rdCells (heapW W) ⟨c, n, off + i * 2⟩ 2 = some [.str q.1, .str q.2] ∧ q.1.length ≤ maxLen ∧ q.2.length ≤ maxLen := by
      intro k
      induction k with
      | zero => intro _; exact ⟨[], rfl, by simp⟩
      | succ k ih =>
        intro hk
        obtain ⟨l, hl, hq⟩ := ih (by omega)
        obtain ⟨q, hq1⟩ := key k (by omega)
        refine ⟨l ++ [q], by simp [hl], fun i r hr => ?_⟩
        by_cases hi : i < l.length
        · rw [List.getElem?_append_left hi] at hr
          exact hq i r hr
        · rw [List.getElem?_append_right (by omega)] at hr
          have h0 : i - l.length = 0 := by
            rcases Nat.eq_zero_or_pos (i - l.length) with h0 | h0
            · exact h0
            · rw [List.getElem?_eq_none (by simp; omega)] at hr; simp at hr
          rw [h0] at hr
          simp at hr
          subst hr
          rw [show i = k by omega]
          exact hq1
    obtain ⟨l, hl, hq⟩ := hall len (Nat.le_refl _)
    refine ⟨l, .inr ⟨⟨c, n, off⟩, .known cap, by rw [h2, hl], h5, fun i q hi => (hq i q hi).1⟩, fun q hqm => ?_, by omega, by rw [h2]; rfl⟩
    obtain ⟨i, hi⟩ := List.mem_iff_getElem?.1 hqm
    exact (hq i q hi).2
end Go.Abs.S
/- Reply: names, values, headers: the program's way of asking: the contracts. -/
namespace Go.Proofs.Re
open Go.Abs Go.Abs.S Go.Abs.F
theorem tch_ascii {s : Bs} (h : s.all tch = true) : asciiB s = true := by
  refine List.all_eq_true.2 fun b hb => ?_
  have := List.all_eq_true.1 h b hb
  rw [Nat.ble_eq]
  simp only [tch, tchB, beq_dec, ble_dec, Bool.or_eq_true, Bool.and_eq_true, decide_eq_true_eq] at this
  omega
theorem name_spec {H : AHeap} (hG : GG H) (s : Bs) (hs : s.length ≤ 1000000) : ACalls Tryd.prog natR 31 [.str s] H fun v H' => v = .bool (nameB s) ∧ H = H' := by
  refine acalls_ofN rfl za31 rfl ?_
  by_cases h0 : s = []
  · subst h0
    simp only [c31, pf_min, undef_bool, str_len, str_eql, str_neq, conv_in, un_not, eq_self, decide_true, decide_false, Bool.not_true, Bool.not_false, argE_0, argE_1, argE_2, argE_3, argE_4, aw_skip, aw_reg, aw_seq, aw_cond, aw_block, aw_exit, aw_ret, inSeq_normal, inSeq_exit, inSeq_ret, inBlk_exit, inBlk_normal, inBlk_ret, OptK_some, OptH_some, OptS_some, kont_app, ar_nil, ar_guard, ar_mv, ar_pick, ar_new, ar_box, ar_build, ar_buildSl, ar_load, ar_store, ar_nilChk, ar_bin, ar_un, ar_conv, ar_convSB, ar_convBS, ar_mkFunc, ar_mkIface, ar_mkSlice, ar_sl, ar_slStr, ar_fieldA, ar_field, ar_idxA, ar_idxArr, ar_idx, ar_idxS, ar_extract, ar_append, ar_len, ar_call, ar_callv, callvP_func, List.nil_append, List.cons_append, List.append_nil, ar_pf, ar_hf, ar_slA, upO_some, upO_none, sX_t, sX_c, sX_f, sXs, sXO, sXP, fin_t, fin_t2, fin_t3, up_same, up_ne, ne_eq, not_false_eq_true, AVal.bool.injEq, decide_eq_true_eq, decide_eq_false_iff_not, Int.ofNat_eq_natCast, Int.reduceNegSucc, Int.cast_ofNat_Int, reduceCtorEq, bin_lss, bin_leq, bin_gtr, bin_geq, bin_eql, bin_neq, bin_add, bin_sub, bin_mul, Bool.not_eq_true', Bool.not_eq_false', Bool.true_eq_false, Bool.false_eq_true, Nat.reduceEqDiff, ↓reduceIte, if_true, if_false, Nat.reduceAdd, Int.reduceEq, Int.reduceLT, Int.reduceLE]
    exact ⟨by simp [nameB], (by first | trivial | rfl | assumption)⟩
  · simp only [c31, pf_min, undef_bool, str_len, str_eql, str_neq, conv_in, un_not, eq_self, decide_true, decide_false, Bool.not_true, Bool.not_false, argE_0, argE_1, argE_2, argE_3, argE_4, aw_skip, aw_reg, aw_seq, aw_cond, aw_block, aw_exit, aw_ret, inSeq_normal, inSeq_exit, inSeq_ret, inBlk_exit, inBlk_normal, inBlk_ret, OptK_some, OptH_some, OptS_some, kont_app, ar_nil, ar_guard, ar_mv, ar_pick, ar_new, ar_box, ar_build, ar_buildSl, ar_load, ar_store, ar_nilChk, ar_bin, ar_un, ar_conv, ar_convSB, ar_convBS, ar_mkFunc, ar_mkIface, ar_mkSlice, ar_sl, ar_slStr, ar_fieldA, ar_field, ar_idxA, ar_idxArr, ar_idx, ar_idxS, ar_extract, ar_append, ar_len, ar_call, ar_callv, callvP_func, List.nil_append, List.cons_append, List.append_nil, ar_pf, ar_hf, ar_slA, upO_some, upO_none, sX_t, sX_c, sX_f, sXs, sXO, sXP, fin_t, fin_t2, fin_t3, up_same, up_ne, ne_eq, not_false_eq_true, AVal.bool.injEq, decide_eq_true_eq, decide_eq_false_iff_not, Int.ofNat_eq_natCast, Int.reduceNegSucc, Int.cast_ofNat_Int, reduceCtorEq, bin_lss, bin_leq, bin_gtr, bin_geq, bin_eql, bin_neq, bin_add, bin_sub, bin_mul, Bool.not_eq_true', Bool.not_eq_false', Bool.true_eq_false, Bool.false_eq_true, Nat.reduceEqDiff, ↓reduceIte, if_true, if_false, Nat.reduceAdd, Int.reduceEq, Int.reduceLT, Int.reduceLE, h0]
    refine (all_spec says_tch hG s (by omega)).mono ?_
    rintro v _ ⟨rfl, rfl⟩
    cases ha : s.all tch with
    | false =>
      simp only [pf_min, undef_bool, str_len, str_eql, str_neq, conv_in, un_not, eq_self, decide_true, decide_false, Bool.not_true, Bool.not_false, argE_0, argE_1, argE_2, argE_3, argE_4, aw_skip, aw_reg, aw_seq, aw_cond, aw_block, aw_exit, aw_ret, inSeq_normal, inSeq_exit, inSeq_ret, inBlk_exit, inBlk_normal, inBlk_ret, OptK_some, OptH_some, OptS_some, kont_app, ar_nil, ar_guard, ar_mv, ar_pick, ar_new, ar_box, ar_build, ar_buildSl, ar_load, ar_store, ar_nilChk, ar_bin, ar_un, ar_conv, ar_convSB, ar_convBS, ar_mkFunc, ar_mkIface, ar_mkSlice, ar_sl, ar_slStr, ar_fieldA, ar_field, ar_idxA, ar_idxArr, ar_idx, ar_idxS, ar_extract, ar_append, ar_len, ar_call, ar_callv, callvP_func, List.nil_append, List.cons_append, List.append_nil, ar_pf, ar_hf, ar_slA, upO_some, upO_none, sX_t, sX_c, sX_f, sXs, sXO, sXP, fin_t, fin_t2, fin_t3, up_same, up_ne, ne_eq, not_false_eq_true, AVal.bool.injEq, decide_eq_true_eq, decide_eq_false_iff_not, Int.ofNat_eq_natCast, Int.reduceNegSucc, Int.cast_ofNat_Int, reduceCtorEq, bin_lss, bin_leq, bin_gtr, bin_geq, bin_eql, bin_neq, bin_add, bin_sub, bin_mul, Bool.not_eq_true', Bool.not_eq_false', Bool.true_eq_false, Bool.false_eq_true, Nat.reduceEqDiff, ↓reduceIte, if_true, if_false, Nat.reduceAdd, Int.reduceEq, Int.reduceLT, Int.reduceLE]
      exact ⟨by simp [nameB, ha], (by first | trivial | rfl | assumption)⟩
    | true =>
      simp only [pf_min, undef_bool, str_len, str_eql, str_neq, conv_in, un_not, eq_self, decide_true, decide_false, Bool.not_true, Bool.not_false, argE_0, argE_1, argE_2, argE_3, argE_4, aw_skip, aw_reg, aw_seq, aw_cond, aw_block, aw_exit, aw_ret, inSeq_normal, inSeq_exit, inSeq_ret, inBlk_exit, inBlk_normal, inBlk_ret, OptK_some, OptH_some, OptS_some, kont_app, ar_nil, ar_guard, ar_mv, ar_pick, ar_new, ar_box, ar_build, ar_buildSl, ar_load, ar_store, ar_nilChk, ar_bin, ar_un, ar_conv, ar_convSB, ar_convBS, ar_mkFunc, ar_mkIface, ar_mkSlice, ar_sl, ar_slStr, ar_fieldA, ar_field, ar_idxA, ar_idxArr, ar_idx, ar_idxS, ar_extract, ar_append, ar_len, ar_call, ar_callv, callvP_func, List.nil_append, List.cons_append, List.append_nil, ar_pf, ar_hf, ar_slA, upO_some, upO_none, sX_t, sX_c, sX_f, sXs, sXO, sXP, fin_t, fin_t2, fin_t3, up_same, up_ne, ne_eq, not_false_eq_true, AVal.bool.injEq, decide_eq_true_eq, decide_eq_false_iff_not, Int.ofNat_eq_natCast, Int.reduceNegSucc, Int.cast_ofNat_Int, reduceCtorEq, bin_lss, bin_leq, bin_gtr, bin_geq, bin_eql, bin_neq, bin_add, bin_sub, bin_mul, Bool.not_eq_true', Bool.not_eq_false', Bool.true_eq_false, Bool.false_eq_true, Nat.reduceEqDiff, ↓reduceIte, if_true, if_false, Nat.reduceAdd, Int.reduceEq, Int.reduceLT, Int.reduceLE]
      refine lower_call (by omega) (tch_ascii ha) ?_
      have e : nameB s = (!decide (low s = clN) && !decide (low s = teN)) := by simp [nameB, ha, h0]
      rw [e]
      show kont _ _ _ _ _ (.str (low s)) _
      by_cases h1 : low s = clN
      · simp only [pf_min, undef_bool, str_len, str_eql, str_neq, conv_in, un_not, eq_self, decide_true, decide_false, Bool.not_true, Bool.not_false, argE_0, argE_1, argE_2, argE_3, argE_4, aw_skip, aw_reg, aw_seq, aw_cond, aw_block, aw_exit, aw_ret, inSeq_normal, inSeq_exit, inSeq_ret, inBlk_exit, inBlk_normal, inBlk_ret, OptK_some, OptH_some, OptS_some, kont_app, ar_nil, ar_guard, ar_mv, ar_pick, ar_new, ar_box, ar_build, ar_buildSl, ar_load, ar_store, ar_nilChk, ar_bin, ar_un, ar_conv, ar_convSB, ar_convBS, ar_mkFunc, ar_mkIface, ar_mkSlice, ar_sl, ar_slStr, ar_fieldA, ar_field, ar_idxA, ar_idxArr, ar_idx, ar_idxS, ar_extract, ar_append, ar_len, ar_call, ar_callv, callvP_func, List.nil_append, List.cons_append, List.append_nil, ar_pf, ar_hf, ar_slA, upO_some, upO_none, sX_t, sX_c, sX_f, sXs, sXO, sXP, fin_t, fin_t2, fin_t3, up_same, up_ne, ne_eq, not_false_eq_true, AVal.bool.injEq, decide_eq_true_eq, decide_eq_false_iff_not, Int.ofNat_eq_natCast, Int.reduceNegSucc, Int.cast_ofNat_Int, reduceCtorEq, bin_lss, bin_leq, bin_gtr, bin_geq, bin_eql, bin_neq, bin_add, bin_sub, bin_mul, Bool.not_eq_true', Bool.not_eq_false', Bool.true_eq_false, Bool.false_eq_true, Nat.reduceEqDiff, ↓reduceIte, if_true, if_false, Nat.reduceAdd, Int.reduceEq, Int.reduceLT, Int.reduceLE, h1]
        exact ⟨(by first | trivial | rfl | assumption), (by first | trivial | rfl | assumption)⟩
      · have h1' : ¬ low s = [99, 111, 110, 116, 101, 110, 116, 45, 108, 101, 110, 103, 116, 104] := h1
        by_cases h2 : low s = teN
        · have h2' : low s = [116, 114, 97, 110, 115, 102, 101, 114, 45, 101, 110, 99, 111, 100, 105, 110, 103] := h2
          simp only [pf_min, undef_bool, str_len, str_eql, str_neq, conv_in, un_not, eq_self, decide_true, decide_false, Bool.not_true, Bool.not_false, argE_0, argE_1, argE_2, argE_3, argE_4, aw_skip, aw_reg, aw_seq, aw_cond, aw_block, aw_exit, aw_ret, inSeq_normal, inSeq_exit, inSeq_ret, inBlk_exit, inBlk_normal, inBlk_ret, OptK_some, OptH_some, OptS_some, kont_app, ar_nil, ar_guard, ar_mv, ar_pick, ar_new, ar_box, ar_build, ar_buildSl, ar_load, ar_store, ar_nilChk, ar_bin, ar_un, ar_conv, ar_convSB, ar_convBS, ar_mkFunc, ar_mkIface, ar_mkSlice, ar_sl, ar_slStr, ar_fieldA, ar_field, ar_idxA, ar_idxArr, ar_idx, ar_idxS, ar_extract, ar_append, ar_len, ar_call, ar_callv, callvP_func, List.nil_append, List.cons_append, List.append_nil, ar_pf, ar_hf, ar_slA, upO_some, upO_none, sX_t, sX_c, sX_f, sXs, sXO, sXP, fin_t, fin_t2, fin_t3, up_same, up_ne, ne_eq, not_false_eq_true, AVal.bool.injEq, decide_eq_true_eq, decide_eq_false_iff_not, Int.ofNat_eq_natCast, Int.reduceNegSucc, Int.cast_ofNat_Int, reduceCtorEq, bin_lss, bin_leq, bin_gtr, bin_geq, bin_eql, bin_neq, bin_add, bin_sub, bin_mul, Bool.not_eq_true', Bool.not_eq_false', Bool.true_eq_false, Bool.false_eq_true, Nat.reduceEqDiff, ↓reduceIte, if_true, if_false, Nat.reduceAdd, Int.reduceEq, Int.reduceLT, Int.reduceLE, h1', h2']
          exact ⟨by rw [← h2', h2]; simp, (by first | trivial | rfl | assumption)⟩
        · have h2' : ¬ low s = [116, 114, 97, 110, 115, 102, 101, 114, 45, 101, 110, 99, 111, 100, 105, 110, 103] := h2
          simp only [pf_min, undef_bool, str_len, str_eql, str_neq, conv_in, un_not, eq_self, decide_true, decide_false, Bool.not_true, Bool.not_false, argE_0, argE_1, argE_2, argE_3, argE_4, aw_skip, aw_reg, aw_seq, aw_cond, aw_block, aw_exit, aw_ret, inSeq_normal, inSeq_exit, inSeq_ret, inBlk_exit, inBlk_normal, inBlk_ret, OptK_some, OptH_some, OptS_some, kont_app, ar_nil, ar_guard, ar_mv, ar_pick, ar_new, ar_box, ar_build, ar_buildSl, ar_load, ar_store, ar_nilChk, ar_bin, ar_un, ar_conv, ar_convSB, ar_convBS, ar_mkFunc, ar_mkIface, ar_mkSlice, ar_sl, ar_slStr, ar_fieldA, ar_field, ar_idxA, ar_idxArr, ar_idx, ar_idxS, ar_extract, ar_append, ar_len, ar_call, ar_callv, callvP_func, List.nil_append, List.cons_append, List.append_nil, ar_pf, ar_hf, ar_slA, upO_some, upO_none, sX_t, sX_c, sX_f, sXs, sXO, sXP, fin_t, fin_t2, fin_t3, up_same, up_ne, ne_eq, not_false_eq_true, AVal.bool.injEq, decide_eq_true_eq, decide_eq_false_iff_not, Int.ofNat_eq_natCast, Int.reduceNegSucc, Int.cast_ofNat_Int, reduceCtorEq, bin_lss, bin_leq, bin_gtr, bin_geq, bin_eql, bin_neq, bin_add, bin_sub, bin_mul, Bool.not_eq_true', Bool.not_eq_false', Bool.true_eq_false, Bool.false_eq_true, Nat.reduceEqDiff, ↓reduceIte, if_true, if_false, Nat.reduceAdd, Int.reduceEq, Int.reduceLT, Int.reduceLE, h1', h2']
          exact ⟨by simp [h1, h2], (by first | trivial | rfl | assumption)⟩
theorem valueB_cons {b l : UInt8} {s : Bs} (h : s ≠ []) (hb : s[0]? = some b) (hl : s[s.length - 1]? = some l) : valueB s = (s.all valB && (!blk b && !blk l)) := by
  have e1 : headOK s = !blk b := by
    cases s with
    | nil => simp at h
    | cons c r => simp only [List.getElem?_cons_zero, Option.some.injEq] at hb; subst hb; rfl
  have e2 : lastOK s = !blk l := by
    have hr : s.reverse[0]? = some l := by
      rw [List.getElem?_reverse (by have := List.length_pos_iff.2 h; omega), Nat.sub_zero]
      exact hl
    unfold lastOK
    cases hs : s.reverse with
    | nil => exact absurd (List.reverse_eq_nil_iff.1 hs) h
    | cons c r => rw [hs] at hr; simp only [List.getElem?_cons_zero, Option.some.injEq] at hr; subst hr; rfl
  rw [valueB, e1, e2]
theorem value_spec {H : AHeap} (hG : GG H) (s : Bs) (hs : s.length ≤ 1000000) : ACalls Tryd.prog natR 32 [.str s] H fun v H' => v = .bool (valueB s) ∧ H = H' := by
  refine acalls_ofN rfl za32 rfl ?_
  by_cases h0 : s = []
  · subst h0
    simp only [c32, pf_min, undef_bool, str_len, str_eql, str_neq, conv_in, un_not, eq_self, decide_true, decide_false, Bool.not_true, Bool.not_false, argE_0, argE_1, argE_2, argE_3, argE_4, aw_skip, aw_reg, aw_seq, aw_cond, aw_block, aw_exit, aw_ret, inSeq_normal, inSeq_exit, inSeq_ret, inBlk_exit, inBlk_normal, inBlk_ret, OptK_some, OptH_some, OptS_some, kont_app, ar_nil, ar_guard, ar_mv, ar_pick, ar_new, ar_box, ar_build, ar_buildSl, ar_load, ar_store, ar_nilChk, ar_bin, ar_un, ar_conv, ar_convSB, ar_convBS, ar_mkFunc, ar_mkIface, ar_mkSlice, ar_sl, ar_slStr, ar_fieldA, ar_field, ar_idxA, ar_idxArr, ar_idx, ar_idxS, ar_extract, ar_append, ar_len, ar_call, ar_callv, callvP_func, List.nil_append, List.cons_append, List.append_nil, ar_pf, ar_hf, ar_slA, upO_some, upO_none, sX_t, sX_c, sX_f, sXs, sXO, sXP, fin_t, fin_t2, fin_t3, up_same, up_ne, ne_eq, not_false_eq_true, AVal.bool.injEq, decide_eq_true_eq, decide_eq_false_iff_not, Int.ofNat_eq_natCast, Int.reduceNegSucc, Int.cast_ofNat_Int, reduceCtorEq, bin_lss, bin_leq, bin_gtr, bin_geq, bin_eql, bin_neq, bin_add, bin_sub, bin_mul, Bool.not_eq_true', Bool.not_eq_false', Bool.true_eq_false, Bool.false_eq_true, Nat.reduceEqDiff, ↓reduceIte, if_true, if_false, Nat.reduceAdd, Int.reduceEq, Int.reduceLT, Int.reduceLE]
    exact ⟨by simp [valueB, headOK, lastOK], (by first | trivial | rfl | assumption)⟩
  · have hpos := List.length_pos_iff.2 h0
    obtain ⟨b, hb⟩ := isSome_of_lt (l := s) (i := 0) hpos
    obtain ⟨l, hl⟩ := isSome_of_lt (l := s) (i := s.length - 1) (by omega)
    rw [valueB_cons h0 hb hl]
    simp only [c32, pf_min, undef_bool, str_len, str_eql, str_neq, conv_in, un_not, eq_self, decide_true, decide_false, Bool.not_true, Bool.not_false, argE_0, argE_1, argE_2, argE_3, argE_4, aw_skip, aw_reg, aw_seq, aw_cond, aw_block, aw_exit, aw_ret, inSeq_normal, inSeq_exit, inSeq_ret, inBlk_exit, inBlk_normal, inBlk_ret, OptK_some, OptH_some, OptS_some, kont_app, ar_nil, ar_guard, ar_mv, ar_pick, ar_new, ar_box, ar_build, ar_buildSl, ar_load, ar_store, ar_nilChk, ar_bin, ar_un, ar_conv, ar_convSB, ar_convBS, ar_mkFunc, ar_mkIface, ar_mkSlice, ar_sl, ar_slStr, ar_fieldA, ar_field, ar_idxA, ar_idxArr, ar_idx, ar_idxS, ar_extract, ar_append, ar_len, ar_call, ar_callv, callvP_func, List.nil_append, List.cons_append, List.append_nil, ar_pf, ar_hf, ar_slA, upO_some, upO_none, sX_t, sX_c, sX_f, sXs, sXO, sXP, fin_t, fin_t2, fin_t3, up_same, up_ne, ne_eq, not_false_eq_true, AVal.bool.injEq, decide_eq_true_eq, decide_eq_false_iff_not, Int.ofNat_eq_natCast, Int.reduceNegSucc, Int.cast_ofNat_Int, reduceCtorEq, bin_lss, bin_leq, bin_gtr, bin_geq, bin_eql, bin_neq, bin_add, bin_sub, bin_mul, Bool.not_eq_true', Bool.not_eq_false', Bool.true_eq_false, Bool.false_eq_true, Nat.reduceEqDiff, ↓reduceIte, if_true, if_false, Nat.reduceAdd, Int.reduceEq, Int.reduceLT, Int.reduceLE, h0]
    refine (all_spec says_val hG s (by omega)).mono ?_
    rintro v _ ⟨rfl, rfl⟩
    cases ha : s.all valB with
    | false =>
      simp only [pf_min, undef_bool, str_len, str_eql, str_neq, conv_in, un_not, eq_self, decide_true, decide_false, Bool.not_true, Bool.not_false, argE_0, argE_1, argE_2, argE_3, argE_4, aw_skip, aw_reg, aw_seq, aw_cond, aw_block, aw_exit, aw_ret, inSeq_normal, inSeq_exit, inSeq_ret, inBlk_exit, inBlk_normal, inBlk_ret, OptK_some, OptH_some, OptS_some, kont_app, ar_nil, ar_guard, ar_mv, ar_pick, ar_new, ar_box, ar_build, ar_buildSl, ar_load, ar_store, ar_nilChk, ar_bin, ar_un, ar_conv, ar_convSB, ar_convBS, ar_mkFunc, ar_mkIface, ar_mkSlice, ar_sl, ar_slStr, ar_fieldA, ar_field, ar_idxA, ar_idxArr, ar_idx, ar_idxS, ar_extract, ar_append, ar_len, ar_call, ar_callv, callvP_func, List.nil_append, List.cons_append, List.append_nil, ar_pf, ar_hf, ar_slA, upO_some, upO_none, sX_t, sX_c, sX_f, sXs, sXO, sXP, fin_t, fin_t2, fin_t3, up_same, up_ne, ne_eq, not_false_eq_true, AVal.bool.injEq, decide_eq_true_eq, decide_eq_false_iff_not, Int.ofNat_eq_natCast, Int.reduceNegSucc, Int.cast_ofNat_Int, reduceCtorEq, bin_lss, bin_leq, bin_gtr, bin_geq, bin_eql, bin_neq, bin_add, bin_sub, bin_mul, Bool.not_eq_true', Bool.not_eq_false', Bool.true_eq_false, Bool.false_eq_true, Nat.reduceEqDiff, ↓reduceIte, if_true, if_false, Nat.reduceAdd, Int.reduceEq, Int.reduceLT, Int.reduceLE]
      exact ⟨by simp, (by first | trivial | rfl | assumption)⟩
    | true =>
      have i0 : aIdxS (.str s) (.int .i64 0) = some (by8 b) := str_idx (i := 0) hb .i64
      simp only [pf_min, undef_bool, str_len, str_eql, str_neq, conv_in, un_not, eq_self, decide_true, decide_false, Bool.not_true, Bool.not_false, argE_0, argE_1, argE_2, argE_3, argE_4, aw_skip, aw_reg, aw_seq, aw_cond, aw_block, aw_exit, aw_ret, inSeq_normal, inSeq_exit, inSeq_ret, inBlk_exit, inBlk_normal, inBlk_ret, OptK_some, OptH_some, OptS_some, kont_app, ar_nil, ar_guard, ar_mv, ar_pick, ar_new, ar_box, ar_build, ar_buildSl, ar_load, ar_store, ar_nilChk, ar_bin, ar_un, ar_conv, ar_convSB, ar_convBS, ar_mkFunc, ar_mkIface, ar_mkSlice, ar_sl, ar_slStr, ar_fieldA, ar_field, ar_idxA, ar_idxArr, ar_idx, ar_idxS, ar_extract, ar_append, ar_len, ar_call, ar_callv, callvP_func, List.nil_append, List.cons_append, List.append_nil, ar_pf, ar_hf, ar_slA, upO_some, upO_none, sX_t, sX_c, sX_f, sXs, sXO, sXP, fin_t, fin_t2, fin_t3, up_same, up_ne, ne_eq, not_false_eq_true, AVal.bool.injEq, decide_eq_true_eq, decide_eq_false_iff_not, Int.ofNat_eq_natCast, Int.reduceNegSucc, Int.cast_ofNat_Int, reduceCtorEq, bin_lss, bin_leq, bin_gtr, bin_geq, bin_eql, bin_neq, bin_add, bin_sub, bin_mul, Bool.not_eq_true', Bool.not_eq_false', Bool.true_eq_false, Bool.false_eq_true, Nat.reduceEqDiff, ↓reduceIte, if_true, if_false, Nat.reduceAdd, Int.reduceEq, Int.reduceLT, Int.reduceLE, i0]
      refine (says_blk b H hG).mono ?_
      rintro v _ ⟨rfl, rfl⟩
      cases hbb : blk b with
      | true =>
        simp only [pf_min, undef_bool, str_len, str_eql, str_neq, conv_in, un_not, eq_self, decide_true, decide_false, Bool.not_true, Bool.not_false, argE_0, argE_1, argE_2, argE_3, argE_4, aw_skip, aw_reg, aw_seq, aw_cond, aw_block, aw_exit, aw_ret, inSeq_normal, inSeq_exit, inSeq_ret, inBlk_exit, inBlk_normal, inBlk_ret, OptK_some, OptH_some, OptS_some, kont_app, ar_nil, ar_guard, ar_mv, ar_pick, ar_new, ar_box, ar_build, ar_buildSl, ar_load, ar_store, ar_nilChk, ar_bin, ar_un, ar_conv, ar_convSB, ar_convBS, ar_mkFunc, ar_mkIface, ar_mkSlice, ar_sl, ar_slStr, ar_fieldA, ar_field, ar_idxA, ar_idxArr, ar_idx, ar_idxS, ar_extract, ar_append, ar_len, ar_call, ar_callv, callvP_func, List.nil_append, List.cons_append, List.append_nil, ar_pf, ar_hf, ar_slA, upO_some, upO_none, sX_t, sX_c, sX_f, sXs, sXO, sXP, fin_t, fin_t2, fin_t3, up_same, up_ne, ne_eq, not_false_eq_true, AVal.bool.injEq, decide_eq_true_eq, decide_eq_false_iff_not, Int.ofNat_eq_natCast, Int.reduceNegSucc, Int.cast_ofNat_Int, reduceCtorEq, bin_lss, bin_leq, bin_gtr, bin_geq, bin_eql, bin_neq, bin_add, bin_sub, bin_mul, Bool.not_eq_true', Bool.not_eq_false', Bool.true_eq_false, Bool.false_eq_true, Nat.reduceEqDiff, ↓reduceIte, if_true, if_false, Nat.reduceAdd, Int.reduceEq, Int.reduceLT, Int.reduceLE]
        exact ⟨by simp, (by first | trivial | rfl | assumption)⟩
      | false =>
        have w1 : IntKind.i64.wrap ((s.length : Int) - 1) = ((s.length - 1 : Nat) : Int) := by
          rw [wrap64 (by omega) (by omega)]; omega
        simp only [pf_min, undef_bool, str_len, str_eql, str_neq, conv_in, un_not, eq_self, decide_true, decide_false, Bool.not_true, Bool.not_false, argE_0, argE_1, argE_2, argE_3, argE_4, aw_skip, aw_reg, aw_seq, aw_cond, aw_block, aw_exit, aw_ret, inSeq_normal, inSeq_exit, inSeq_ret, inBlk_exit, inBlk_normal, inBlk_ret, OptK_some, OptH_some, OptS_some, kont_app, ar_nil, ar_guard, ar_mv, ar_pick, ar_new, ar_box, ar_build, ar_buildSl, ar_load, ar_store, ar_nilChk, ar_bin, ar_un, ar_conv, ar_convSB, ar_convBS, ar_mkFunc, ar_mkIface, ar_mkSlice, ar_sl, ar_slStr, ar_fieldA, ar_field, ar_idxA, ar_idxArr, ar_idx, ar_idxS, ar_extract, ar_append, ar_len, ar_call, ar_callv, callvP_func, List.nil_append, List.cons_append, List.append_nil, ar_pf, ar_hf, ar_slA, upO_some, upO_none, sX_t, sX_c, sX_f, sXs, sXO, sXP, fin_t, fin_t2, fin_t3, up_same, up_ne, ne_eq, not_false_eq_true, AVal.bool.injEq, decide_eq_true_eq, decide_eq_false_iff_not, Int.ofNat_eq_natCast, Int.reduceNegSucc, Int.cast_ofNat_Int, reduceCtorEq, bin_lss, bin_leq, bin_gtr, bin_geq, bin_eql, bin_neq, bin_add, bin_sub, bin_mul, Bool.not_eq_true', Bool.not_eq_false', Bool.true_eq_false, Bool.false_eq_true, Nat.reduceEqDiff, ↓reduceIte, if_true, if_false, Nat.reduceAdd, Int.reduceEq, Int.reduceLT, Int.reduceLE, w1, str_idx hl]
        refine (says_blk l H hG).mono ?_
        rintro v _ ⟨rfl, rfl⟩
        simp only [pf_min, undef_bool, str_len, str_eql, str_neq, conv_in, un_not, eq_self, decide_true, decide_false, Bool.not_true, Bool.not_false, argE_0, argE_1, argE_2, argE_3, argE_4, aw_skip, aw_reg, aw_seq, aw_cond, aw_block, aw_exit, aw_ret, inSeq_normal, inSeq_exit, inSeq_ret, inBlk_exit, inBlk_normal, inBlk_ret, OptK_some, OptH_some, OptS_some, kont_app, ar_nil, ar_guard, ar_mv, ar_pick, ar_new, ar_box, ar_build, ar_buildSl, ar_load, ar_store, ar_nilChk, ar_bin, ar_un, ar_conv, ar_convSB, ar_convBS, ar_mkFunc, ar_mkIface, ar_mkSlice, ar_sl, ar_slStr, ar_fieldA, ar_field, ar_idxA, ar_idxArr, ar_idx, ar_idxS, ar_extract, ar_append, ar_len, ar_call, ar_callv, callvP_func, List.nil_append, List.cons_append, List.append_nil, ar_pf, ar_hf, ar_slA, upO_some, upO_none, sX_t, sX_c, sX_f, sXs, sXO, sXP, fin_t, fin_t2, fin_t3, up_same, up_ne, ne_eq, not_false_eq_true, AVal.bool.injEq, decide_eq_true_eq, decide_eq_false_iff_not, Int.ofNat_eq_natCast, Int.reduceNegSucc, Int.cast_ofNat_Int, reduceCtorEq, bin_lss, bin_leq, bin_gtr, bin_geq, bin_eql, bin_neq, bin_add, bin_sub, bin_mul, Bool.not_eq_true', Bool.not_eq_false', Bool.true_eq_false, Bool.false_eq_true, Nat.reduceEqDiff, ↓reduceIte, if_true, if_false, Nat.reduceAdd, Int.reduceEq, Int.reduceLT, Int.reduceLE]
        exact ⟨by simp, (by first | trivial | rfl | assumption)⟩
/-- how long headers may be here -/
structure Sm (l : List (Bs × Bs)) : Prop where
  n : l.length ≤ 60
  e : ∀ p ∈ l, p.1.length + p.2.length ≤ 200
theorem check_spec {n : Nat} {H : AHeap} (hG : GG H) {s : AVal} {l : List (Bs × Bs)} (hl : Prs n H s l) (h4 : 4 ≤ n) (hn : n ≤ H.next) (hS : Sm l) :
    ACalls Tryd.prog natR 25 [s] H fun v H' => v = .int .i64 (checkF l : Int) ∧ Ext H.next H H' := by
  refine acalls_ofN rfl za25 rfl ?_
  have hln := hS.n
  by_cases h40 : 40 < l.length
  · have h40' : (40 : Int) < (l.length : Int) := by omega
    simp only [c25, pf_min, undef_bool, str_len, str_eql, str_neq, conv_in, un_not, eq_self, decide_true, decide_false, Bool.not_true, Bool.not_false, argE_0, argE_1, argE_2, argE_3, argE_4, aw_skip, aw_reg, aw_seq, aw_cond, aw_block, aw_exit, aw_ret, inSeq_normal, inSeq_exit, inSeq_ret, inBlk_exit, inBlk_normal, inBlk_ret, OptK_some, OptH_some, OptS_some, kont_app, ar_nil, ar_guard, ar_mv, ar_pick, ar_new, ar_box, ar_build, ar_buildSl, ar_load, ar_store, ar_nilChk, ar_bin, ar_un, ar_conv, ar_convSB, ar_convBS, ar_mkFunc, ar_mkIface, ar_mkSlice, ar_sl, ar_slStr, ar_fieldA, ar_field, ar_idxA, ar_idxArr, ar_idx, ar_idxS, ar_extract, ar_append, ar_len, ar_call, ar_callv, callvP_func, List.nil_append, List.cons_append, List.append_nil, ar_pf, ar_hf, ar_slA, upO_some, upO_none, sX_t, sX_c, sX_f, sXs, sXO, sXP, fin_t, fin_t2, fin_t3, up_same, up_ne, ne_eq, not_false_eq_true, AVal.bool.injEq, decide_eq_true_eq, decide_eq_false_iff_not, Int.ofNat_eq_natCast, Int.reduceNegSucc, Int.cast_ofNat_Int, reduceCtorEq, bin_lss, bin_leq, bin_gtr, bin_geq, bin_eql, bin_neq, bin_add, bin_sub, bin_mul, Bool.not_eq_true', Bool.not_eq_false', Bool.true_eq_false, Bool.false_eq_true, Nat.reduceEqDiff, ↓reduceIte, if_true, if_false, Nat.reduceAdd, Int.reduceEq, Int.reduceLT, Int.reduceLE, hl.len, h40']
    exact ⟨by simp [checkF, h40], Ext.refl _ _⟩
  · have h40' : ¬ (40 : Int) < (l.length : Int) := by omega
    simp only [c25, pf_min, undef_bool, str_len, str_eql, str_neq, conv_in, un_not, eq_self, decide_true, decide_false, Bool.not_true, Bool.not_false, argE_0, argE_1, argE_2, argE_3, argE_4, aw_skip, aw_reg, aw_seq, aw_cond, aw_block, aw_exit, aw_ret, inSeq_normal, inSeq_exit, inSeq_ret, inBlk_exit, inBlk_normal, inBlk_ret, OptK_some, OptH_some, OptS_some, kont_app, ar_nil, ar_guard, ar_mv, ar_pick, ar_new, ar_box, ar_build, ar_buildSl, ar_load, ar_store, ar_nilChk, ar_bin, ar_un, ar_conv, ar_convSB, ar_convBS, ar_mkFunc, ar_mkIface, ar_mkSlice, ar_sl, ar_slStr, ar_fieldA, ar_field, ar_idxA, ar_idxArr, ar_idx, ar_idxS, ar_extract, ar_append, ar_len, ar_call, ar_callv, callvP_func, List.nil_append, List.cons_append, List.append_nil, ar_pf, ar_hf, ar_slA, upO_some, upO_none, sX_t, sX_c, sX_f, sXs, sXO, sXP, fin_t, fin_t2, fin_t3, up_same, up_ne, ne_eq, not_false_eq_true, AVal.bool.injEq, decide_eq_true_eq, decide_eq_false_iff_not, Int.ofNat_eq_natCast, Int.reduceNegSucc, Int.cast_ofNat_Int, reduceCtorEq, bin_lss, bin_leq, bin_gtr, bin_geq, bin_eql, bin_neq, bin_add, bin_sub, bin_mul, Bool.not_eq_true', Bool.not_eq_false', Bool.true_eq_false, Bool.false_eq_true, Nat.reduceEqDiff, ↓reduceIte, if_true, if_false, Nat.reduceAdd, Int.reduceEq, Int.reduceLT, Int.reduceLE, hl.len, h40']
    refine aw_loop (fun q (T : Env) H' => ∃ j : Nat, j ≤ l.length ∧ q = l.length - j ∧ T 8 = s ∧ T 9 = .int .i64 (l.length : Int) ∧ T 10 = .int .i64 (j : Int) ∧ (l.take j).all hdrB = true ∧ Ext H.next H H') l.length
      ⟨0, Nat.zero_le _, rfl, by simp only [pf_min, undef_bool, str_len, str_eql, str_neq, conv_in, un_not, eq_self, decide_true, decide_false, Bool.not_true, Bool.not_false, argE_0, argE_1, argE_2, argE_3, argE_4, aw_skip, aw_reg, aw_seq, aw_cond, aw_block, aw_exit, aw_ret, inSeq_normal, inSeq_exit, inSeq_ret, inBlk_exit, inBlk_normal, inBlk_ret, OptK_some, OptH_some, OptS_some, kont_app, ar_nil, ar_guard, ar_mv, ar_pick, ar_new, ar_box, ar_build, ar_buildSl, ar_load, ar_store, ar_nilChk, ar_bin, ar_un, ar_conv, ar_convSB, ar_convBS, ar_mkFunc, ar_mkIface, ar_mkSlice, ar_sl, ar_slStr, ar_fieldA, ar_field, ar_idxA, ar_idxArr, ar_idx, ar_idxS, ar_extract, ar_append, ar_len, ar_call, ar_callv, callvP_func, List.nil_append, List.cons_append, List.append_nil, ar_pf, ar_hf, ar_slA, upO_some, upO_none, sX_t, sX_c, sX_f, sXs, sXO, sXP, fin_t, fin_t2, fin_t3, up_same, up_ne, ne_eq, not_false_eq_true, AVal.bool.injEq, decide_eq_true_eq, decide_eq_false_iff_not, Int.ofNat_eq_natCast, Int.reduceNegSucc, Int.cast_ofNat_Int, reduceCtorEq, bin_lss, bin_leq, bin_gtr, bin_geq, bin_eql, bin_neq, bin_add, bin_sub, bin_mul, Bool.not_eq_true', Bool.not_eq_false', Bool.true_eq_false, Bool.false_eq_true, Nat.reduceEqDiff, ↓reduceIte, if_true, if_false, Nat.reduceAdd, Int.reduceEq, Int.reduceLT, Int.reduceLE]; try rfl, by simp only [pf_min, undef_bool, str_len, str_eql, str_neq, conv_in, un_not, eq_self, decide_true, decide_false, Bool.not_true, Bool.not_false, argE_0, argE_1, argE_2, argE_3, argE_4, aw_skip, aw_reg, aw_seq, aw_cond, aw_block, aw_exit, aw_ret, inSeq_normal, inSeq_exit, inSeq_ret, inBlk_exit, inBlk_normal, inBlk_ret, OptK_some, OptH_some, OptS_some, kont_app, ar_nil, ar_guard, ar_mv, ar_pick, ar_new, ar_box, ar_build, ar_buildSl, ar_load, ar_store, ar_nilChk, ar_bin, ar_un, ar_conv, ar_convSB, ar_convBS, ar_mkFunc, ar_mkIface, ar_mkSlice, ar_sl, ar_slStr, ar_fieldA, ar_field, ar_idxA, ar_idxArr, ar_idx, ar_idxS, ar_extract, ar_append, ar_len, ar_call, ar_callv, callvP_func, List.nil_append, List.cons_append, List.append_nil, ar_pf, ar_hf, ar_slA, upO_some, upO_none, sX_t, sX_c, sX_f, sXs, sXO, sXP, fin_t, fin_t2, fin_t3, up_same, up_ne, ne_eq, not_false_eq_true, AVal.bool.injEq, decide_eq_true_eq, decide_eq_false_iff_not, Int.ofNat_eq_natCast, Int.reduceNegSucc, Int.cast_ofNat_Int, reduceCtorEq, bin_lss, bin_leq, bin_gtr, bin_geq, bin_eql, bin_neq, bin_add, bin_sub, bin_mul, Bool.not_eq_true', Bool.not_eq_false', Bool.true_eq_false, Bool.false_eq_true, Nat.reduceEqDiff, ↓reduceIte, if_true, if_false, Nat.reduceAdd, Int.reduceEq, Int.reduceLT, Int.reduceLE]; try rfl, by simp only [pf_min, undef_bool, str_len, str_eql, str_neq, conv_in, un_not, eq_self, decide_true, decide_false, Bool.not_true, Bool.not_false, argE_0, argE_1, argE_2, argE_3, argE_4, aw_skip, aw_reg, aw_seq, aw_cond, aw_block, aw_exit, aw_ret, inSeq_normal, inSeq_exit, inSeq_ret, inBlk_exit, inBlk_normal, inBlk_ret, OptK_some, OptH_some, OptS_some, kont_app, ar_nil, ar_guard, ar_mv, ar_pick, ar_new, ar_box, ar_build, ar_buildSl, ar_load, ar_store, ar_nilChk, ar_bin, ar_un, ar_conv, ar_convSB, ar_convBS, ar_mkFunc, ar_mkIface, ar_mkSlice, ar_sl, ar_slStr, ar_fieldA, ar_field, ar_idxA, ar_idxArr, ar_idx, ar_idxS, ar_extract, ar_append, ar_len, ar_call, ar_callv, callvP_func, List.nil_append, List.cons_append, List.append_nil, ar_pf, ar_hf, ar_slA, upO_some, upO_none, sX_t, sX_c, sX_f, sXs, sXO, sXP, fin_t, fin_t2, fin_t3, up_same, up_ne, ne_eq, not_false_eq_true, AVal.bool.injEq, decide_eq_true_eq, decide_eq_false_iff_not, Int.ofNat_eq_natCast, Int.reduceNegSucc, Int.cast_ofNat_Int, reduceCtorEq, bin_lss, bin_leq, bin_gtr, bin_geq, bin_eql, bin_neq, bin_add, bin_sub, bin_mul, Bool.not_eq_true', Bool.not_eq_false', Bool.true_eq_false, Bool.false_eq_true, Nat.reduceEqDiff, ↓reduceIte, if_true, if_false, Nat.reduceAdd, Int.reduceEq, Int.reduceLT, Int.reduceLE]; try rfl, rfl, Ext.refl _ _⟩ ?_
    rintro q T H' ⟨j, hj, rfl, g8, g9, g10, hA, E⟩
    by_cases hlt : j < l.length
    · have hlt' : (j : Int) < (l.length : Int) := by omega
      obtain ⟨p, hp⟩ := isSome_of_lt hlt
      have hpm := List.mem_of_getElem? hp
      have hpe := hS.e p hpm
      obtain ⟨a, m1, m2, _⟩ := (hl.ext (E.less hn)).at hp
      obtain ⟨H1, m3, r1, k1, o1⟩ := row_newL H' [.str [], .str []] (n := 2) rfl
      obtain ⟨H2, m4, r2, k2, o2⟩ := row_storeN r1 (n := 2) rfl (xs := [.str p.1, .str p.2]) rfl rfl
      have E2 : Ext H.next H H2 := ⟨by have := E.next; omega, fun c hc => by rw [o2 _ (by have := E.next; omega), o1 _ (by have := E.next; omega), E.old c hc]⟩
      have G2 : GG H2 := hG.ext hG.nx E2
      simp only [pf_min, undef_bool, str_len, str_eql, str_neq, conv_in, un_not, eq_self, decide_true, decide_false, Bool.not_true, Bool.not_false, argE_0, argE_1, argE_2, argE_3, argE_4, aw_skip, aw_reg, aw_seq, aw_cond, aw_block, aw_exit, aw_ret, inSeq_normal, inSeq_exit, inSeq_ret, inBlk_exit, inBlk_normal, inBlk_ret, OptK_some, OptH_some, OptS_some, kont_app, ar_nil, ar_guard, ar_mv, ar_pick, ar_new, ar_box, ar_build, ar_buildSl, ar_load, ar_store, ar_nilChk, ar_bin, ar_un, ar_conv, ar_convSB, ar_convBS, ar_mkFunc, ar_mkIface, ar_mkSlice, ar_sl, ar_slStr, ar_fieldA, ar_field, ar_idxA, ar_idxArr, ar_idx, ar_idxS, ar_extract, ar_append, ar_len, ar_call, ar_callv, callvP_func, List.nil_append, List.cons_append, List.append_nil, ar_pf, ar_hf, ar_slA, upO_some, upO_none, sX_t, sX_c, sX_f, sXs, sXO, sXP, fin_t, fin_t2, fin_t3, up_same, up_ne, ne_eq, not_false_eq_true, AVal.bool.injEq, decide_eq_true_eq, decide_eq_false_iff_not, Int.ofNat_eq_natCast, Int.reduceNegSucc, Int.cast_ofNat_Int, reduceCtorEq, bin_lss, bin_leq, bin_gtr, bin_geq, bin_eql, bin_neq, bin_add, bin_sub, bin_mul, Bool.not_eq_true', Bool.not_eq_false', Bool.true_eq_false, Bool.false_eq_true, Nat.reduceEqDiff, ↓reduceIte, if_true, if_false, Nat.reduceAdd, Int.reduceEq, Int.reduceLT, Int.reduceLE, g8, g9, g10, hlt', m1, m2, m3, m4, fld0, row_load r2 (n := 2) rfl (i := 0) rfl]
      refine (name_spec G2 p.1 (by omega)).mono ?_
      rintro v _ ⟨rfl, rfl⟩
      have no : hdrB p = false → checkF l = 21 := fun h => by
        have : l.all hdrB = false := by
          rw [Bool.eq_false_iff]
          intro h'
          have := List.all_eq_true.1 h' p hpm
          rw [h] at this; simp at this
        simp [checkF, h40, this]
      cases hnm : nameB p.1 with
      | false =>
        simp only [pf_min, undef_bool, str_len, str_eql, str_neq, conv_in, un_not, eq_self, decide_true, decide_false, Bool.not_true, Bool.not_false, argE_0, argE_1, argE_2, argE_3, argE_4, aw_skip, aw_reg, aw_seq, aw_cond, aw_block, aw_exit, aw_ret, inSeq_normal, inSeq_exit, inSeq_ret, inBlk_exit, inBlk_normal, inBlk_ret, OptK_some, OptH_some, OptS_some, kont_app, ar_nil, ar_guard, ar_mv, ar_pick, ar_new, ar_box, ar_build, ar_buildSl, ar_load, ar_store, ar_nilChk, ar_bin, ar_un, ar_conv, ar_convSB, ar_convBS, ar_mkFunc, ar_mkIface, ar_mkSlice, ar_sl, ar_slStr, ar_fieldA, ar_field, ar_idxA, ar_idxArr, ar_idx, ar_idxS, ar_extract, ar_append, ar_len, ar_call, ar_callv, callvP_func, List.nil_append, List.cons_append, List.append_nil, ar_pf, ar_hf, ar_slA, upO_some, upO_none, sX_t, sX_c, sX_f, sXs, sXO, sXP, fin_t, fin_t2, fin_t3, up_same, up_ne, ne_eq, not_false_eq_true, AVal.bool.injEq, decide_eq_true_eq, decide_eq_false_iff_not, Int.ofNat_eq_natCast, Int.reduceNegSucc, Int.cast_ofNat_Int, reduceCtorEq, bin_lss, bin_leq, bin_gtr, bin_geq, bin_eql, bin_neq, bin_add, bin_sub, bin_mul, Bool.not_eq_true', Bool.not_eq_false', Bool.true_eq_false, Bool.false_eq_true, Nat.reduceEqDiff, ↓reduceIte, if_true, if_false, Nat.reduceAdd, Int.reduceEq, Int.reduceLT, Int.reduceLE, g8, g9, g10]
        exact ⟨by rw [no (by simp [hdrB, hnm])]; rfl, E2⟩
      | true =>
        simp only [pf_min, undef_bool, str_len, str_eql, str_neq, conv_in, un_not, eq_self, decide_true, decide_false, Bool.not_true, Bool.not_false, argE_0, argE_1, argE_2, argE_3, argE_4, aw_skip, aw_reg, aw_seq, aw_cond, aw_block, aw_exit, aw_ret, inSeq_normal, inSeq_exit, inSeq_ret, inBlk_exit, inBlk_normal, inBlk_ret, OptK_some, OptH_some, OptS_some, kont_app, ar_nil, ar_guard, ar_mv, ar_pick, ar_new, ar_box, ar_build, ar_buildSl, ar_load, ar_store, ar_nilChk, ar_bin, ar_un, ar_conv, ar_convSB, ar_convBS, ar_mkFunc, ar_mkIface, ar_mkSlice, ar_sl, ar_slStr, ar_fieldA, ar_field, ar_idxA, ar_idxArr, ar_idx, ar_idxS, ar_extract, ar_append, ar_len, ar_call, ar_callv, callvP_func, List.nil_append, List.cons_append, List.append_nil, ar_pf, ar_hf, ar_slA, upO_some, upO_none, sX_t, sX_c, sX_f, sXs, sXO, sXP, fin_t, fin_t2, fin_t3, up_same, up_ne, ne_eq, not_false_eq_true, AVal.bool.injEq, decide_eq_true_eq, decide_eq_false_iff_not, Int.ofNat_eq_natCast, Int.reduceNegSucc, Int.cast_ofNat_Int, reduceCtorEq, bin_lss, bin_leq, bin_gtr, bin_geq, bin_eql, bin_neq, bin_add, bin_sub, bin_mul, Bool.not_eq_true', Bool.not_eq_false', Bool.true_eq_false, Bool.false_eq_true, Nat.reduceEqDiff, ↓reduceIte, if_true, if_false, Nat.reduceAdd, Int.reduceEq, Int.reduceLT, Int.reduceLE, g8, g9, g10, fld0, row_load r2 (n := 2) rfl (i := 1) rfl]
        refine (value_spec G2 p.2 (by omega)).mono ?_
        rintro v _ ⟨rfl, rfl⟩
        cases hvl : valueB p.2 with
        | false =>
          simp only [pf_min, undef_bool, str_len, str_eql, str_neq, conv_in, un_not, eq_self, decide_true, decide_false, Bool.not_true, Bool.not_false, argE_0, argE_1, argE_2, argE_3, argE_4, aw_skip, aw_reg, aw_seq, aw_cond, aw_block, aw_exit, aw_ret, inSeq_normal, inSeq_exit, inSeq_ret, inBlk_exit, inBlk_normal, inBlk_ret, OptK_some, OptH_some, OptS_some, kont_app, ar_nil, ar_guard, ar_mv, ar_pick, ar_new, ar_box, ar_build, ar_buildSl, ar_load, ar_store, ar_nilChk, ar_bin, ar_un, ar_conv, ar_convSB, ar_convBS, ar_mkFunc, ar_mkIface, ar_mkSlice, ar_sl, ar_slStr, ar_fieldA, ar_field, ar_idxA, ar_idxArr, ar_idx, ar_idxS, ar_extract, ar_append, ar_len, ar_call, ar_callv, callvP_func, List.nil_append, List.cons_append, List.append_nil, ar_pf, ar_hf, ar_slA, upO_some, upO_none, sX_t, sX_c, sX_f, sXs, sXO, sXP, fin_t, fin_t2, fin_t3, up_same, up_ne, ne_eq, not_false_eq_true, AVal.bool.injEq, decide_eq_true_eq, decide_eq_false_iff_not, Int.ofNat_eq_natCast, Int.reduceNegSucc, Int.cast_ofNat_Int, reduceCtorEq, bin_lss, bin_leq, bin_gtr, bin_geq, bin_eql, bin_neq, bin_add, bin_sub, bin_mul, Bool.not_eq_true', Bool.not_eq_false', Bool.true_eq_false, Bool.false_eq_true, Nat.reduceEqDiff, ↓reduceIte, if_true, if_false, Nat.reduceAdd, Int.reduceEq, Int.reduceLT, Int.reduceLE, g8, g9, g10]
          exact ⟨by rw [no (by simp [hdrB, hvl])]; rfl, E2⟩
        | true =>
          simp only [pf_min, undef_bool, str_len, str_eql, str_neq, conv_in, un_not, eq_self, decide_true, decide_false, Bool.not_true, Bool.not_false, argE_0, argE_1, argE_2, argE_3, argE_4, aw_skip, aw_reg, aw_seq, aw_cond, aw_block, aw_exit, aw_ret, inSeq_normal, inSeq_exit, inSeq_ret, inBlk_exit, inBlk_normal, inBlk_ret, OptK_some, OptH_some, OptS_some, kont_app, ar_nil, ar_guard, ar_mv, ar_pick, ar_new, ar_box, ar_build, ar_buildSl, ar_load, ar_store, ar_nilChk, ar_bin, ar_un, ar_conv, ar_convSB, ar_convBS, ar_mkFunc, ar_mkIface, ar_mkSlice, ar_sl, ar_slStr, ar_fieldA, ar_field, ar_idxA, ar_idxArr, ar_idx, ar_idxS, ar_extract, ar_append, ar_len, ar_call, ar_callv, callvP_func, List.nil_append, List.cons_append, List.append_nil, ar_pf, ar_hf, ar_slA, upO_some, upO_none, sX_t, sX_c, sX_f, sXs, sXO, sXP, fin_t, fin_t2, fin_t3, up_same, up_ne, ne_eq, not_false_eq_true, AVal.bool.injEq, decide_eq_true_eq, decide_eq_false_iff_not, Int.ofNat_eq_natCast, Int.reduceNegSucc, Int.cast_ofNat_Int, reduceCtorEq, bin_lss, bin_leq, bin_gtr, bin_geq, bin_eql, bin_neq, bin_add, bin_sub, bin_mul, Bool.not_eq_true', Bool.not_eq_false', Bool.true_eq_false, Bool.false_eq_true, Nat.reduceEqDiff, ↓reduceIte, if_true, if_false, Nat.reduceAdd, Int.reduceEq, Int.reduceLT, Int.reduceLE, g8, g9, g10, wrap1 j (by omega)]
          refine ⟨_, by omega, j + 1, by omega, rfl, (by first | trivial | rfl | assumption), (by first | trivial | rfl | assumption), (by first | trivial | rfl | assumption), ?_, E2⟩
          rw [List.take_add_one, hp, List.all_append, hA]; simp [hdrB, hnm, hvl]
    · have hlt' : ¬ (j : Int) < (l.length : Int) := by omega
      rw [List.take_of_length_le (by omega)] at hA
      simp only [pf_min, undef_bool, str_len, str_eql, str_neq, conv_in, un_not, eq_self, decide_true, decide_false, Bool.not_true, Bool.not_false, argE_0, argE_1, argE_2, argE_3, argE_4, aw_skip, aw_reg, aw_seq, aw_cond, aw_block, aw_exit, aw_ret, inSeq_normal, inSeq_exit, inSeq_ret, inBlk_exit, inBlk_normal, inBlk_ret, OptK_some, OptH_some, OptS_some, kont_app, ar_nil, ar_guard, ar_mv, ar_pick, ar_new, ar_box, ar_build, ar_buildSl, ar_load, ar_store, ar_nilChk, ar_bin, ar_un, ar_conv, ar_convSB, ar_convBS, ar_mkFunc, ar_mkIface, ar_mkSlice, ar_sl, ar_slStr, ar_fieldA, ar_field, ar_idxA, ar_idxArr, ar_idx, ar_idxS, ar_extract, ar_append, ar_len, ar_call, ar_callv, callvP_func, List.nil_append, List.cons_append, List.append_nil, ar_pf, ar_hf, ar_slA, upO_some, upO_none, sX_t, sX_c, sX_f, sXs, sXO, sXP, fin_t, fin_t2, fin_t3, up_same, up_ne, ne_eq, not_false_eq_true, AVal.bool.injEq, decide_eq_true_eq, decide_eq_false_iff_not, Int.ofNat_eq_natCast, Int.reduceNegSucc, Int.cast_ofNat_Int, reduceCtorEq, bin_lss, bin_leq, bin_gtr, bin_geq, bin_eql, bin_neq, bin_add, bin_sub, bin_mul, Bool.not_eq_true', Bool.not_eq_false', Bool.true_eq_false, Bool.false_eq_true, Nat.reduceEqDiff, ↓reduceIte, if_true, if_false, Nat.reduceAdd, Int.reduceEq, Int.reduceLT, Int.reduceLE, g8, g9, g10, hlt']
      exact ⟨by simp [checkF, h40, hA], E⟩
end Go.Proofs.Re
