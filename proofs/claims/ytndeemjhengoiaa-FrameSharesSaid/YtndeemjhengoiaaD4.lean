/- The abstract machine: regions that draw their order, part 4: the theorem. -/
import Derived.Test.YtndeemjhengoiaaD3b
namespace Go.Abs

def unl (m : Nat → Bool) : Nat → Nat
  | 0 => 0
  | n + 1 => unl m n + (bif m n then 0 else 1)
theorem unl_zero {m : Nat → Bool} : ∀ {n : Nat}, unl m n = 0 → ∀ i, i < n → m i = true
  | 0, _, i, h => by omega
  | n + 1, h, i, hi => by
    simp only [unl] at h
    cases hb : m n with
    | true =>
      by_cases e : i = n
      · rw [e]; exact hb
      · exact unl_zero (n := n) (by rw [hb] at h; simpa using h) i (by omega)
    | false => rw [hb] at h; simp at h
theorem unl_all {m : Nat → Bool} : ∀ {n : Nat}, (∀ i, i < n → m i = true) → unl m n = 0
  | 0, _ => rfl
  | n + 1, h => by simp only [unl, unl_all (n := n) fun i hi => h i (by omega), h n (by omega), cond_true]
theorem unl_same {m m' : Nat → Bool} : ∀ {n : Nat}, (∀ i, i < n → m i = m' i) → unl m n = unl m' n
  | 0, _ => rfl
  | n + 1, h => by simp only [unl, unl_same (n := n) fun i hi => h i (by omega), h n (by omega)]
theorem unl_set {m m' : Nat → Bool} {i : Nat} : ∀ {n : Nat}, i < n → m i = false → m' i = true → (∀ j, j ≠ i → m' j = m j) → unl m' n + 1 = unl m n
  | 0, h, _, _, _ => by omega
  | n + 1, h, h1, h2, h3 => by
    simp only [unl]
    by_cases e : i = n
    · subst e
      rw [h1, h2, unl_same (m := m') (m' := m) fun j hj => h3 j (by omega)]
      simp
    · have := unl_set (n := n) (by omega) h1 h2 h3
      rw [h3 n (fun q => e q.symm)]
      omega

section
variable {tb : FuncId → Bool} {call : FuncId → List AVal → AHeap → Option (AVal × AHeap)}

theorem chk_at {hs : List AHeap} : ∀ (l : List AOper) (pss : List (List Nat)) (ss : List (AVal × AHeap)) (T : Tr AVal) (k : Nat), chkRun tb hs l pss ss T = true →
    ∀ j o ps v H', l[j]? = some o → pss[j]? = some ps → ss[j]? = some (v, H') → ∀ p ∈ ps, ∃ Hp, hs[p]? = some Hp ∧
      (gOK (tsel (fun i => Nat.blt i (k + j)) k l ss T) o.guard = true → ∃ H2, aop tb (tsel (fun i => Nat.blt i (k + j)) k l ss T) Hp o.op = some (.val v, H2)) := by
  intro l
  induction l with
  | nil => intro pss ss T k _ j o ps v H' h; simp at h
  | cons o r ih =>
    intro pss ss T k h j o' ps v H' h1 h2 h3 p hp
    cases pss with
    | nil => simp at h2
    | cons ps0 pss =>
      cases ss with
      | nil => simp at h3
      | cons s ss =>
        obtain ⟨u, H1⟩ := s
        simp only [chkRun, Bool.and_eq_true, List.all_eq_true] at h
        cases j with
        | zero =>
          simp only [List.getElem?_cons_zero, Option.some.injEq, Prod.mk.injEq] at h1 h2 h3
          subst h1 h2
          obtain ⟨rfl, rfl⟩ := h3
          have e : tsel (fun i => Nat.blt i (k + 0)) k (o :: r) ((u, H1) :: ss) T = T := by
            have hn : ∀ (l : List AOper) (ss : List (AVal × AHeap)) (k' : Nat) (T : Tr AVal), k ≤ k' → tsel (fun i => Nat.blt i (k + 0)) k' l ss T = T := by
              intro l
              induction l with
              | nil => intro ss k' T _; cases ss <;> rfl
              | cons o r ih => intro ss k' T hk; cases ss with
                | nil => rfl
                | cons s ss =>
                  obtain ⟨a, b⟩ := s
                  have : Nat.blt k' (k + 0) = false := by
                    cases hb : Nat.blt k' (k + 0) with
                    | false => rfl
                    | true => have := Nat.le_of_ble_eq_true hb; omega
                  simp only [tsel, this, cond_false]
                  exact ih ss (k' + 1) T (by omega)
            exact hn _ _ k T (Nat.le_refl _)
          rw [e]
          have := h.1 p hp
          split at this
          · rename_i Hp hHp
            refine ⟨Hp, hHp, fun hg => ?_⟩
            rw [hg] at this
            simp only [cond_true] at this
            split at this
            · rename_i x H2 hx
              rw [aeq_ok _ _ this] at hx
              exact ⟨H2, hx⟩
            · simp at this
          · simp at this
        | succ j =>
          simp only [List.getElem?_cons_succ] at h1 h2 h3
          have hb : Nat.blt k (k + (j + 1)) = true := by
            show Nat.ble (k + 1) (k + (j + 1)) = true
            exact Nat.ble_eq_true_of_le (by omega)
          simp only [tsel, hb, cond_true]
          rw [show k + (j + 1) = k + 1 + j by omega]
          exact ih pss ss (aput T o.dst u) (k + 1) h.2 j o' ps v H' h1 h2 h3 p hp

/-- a step that is no link of the chain leaves the heap -/
theorem step_same {o : AOper} {T : Tr AVal} {H H' : AHeap} {v : AVal} (hc : isChain o.op = false) (h : astep tb call o T H = some (v, H')) : H' = H := by
  unfold astep at h
  cases hg : gOK T o.guard with
  | false => rw [hg] at h; simp only [cond_false, Option.some.injEq, Prod.mk.injEq] at h; exact h.2.symm
  | true =>
    rw [hg] at h
    simp only [cond_true] at h
    have hk : isPure o.op = true ∨ isLoad o.op = true := by
      unfold isChain at hc
      cases h1 : isPure o.op <;> cases h2 : isLoad o.op <;> simp_all
    split at h
    · rename_i u H1 hu
      simp only [Option.some.injEq, Prod.mk.injEq] at h
      obtain ⟨rfl, rfl⟩ := h
      rcases hk with hk | hk
      · exact (pure_other hk hu).1
      · exact (load_other hk hu).1
    · rename_i f args H1 hu
      rcases hk with hk | hk
      · obtain ⟨_, ⟨v, hv⟩, _⟩ := pure_other hk hu; simp at hv
      · obtain ⟨_, v, hv⟩ := load_other hk hu; simp at hv
    · simp at h

theorem heap_between {l : List AOper} {T0 : Tr AVal} {H0 : AHeap} {ss : List (AVal × AHeap)} (htr : atrace tb call l T0 H0 = some ss) : ∀ (d p : Nat), p + d ≤ l.length → (∀ c o, p ≤ c → c < p + d → l[c]? = some o → isChain o.op = false) → hAt H0 ss (p + d) = hAt H0 ss p := by
  intro d
  induction d with
  | zero => intro p _ _; rfl
  | succ d ih =>
    intro p hp hn
    have h1 := ih p (by omega) fun c o h1 h2 h3 => hn c o h1 (by omega) h3
    obtain ⟨_, hat⟩ := trace_at l T0 H0 ss 0 htr
    have ho : l[p + d]? = some l[p + d] := List.getElem?_eq_getElem (by omega)
    obtain ⟨v, H', q1, q2⟩ := hat _ _ ho
    have := step_same (hn _ _ (by omega) (by omega) ho) q2
    rw [← h1]
    show hAt H0 ss (p + d + 1) = _
    simp only [hAt, q1]
    exact this
end

theorem stage_congr {m m' : Nat → Bool} : ∀ (l : List AOper) (k : Nat), (∀ c o, l[c]? = some o → isChain o.op = true → m (k + c) = m' (k + c)) → stage m k l = stage m' k l := by
  intro l
  induction l with
  | nil => intro k _; rfl
  | cons o r ih =>
    intro k h
    simp only [stage]
    have h1 := ih (k + 1) fun c o' q1 q2 => by rw [show k + 1 + c = k + (c + 1) by omega]; exact h (c + 1) o' (by simpa using q1) q2
    cases hc : isChain o.op with
    | false => simp only [Bool.false_and, cond_false]; exact h1
    | true =>
      have := h 0 o rfl hc
      simp only [Nat.add_zero] at this
      rw [this, h1]

theorem TmpsRel.congr {ρ : Pl} {n : Nat} {T T' : Tr AVal} {tmps : Array Value} (h : ∀ t, T'.get t = T.get t) (r : TmpsRel ρ n T tmps) : TmpsRel ρ n T' tmps :=
  ⟨r.size, fun t => by have := r.at_ t; simp only [ev] at this ⊢; rw [h t]; exact this⟩

section
variable {P : Program} {Prot : Gh} {w0 : World} {tb : FuncId → Bool} {call : FuncId → List AVal → AHeap → Option (AVal × AHeap)}

/-- what is laid aside while the operations of m are done -/
def aside (D : Nat → Prop) (l : List AOper) (m : Nat → Bool) : Nat → Prop := fun d => D d ∨ ∃ (i : Nat) (a : AOper) (z : List AVal), l[i]? = some a ∧ a.op = .claim d z ∧ m i = false

set_option maxHeartbeats 2000000 in
theorem draw_any (htb : ∀ f, tb f = true → hasBody P f = true) (hcall : CallOK P call) {n : Nat} {ops : Array Oper} {l : List AOper} {base : Nat}
    (hlen : l.length = ops.toList.length) (hopers : ∀ (j : Nat) (o : Oper), ops.toList[j]? = some o → ∃ a, l[j]? = some a ∧ (cOper P n ops o = some a ∨ ∃ c, base ≤ c ∧ IsCl P n ops o a c))
    (hbase : ∀ d, Prot.dead d → d < base) (hdis : ∀ (i j : Nat) (a b : AOper) (c : Nat) (z z' : List AVal), l[i]? = some a → l[j]? = some b → a.op = .claim c z → b.op = .claim c z' → i = j) {ms : List Nat}
    (hm : okMask (ops.toList.map bindE) ms = true) (hp : okPairs l ms = true) {T0 : Tr AVal} {H0 : AHeap} {ss : List (AVal × AHeap)} (htr : atrace tb call l T0 H0 = some ss)
    (hck : chkRun tb (H0 :: ss.map (·.2)) l ((List.range l.length).map (chkOf l ms)) ss T0 = true) {ρ0 : Pl} {Q : Exit → Act → World → Prop}
    (hQ : ∀ a w, (∃ ρ, ρ0.le ρ ∧ Rel Prot w0 ρ (hAt H0 ss l.length) w ∧ TmpsRel ρ n (tsel (fun _ => true) 0 l ss T0) a.tmps ∧ a.defers = []) → Q .normal a w) :
    ∀ (fuel : Nat) (listed : Array Bool) (a : Act) (w : World), listed.size = ops.size → unl (fun i => listed.getD i false) ops.size = fuel →
      (∀ j, j < ops.size → listed.getD j false = true → ∀ e ∈ (ops.toList.map bindE).getD j [], listed.getD e false = true) →
      (∃ ρ, ρ0.le ρ ∧ Rel ⟨Prot.prot, aside Prot.dead l fun i => listed.getD i false⟩ w0 ρ (hAt H0 ss (stage (fun i => listed.getD i false) 0 l)) w ∧ TmpsRel ρ n (tsel (fun i => listed.getD i false) 0 l ss T0) a.tmps ∧ a.defers = []) →
      wpAny P .any ops Q fuel listed a w := by
  have hN : l.length = ops.size := by simpa using hlen
  obtain ⟨hsl, hat⟩ := trace_at l T0 H0 ss 0 htr
  have hes : (ops.toList.map bindE).length = ops.size := by simp
  have hpair : ∀ i j a b, i < j → l[i]? = some a → l[j]? = some b → okPair ms i j a b = true := by
    intro i j a b hij hi hj
    unfold okPairs at hp
    rw [List.all_eq_true] at hp
    have hjl := (List.getElem?_eq_some_iff.1 hj).1
    have h1 := hp j (List.mem_range.2 hjl)
    rw [hj] at h1
    simp only at h1
    rw [List.all_eq_true] at h1
    have h2 := h1 i (List.mem_range.2 hij)
    rw [hi] at h2
    exact h2
  intro fuel
  induction fuel with
  | zero =>
    intro listed a w hsz hu _ hinv
    have hall : ∀ i, i < ops.size → listed.getD i false = true := unl_zero hu
    refine ⟨?_, hQ a w ?_⟩
    · unfold Region.ready
      rw [List.filter_eq_nil_iff]
      intro i hi
      have := hall i (List.mem_range.1 hi)
      have e : listed.getD i true = true := by
        rw [Array.getD_eq_getD_getElem?] at this ⊢
        rw [Array.getElem?_eq_getElem (by rw [hsz]; exact List.mem_range.1 hi)] at this ⊢
        simpa using this
      simp [e]
    · obtain ⟨ρ, h1, h2, h3, h4⟩ := hinv
      refine ⟨ρ, h1, ?_, h3.congr fun t => ?_, h4⟩
      · have hs := stage_spec (fun i => listed.getD i false) l 0
        have : stage (fun i => listed.getD i false) 0 l = l.length := by
          obtain ⟨q1, q2, q3, q4⟩ := hs
          rcases Nat.lt_or_ge (stage (fun i => listed.getD i false) 0 l) l.length with q | q
          · have ho : l[stage (fun i => listed.getD i false) 0 l - 0]? = some l[stage (fun i => listed.getD i false) 0 l] := by simp
            have := (q4 _ (by simpa using q) ho).2
            rw [hall _ (by omega)] at this
            simp at this
          · omega
        rw [this] at h2
        exact h2.fewer (D := Prot.dead) fun d hd => .inl hd
      · refine tsel_get l ss 0 T0 T0 rfl fun i o hi _ => ?_
        have := (List.getElem?_eq_some_iff.1 hi).1
        simp only [Nat.zero_add]
        exact (hall i (by omega)).symm
  | succ fuel ih =>
    intro listed a w hsz hu hdown hinv
    obtain ⟨ρ, hle, R, ht, hd⟩ := hinv
    have hml := mask_listed hm (m := fun i => listed.getD i false) (fun j hj hjl e he => hdown j (by omega) hjl e he)
    have hmask : ∀ j, j < ops.size → (∀ e ∈ (ops.toList.map bindE).getD j [], listed.getD e false = true) → ∀ i, i < j → bit ms j i = true → listed.getD i false = true :=
      fun j hj he i hi hb => hml j (by omega) he i hi hb
    refine ⟨fun hnone => ?_, fun i hi => ?_⟩
    · -- there is one that is ready
      exfalso
      have hex : ∃ i, i < ops.size ∧ listed.getD i false = false := by
        rcases Classical.em (∃ i, i < ops.size ∧ listed.getD i false = false) with h | h
        · exact h
        · exfalso
          have : unl (fun i => listed.getD i false) ops.size = 0 := unl_all fun i hi => by
            cases hb : listed.getD i false with
            | true => rfl
            | false => exact (h ⟨i, hi, hb⟩).elim
          omega
      -- the least of them
      have hmin : ∃ i, i < ops.size ∧ listed.getD i false = false ∧ ∀ j, j < i → listed.getD j false = true := by
        obtain ⟨i, hi1, hi2⟩ := hex
        induction i using Nat.strongRecOn with
        | _ i ihm =>
          rcases Classical.em (∃ j, j < i ∧ listed.getD j false = false) with ⟨j, hj, hj2⟩ | h
          · exact ihm j hj (by omega) hj2
          · refine ⟨i, hi1, hi2, fun j hj => ?_⟩
            cases hb : listed.getD j false with
            | true => rfl
            | false => exact (h ⟨j, hj, hb⟩).elim
      obtain ⟨i, hi1, hi2, hi3⟩ := hmin
      have : i ∈ Region.ready .any ops listed := by
        rw [mem_ready]
        refine ⟨?_, ops[i], Array.getElem?_eq_getElem hi1, fun e he hb => ?_⟩
        · rw [Array.getD_eq_getD_getElem?] at hi2 ⊢
          rw [Array.getElem?_eq_getElem (by omega)] at hi2 ⊢
          simpa using hi2
        · refine hi3 _ ?_
          unfold okMask at hm
          rw [List.all_eq_true] at hm
          have h1 := hm i (List.mem_range.2 (by omega))
          simp only [Bool.and_eq_true, List.all_eq_true] at h1
          refine Nat.le_of_ble_eq_true (h1.1 e.on ?_)
          have : (ops.toList.map bindE).getD i [] = bindE ops[i] := by simp [List.getD, hi1]
          rw [this]
          unfold bindE
          rw [List.mem_map]
          exact ⟨e, by rw [List.mem_filter]; exact ⟨by simpa using he, hb⟩, rfl⟩
      rw [hnone] at this
      simp at this
    · obtain ⟨hi1, o, ho, hedge⟩ := mem_ready.1 hi
      have hiN : i < ops.size := (Array.getElem?_eq_some_iff.1 ho).1
      have hmi : listed.getD i false = false := by
        rw [Array.getD_eq_getD_getElem?] at hi1 ⊢
        rw [Array.getElem?_eq_getElem (by omega)] at hi1 ⊢
        simpa using hi1
      obtain ⟨ao, hao, hco⟩ := hopers i o (by simpa using ho)
      have hedges : ∀ e ∈ (ops.toList.map bindE).getD i [], listed.getD e false = true := by
        have : (ops.toList.map bindE).getD i [] = bindE o := by
          have : ops[i] = o := by simpa [Array.getElem?_eq_getElem hiN] using ho
          simp [List.getD, hiN, this]
        rw [this]
        intro e he
        unfold bindE at he
        rw [List.mem_map] at he
        obtain ⟨x, hx, rfl⟩ := he
        rw [List.mem_filter] at hx
        exact hedge x (by simpa using hx.1) hx.2
      -- what comes behind i and hangs on it is not listed
      have hafter : ∀ c b, i < c → l[c]? = some b → bit ms c i = true → listed.getD c false = false := by
        intro c b hc hb hbit
        cases hx : listed.getD c false with
        | false => rfl
        | true =>
          have hcN := (List.getElem?_eq_some_iff.1 hb).1
          have := hmask c (by omega) (hdown c (by omega) hx) i hc hbit
          rw [hmi] at this
          simp at this
      have hagree : ∀ t ∈ readsO ao, (tsel (fun i => listed.getD i false) 0 l ss T0).get t = (tsel (fun j => Nat.blt j (0 + i)) 0 l ss T0).get t := by
        intro t htr'
        refine tsel_get l ss 0 T0 T0 rfl fun c b hc hdst => ?_
        have hcN := (List.getElem?_eq_some_iff.1 hc).1
        simp only [Nat.zero_add]
        rcases Nat.lt_trichotomy c i with h | h | h
        · have e : Nat.blt c i = true := Nat.ble_eq_true_of_le h
          rw [e]
          have hpr := hpair c i b ao h hc hao
          simp only [okPair, Bool.or_eq_true, Bool.and_eq_true] at hpr
          rcases hpr with hpr | ⟨_, hpr⟩
          · exact hmask i hiN hedges c h hpr
          · exfalso
            simp only [disj, hdst, Bool.and_eq_true, Bool.not_eq_true', List.contains_eq_mem, decide_eq_false_iff_not] at hpr
            exact hpr.1.1 htr'
        · subst h
          have e : Nat.blt c c = false := by
            cases hb : Nat.blt c c with
            | false => rfl
            | true => have := Nat.le_of_ble_eq_true hb; omega
          rw [e]; exact hmi
        · have e : Nat.blt c i = false := by
            cases hb : Nat.blt c i with
            | false => rfl
            | true => have := Nat.le_of_ble_eq_true hb; omega
          rw [e]
          have hpr := hpair i c ao b h hao hc
          simp only [okPair, Bool.or_eq_true, Bool.and_eq_true] at hpr
          rcases hpr with hpr | ⟨_, hpr⟩
          · exact hafter c b h hc hpr
          · exfalso
            simp only [disj, hdst, Bool.and_eq_true, Bool.not_eq_true', List.contains_eq_mem, decide_eq_false_iff_not] at hpr
            exact hpr.2 htr'
      have hgd : gOK (tsel (fun i => listed.getD i false) 0 l ss T0) ao.guard = gOK (tsel (fun j => Nat.blt j (0 + i)) 0 l ss T0) ao.guard := by
        cases hg : ao.guard with
        | none => rfl
        | some g =>
          obtain ⟨t, b⟩ := g
          simp only [gOK]
          rw [hagree t (by simp [readsO, hg])]
      have hop : ∀ H, aop tb (tsel (fun i => listed.getD i false) 0 l ss T0) H ao.op = aop tb (tsel (fun j => Nat.blt j (0 + i)) 0 l ss T0) H ao.op :=
        fun H => aop_congr fun t h => hagree t (by simp only [readsO, List.mem_append]; exact .inl h)
      obtain ⟨v, H1, hss, hstep⟩ := hat i ao hao
      -- the stage
      obtain ⟨st1, st2, st3, st4⟩ := stage_spec (fun i => listed.getD i false) l 0
      have hchain : isChain ao.op = true → stage (fun i => listed.getD i false) 0 l = i := by
        intro hc
        have hge : stage (fun i => listed.getD i false) 0 l ≤ i := by
          rcases Nat.lt_or_ge i (stage (fun i => listed.getD i false) 0 l) with h | h
          · have := st3 i ao hao hc (by simpa using h)
            simp only [Nat.zero_add] at this
            rw [hmi] at this
            simp at this
          · exact h
        rcases Nat.lt_or_ge (stage (fun i => listed.getD i false) 0 l) i with h | h
        · have hob : l[stage (fun i => listed.getD i false) 0 l - 0]? = some (l[stage (fun i => listed.getD i false) 0 l]'(by omega)) := by simp
          obtain ⟨q1, q2⟩ := st4 _ (by omega) hob
          have hob2 : l[stage (fun i => listed.getD i false) 0 l]? = some (l[stage (fun i => listed.getD i false) 0 l]'(by omega)) := List.getElem?_eq_getElem (by omega)
          have hpr := hpair _ i _ ao h hob2 hao
          simp only [okPair, Bool.or_eq_true, Bool.and_eq_true] at hpr
          rcases hpr with hpr | ⟨hpr, _⟩
          · have := hmask i hiN hedges _ h hpr
            rw [q2] at this
            simp at this
          · rw [q1, hc] at hpr
            simp at hpr
        · omega
      -- behind this operation
      have hnext : ∀ (ρ' : Pl) (w' : World) (a' : Act), ρ.le ρ' → Rel ⟨Prot.prot, aside Prot.dead l fun j => if j = i then true else listed.getD j false⟩ w0 ρ' (if isChain ao.op = true then H1 else hAt H0 ss (stage (fun i => listed.getD i false) 0 l)) w' →
          TmpsRel ρ' n (aput (tsel (fun i => listed.getD i false) 0 l ss T0) ao.dst v) a'.tmps → a'.defers = [] → wpAny P .any ops Q fuel (listed.setIfInBounds i true) a' w' := by
        intro ρ' w' a' hle' R' ht' hd'
        have hm' : ∀ j, (listed.setIfInBounds i true).getD j false = if j = i then true else listed.getD j false := by
          intro j
          by_cases e : j = i
          · subst e
            rw [if_pos rfl, Array.getD_eq_getD_getElem?]
            have : j < listed.size := by omega
            simp [this]
          · rw [if_neg e]
            exact getD_set_ne false (fun q => e q.symm)
        have hmf : (fun j => (listed.setIfInBounds i true).getD j false) = fun j => if j = i then true else listed.getD j false := funext hm'
        refine ih _ a' w' (by simpa using hsz) ?_ ?_ ⟨ρ', Pl.le_trans hle hle', ?_, ?_, hd'⟩
        · have := unl_set (m := fun i => listed.getD i false) (m' := fun j => (listed.setIfInBounds i true).getD j false) (i := i) (n := ops.size) hiN hmi (by rw [hm', if_pos rfl]) (fun j hj => by rw [hm', if_neg hj])
          omega
        · intro j hj hjl e he
          rw [hm'] at hjl ⊢
          by_cases q : e = i
          · rw [if_pos q]
          · rw [if_neg q]
            by_cases q2 : j = i
            · subst q2; exact hedges e he
            · rw [if_neg q2] at hjl; exact hdown j hj hjl e he
        · rw [hmf]
          cases hc : isChain ao.op with
          | false =>
            rw [hc] at R'
            simp only [Bool.false_eq_true, if_false] at R'
            have : stage (fun j => if j = i then true else listed.getD j false) 0 l = stage (fun i => listed.getD i false) 0 l :=
              stage_congr l 0 fun c b hcb hcc => by
                simp only [Nat.zero_add]
                rw [if_neg]
                intro e
                subst e
                rw [hao] at hcb
                simp only [Option.some.injEq] at hcb
                subst hcb
                rw [hc] at hcc
                simp at hcc
            rw [this]
            exact R'
          | true =>
            rw [hc] at R'
            simp only [if_true] at R'
            have hpi := hchain hc
            obtain ⟨s1, s2, s3, s4⟩ := stage_spec (fun j => if j = i then true else listed.getD j false) l 0
            have hgt : i < stage (fun j => if j = i then true else listed.getD j false) 0 l := by
              rcases Nat.lt_or_ge i (stage (fun j => if j = i then true else listed.getD j false) 0 l) with h | h
              · exact h
              · exfalso
                have hob : l[stage (fun j => if j = i then true else listed.getD j false) 0 l - 0]? = some (l[stage (fun j => if j = i then true else listed.getD j false) 0 l]'(by omega)) := by simp
                obtain ⟨q1, q2⟩ := s4 _ (by omega) hob
                by_cases e : stage (fun j => if j = i then true else listed.getD j false) 0 l = i
                · rw [if_pos e] at q2; simp at q2
                · rw [if_neg e] at q2
                  have hob2 : l[stage (fun j => if j = i then true else listed.getD j false) 0 l]? = some (l[stage (fun j => if j = i then true else listed.getD j false) 0 l]'(by omega)) := List.getElem?_eq_getElem (by omega)
                  have := st3 _ _ hob2 q1 (by omega)
                  simp only [Nat.zero_add] at this
                  rw [q2] at this
                  simp at this
            have hb := heap_between htr (stage (fun j => if j = i then true else listed.getD j false) 0 l - (i + 1)) (i + 1) (by omega) fun c b c1 c2 c3 => by
              cases hx : isChain b.op with
              | false => rfl
              | true =>
                exfalso
                have := s3 c b c3 hx (by omega)
                simp only [Nat.zero_add] at this
                rw [if_neg (by omega)] at this
                have hpr := hpair i c ao b (by omega) hao c3
                simp only [okPair, Bool.or_eq_true, Bool.and_eq_true] at hpr
                rcases hpr with hpr | ⟨hpr, _⟩
                · have h9 := hafter c b (by omega) c3 hpr
                  rw [this] at h9
                  simp at h9
                · rw [hx, hc] at hpr
                  simp at hpr
            rw [show i + 1 + (stage (fun j => if j = i then true else listed.getD j false) 0 l - (i + 1)) = stage (fun j => if j = i then true else listed.getD j false) 0 l by omega] at hb
            rw [hb]
            simp only [hAt, hss]
            exact R'
        · refine ht'.congr fun t => ?_
          rw [hmf, get_aput]
          by_cases e : ao.dst = some t
          · rw [if_pos e]
            refine tsel_last l ss 0 i T0 ao v H1 hao hss e (by simp) fun c b hc hcb hdst => ?_
            simp only [Nat.zero_add]
            rw [if_neg (by omega)]
            have hpr := hpair i c ao b hc hao hcb
            simp only [okPair, Bool.or_eq_true, Bool.and_eq_true] at hpr
            rcases hpr with hpr | ⟨_, hpr⟩
            · exact hafter c b hc hcb hpr
            · exfalso
              simp only [disj, e, Bool.and_eq_true, Bool.not_eq_true', beq_eq_false_iff_ne] at hpr
              exact hpr.1.2 hdst
          · rw [if_neg e]
            refine tsel_get l ss 0 T0 T0 rfl fun c b hc hdst => ?_
            simp only [Nat.zero_add]
            rw [if_neg]
            intro q
            subst q
            rw [hao] at hc
            simp only [Option.some.injEq] at hc
            subst hc
            exact e hdst
      have hval : isChain ao.op = false → gOK (tsel (fun j => Nat.blt j (0 + i)) 0 l ss T0) ao.guard = true → ∃ H2, aop tb (tsel (fun j => Nat.blt j (0 + i)) 0 l ss T0) (hAt H0 ss (stage (fun i => listed.getD i false) 0 l)) ao.op = some (.val v, H2) := by
        intro hc hgo
        unfold astep at hstep
        rw [hgo] at hstep
        simp only [cond_true] at hstep
        cases hpu : isPure ao.op with
        | true =>
          split at hstep
          · rename_i u H2 hu
            simp only [Option.some.injEq, Prod.mk.injEq] at hstep
            obtain ⟨rfl, rfl⟩ := hstep
            exact ⟨_, (pure_other hpu hu).2.2 _⟩
          · rename_i f args H2 hu
            obtain ⟨_, ⟨x, hx⟩, _⟩ := pure_other hpu hu
            simp at hx
          · simp at hstep
        | false =>
          have hld : isLoad ao.op = true := by
            unfold isChain at hc
            cases h1 : isLoad ao.op with
            | true => rfl
            | false => rw [hpu, h1] at hc; simp at hc
          cases hsm : sameH l i (stage (fun i => listed.getD i false) 0 l) with
          | true =>
            unfold sameH at hsm
            rw [Bool.and_eq_true, List.all_eq_true] at hsm
            have hij := Nat.le_of_ble_eq_true hsm.1
            have hb := heap_between htr (stage (fun i => listed.getD i false) 0 l - i) i (by omega) fun c b c1 c2 c3 => by
              have := hsm.2 c (List.mem_range.2 (by omega))
              rw [c3] at this
              simp only [Bool.or_eq_true, Bool.not_eq_true'] at this
              rcases this with h | h
              · have := Nat.le_of_ble_eq_true h; omega
              · exact h
            rw [show i + (stage (fun i => listed.getD i false) 0 l - i) = stage (fun i => listed.getD i false) 0 l by omega] at hb
            rw [hb]
            split at hstep
            · rename_i u H2 hu
              simp only [Option.some.injEq, Prod.mk.injEq] at hstep
              obtain ⟨rfl, rfl⟩ := hstep
              exact ⟨_, hu⟩
            · rename_i f args H2 hu
              obtain ⟨_, x, hx⟩ := load_other hld hu
              simp at hx
            · simp at hstep
          | false =>
            have hmem : stage (fun i => listed.getD i false) 0 l ∈ chkOf l ms i := by
              unfold chkOf
              rw [hao]
              simp only [hld, cond_true]
              rw [List.mem_filter]
              refine ⟨List.mem_range.2 (by omega), ?_⟩
              rw [hsm]
              simp only [Bool.not_false, Bool.true_and]
              unfold mayAt
              rw [Bool.and_eq_true]
              refine ⟨?_, ?_⟩
              · unfold isStage
                rcases Nat.lt_or_ge (stage (fun i => listed.getD i false) 0 l) l.length with h | h
                · have hob : l[stage (fun i => listed.getD i false) 0 l]? = some l[stage (fun i => listed.getD i false) 0 l] := List.getElem?_eq_getElem h
                  rw [hob]
                  exact (st4 _ (by omega) (by simp)).1
                · rw [List.getElem?_eq_none h]
                  have : stage (fun i => listed.getD i false) 0 l = l.length := by omega
                  rw [this]
                  exact Nat.beq_refl _
              · rw [List.all_eq_true]
                intro c hcr
                have hcl := List.mem_range.1 hcr
                rw [List.getElem?_eq_getElem hcl]
                simp only [Bool.or_eq_true, Bool.not_eq_true']
                cases hcc : isChain l[c].op with
                | false => exact .inl rfl
                | true =>
                  right
                  have hlc : l[c]? = some l[c] := List.getElem?_eq_getElem hcl
                  cases hb : Nat.blt c (stage (fun i => listed.getD i false) 0 l) with
                  | true =>
                    simp only [cond_true, Bool.not_eq_true']
                    have hlt : c < stage (fun i => listed.getD i false) 0 l := Nat.le_of_ble_eq_true hb
                    have hcm := st3 c _ hlc hcc (by omega)
                    simp only [Nat.zero_add] at hcm
                    cases hbit : bit ms c i with
                    | false => rfl
                    | true =>
                      exfalso
                      rcases Nat.lt_trichotomy i c with h | h | h
                      · have := hafter c _ h hlc hbit
                        rw [hcm] at this; simp at this
                      · subst h; rw [hmi] at hcm; simp at hcm
                      · have := bit_lt hbit
                        omega
                  | false =>
                    simp only [cond_false, Bool.not_eq_true']
                    have hge : stage (fun i => listed.getD i false) 0 l ≤ c := by
                      rcases Nat.lt_or_ge c (stage (fun i => listed.getD i false) 0 l) with h | h
                      · have : Nat.blt c (stage (fun i => listed.getD i false) 0 l) = true := Nat.ble_eq_true_of_le h
                        rw [hb] at this; simp at this
                      · exact h
                    cases hbit : bit ms i c with
                    | false => rfl
                    | true =>
                      exfalso
                      have hlc2 := hmask i hiN hedges c (bit_lt hbit) hbit
                      have hpl : stage (fun i => listed.getD i false) 0 l < l.length := by omega
                      have hob2 : l[stage (fun i => listed.getD i false) 0 l]? = some (l[stage (fun i => listed.getD i false) 0 l]'hpl) := List.getElem?_eq_getElem hpl
                      obtain ⟨q1, q2⟩ := st4 _ (by omega) (by rw [Nat.sub_zero]; exact hob2)
                      rcases Nat.lt_trichotomy (stage (fun i => listed.getD i false) 0 l) c with h | h | h
                      · have hpr := hpair _ c _ _ h hob2 hlc
                        simp only [okPair, Bool.or_eq_true, Bool.and_eq_true] at hpr
                        rcases hpr with hpr | ⟨hpr, _⟩
                        · have := hmask c (by omega) (hdown c (by omega) hlc2) _ h hpr
                          rw [q2] at this; simp at this
                        · rw [q1, hcc] at hpr; simp at hpr
                      · rw [h] at q2; rw [q2] at hlc2; simp at hlc2
                      · omega
            obtain ⟨Hp, hHp, hrun⟩ := chk_at l _ ss T0 0 hck i _ (chkOf l ms i) v H1 hao (by simp [hN, hiN]) hss _ hmem
            obtain ⟨H2, hH2⟩ := hrun hgo
            refine ⟨H2, ?_⟩
            have : Hp = hAt H0 ss (stage (fun i => listed.getD i false) 0 l) := by
              cases hstg : stage (fun i => listed.getD i false) 0 l with
              | zero => rw [hstg] at hHp; simpa [hAt] using hHp.symm
              | succ q =>
                rw [hstg] at hHp
                simp only [List.getElem?_cons_succ, List.getElem?_map] at hHp
                simp only [hAt]
                cases hq : ss[q]? with
                | none => rw [hq] at hHp; simp at hHp
                | some z => rw [hq] at hHp; obtain ⟨z1, z2⟩ := z; simpa using hHp.symm
            rw [← this]
            exact hH2
      have hfew : ∀ d, aside Prot.dead l (fun j => if j = i then true else listed.getD j false) d → aside Prot.dead l (fun i => listed.getD i false) d := by
        rintro d (hd | ⟨i', a', z', x1, x2, x3⟩)
        · exact .inl hd
        · refine .inr ⟨i', a', z', x1, x2, ?_⟩
          simp only at x3
          by_cases e : i' = i
          · rw [if_pos e] at x3; simp at x3
          · rw [if_neg e] at x3; exact x3
      -- the operation itself
      rcases hco with hco | ⟨cb, hcb, e, z, g, hoe, hz, hgc, hdst, rfl⟩
      unfold cOper at hco
      split at hco
      · rename_i ax g hopc hgc
        cases hdst : okDst n o.dst with
        | false => rw [hdst] at hco; simp at hco
        | true =>
          rw [hdst] at hco
          simp only [cond_true, Option.some.injEq] at hco
          subst hco
          simp only at hgd hop hnext hchain hao
          unfold wpOp
          simp only [ho]
          rw [guard_ok ht hgc, hgd]
          have hd' : ∀ u, (a.put o.dst u).defers = [] := fun u => by cases hx : o.dst <;> simpa [Act.put] using hd
          unfold astep at hstep
          simp only at hstep
          cases hgo : gOK (tsel (fun j => Nat.blt j (0 + i)) 0 l ss T0) g with
          | false =>
            rw [hgo] at hstep
            simp only [cond_false, Option.some.injEq, Prod.mk.injEq] at hstep
            obtain ⟨rfl, rfl⟩ := hstep
            simp only [Bool.false_eq_true, if_false]
            refine hnext ρ w _ (Pl.le_refl _) ?_ (put_rel ht hdst undef_rel) (hd' _)
            split
            · rename_i hc
              have h9 := R.fewer hfew
              rw [hchain hc] at h9
              exact h9
            · exact R.fewer hfew
          | true =>
            rw [hgo] at hstep
            simp only [cond_true] at hstep
            simp only [if_true]
            left
            cases hc : isChain ax with
            | true =>
              have hpi := hchain hc
              rw [hpi] at R
              rw [← hop] at hstep
              split at hstep
              · rename_i u H2 hu
                simp only [Option.some.injEq, Prod.mk.injEq] at hstep
                obtain ⟨rfl, rfl⟩ := hstep
                obtain ⟨ρ1, w1, nx, q1, q2, q3, q4⟩ := op_sim htb R ht o hopc hu
                simp only [Oper.wp, q2]
                rw [hc] at hnext
                simp only [if_true] at hnext
                cases nx <;> simp only [NxRel] at q4
                case value u => exact hnext ρ1 w1 _ q1 (q3.fewer hfew) (put_rel (ht.mono q1) hdst q4) (hd' _)
                case skip => exact hnext ρ1 w1 _ q1 (q3.fewer hfew) (put_rel (ht.mono q1) hdst q4) (hd' _)
              · rename_i f args H2 hu
                obtain ⟨ρ1, w1, nx, q1, q2, q3, q4⟩ := op_sim htb R ht o hopc hu
                simp only [Oper.wp, q2]
                rw [hc] at hnext
                simp only [if_true] at hnext
                cases nx <;> simp only [NxRel] at q4
                case enter gf vs =>
                  obtain ⟨rfl, q5⟩ := q4
                  simp only [Oper.upon]
                  refine (hcall _ _ _ _ _ hstep ⟨Prot.prot, aside Prot.dead l fun i => listed.getD i false⟩ w0 ρ1 w1 vs q3 q5).mono fun e w' hr => ?_
                  obtain ⟨ρ2, u, r1, rfl, r3, r4⟩ := hr
                  exact hnext ρ2 w' _ (Pl.le_trans q1 r1) (r3.fewer hfew) (put_rel ((ht.mono q1).mono r1) hdst r4) (hd' _)
              · simp at hstep
            | false =>
              rw [hc] at hnext
              simp only [Bool.false_eq_true, if_false] at hnext
              -- what it tells at the heap of this stage
              obtain ⟨H2, hH2⟩ := hval hc hgo
              have hsame : H2 = hAt H0 ss (stage (fun i => listed.getD i false) 0 l) := by
                have hk : isPure ax = true ∨ isLoad ax = true := by
                  unfold isChain at hc
                  cases h1 : isPure ax <;> cases h2 : isLoad ax <;> simp_all
                rcases hk with hk | hk
                · exact (pure_other hk hH2).1
                · exact (load_other hk hH2).1
              subst hsame
              rw [← hop] at hH2
              obtain ⟨ρ1, w1, nx, q1, q2, q3, q4⟩ := op_sim htb R ht o hopc hH2
              simp only [Oper.wp, q2]
              cases nx <;> simp only [NxRel] at q4
              case value u => exact hnext ρ1 w1 _ q1 (q3.fewer hfew) (put_rel (ht.mono q1) hdst q4) (hd' _)
              case skip => exact hnext ρ1 w1 _ q1 (q3.fewer hfew) (put_rel (ht.mono q1) hdst q4) (hd' _)
      · simp at hco
      · -- a new block, of a number that was laid aside
        simp only at hgd hop hnext hchain hao hval
        unfold wpOp
        simp only [ho]
        rw [guard_ok ht hgc, hgd]
        have hd' : ∀ u, (a.put o.dst u).defers = [] := fun u => by cases hx : o.dst <;> simpa [Act.put] using hd
        have hnc : isChain (AOp.claim cb z) = false := rfl
        rw [hnc] at hnext
        simp only [Bool.false_eq_true, if_false] at hnext
        cases hgo : gOK (tsel (fun j => Nat.blt j (0 + i)) 0 l ss T0) g with
        | false =>
          unfold astep at hstep
          simp only at hstep
          rw [hgo] at hstep
          simp only [cond_false, Option.some.injEq, Prod.mk.injEq] at hstep
          obtain ⟨rfl, rfl⟩ := hstep
          simp only [Bool.false_eq_true, if_false]
          exact hnext ρ w _ (Pl.le_refl _) (R.fewer hfew) (put_rel ht hdst undef_rel) (hd' _)
        | true =>
          simp only [if_true]
          left
          obtain ⟨H2, hH2⟩ := hval hnc hgo
          simp only [aop] at hH2
          obtain ⟨y, hy, hv, _⟩ := vv_spec hH2
          simp only [Nx.val.injEq] at hv
          subst hv
          obtain ⟨hget, rfl⟩ := claim_spec hy
          obtain ⟨ρ1, w1, u, q1, q2, q3, q4⟩ := alloc_claim (P := P) R hz (.inr ⟨i, _, z, hao, rfl, hmi⟩) hget
          have hrun : (execOp a.eval o).run P w = .ok (.value u) w1 := by
            obtain ⟨dst, op, type, pos, after, guard⟩ := o
            simp only at hoe
            subst hoe
            show (do pure (Next.value (← Instr.alloc e true (.tuple #[]))) : Sem Next).run P w = _
            simp only [Sem.run_bind, q2, Result.andThen_ok]
            rfl
          simp only [Oper.wp, hrun]
          refine hnext ρ1 w1 _ q1 (q3.fewer ?_) (put_rel (ht.mono q1) hdst q4) (hd' _)
          intro d hd0
          refine ⟨hfew d hd0, ?_⟩
          rintro rfl
          rcases hd0 with hd0 | ⟨i', a', z', x1, x2, x3⟩
          · have := hbase _ hd0; omega
          · have := hdis i' i a' _ _ z' z x1 hao x2 rfl
            subst this
            simp at x3
end
end Go.Abs
