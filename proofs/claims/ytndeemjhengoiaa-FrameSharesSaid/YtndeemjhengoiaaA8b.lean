/- The abstract machine, part 8b: equality on what is no number and no string; calls of the library's own that have no body. -/
import Derived.Test.YtndeemjhengoiaaA8
import Derived.Lib.Bytealg
namespace Go.Abs
section
variable {P : Program} {ρ : Pl} {w : World}

inductive EqK where
  | bool | ptr | slice | map | func | iface (const : Bool)

def aEqv : EqK → AVal → AVal → Option Bool
  | .bool, .bool a, .bool b => some (a == b)
  | .ptr, .ptr none, .ptr none => some true
  | .ptr, .ptr none, .ptr (some _) => some false
  | .ptr, .ptr (some _), .ptr none => some false
  | .ptr, .ptr (some a), .ptr (some b) => bif Nat.beq a.b b.b && Nat.beq a.lim b.lim then some (Nat.beq a.o b.o) else none
  | .slice, .slice none _ _, .slice none _ _ => some true
  | .slice, .slice none _ _, .slice (some _) _ _ => some false
  | .slice, .slice (some _) _ _, .slice none _ _ => some false
  | .map, .map none, .map none => some true
  | .map, .map none, .map (some _) => some false
  | .map, .map (some _), .map none => some false
  | .func, .nilFunc, .nilFunc => some true
  | .func, .nilFunc, .func _ _ _ => some false
  | .func, .func _ _ _, .nilFunc => some false
  | .iface _, .nilIface, .iface _ _ => some false
  | .iface _, .iface _ _, .nilIface => some false
  | .iface c, .nilIface, .nilIface => bif c then some true else none
  | _, _, _ => none
def isC : Operand → Bool
  | .const _ => true
  | _ => false
def eqKOf (P : Program) (t : TypeId) (x y : Operand) : Option EqK :=
  match P.underlying t with
  | some .bool => some .bool
  | some (.pointer e) => match tyOf P e with
    | some (_, n) => bif Nat.beq n 0 then none else some .ptr
    | none => none
  | some (.slice _) => some .slice
  | some (.map _ _) => some .map
  | some (.func _ _ _) => some .func
  | some (.interface _) => some (.iface (isC x || isC y))
  | _ => none

theorem slice_shape {a : Option Ad} {n : Nat} {r : Room} {v : Value} (h : VRel ρ (.slice a n r) v) : ∃ b m c, v = .slice b m c ∧ b.isNone = a.isNone := by
  cases a with
  | none => simp only [VRel] at h; exact ⟨none, 0, 0, h.2.2, rfl⟩
  | some a => obtain ⟨_, _, _, _, _, h3, _⟩ := slice_off h; exact ⟨_, _, _, h3, rfl⟩

theorem equalIn_ok {t : TypeId} {x y : Operand} {k : EqK} (hk : eqKOf P t x y = some k) {p q : AVal} {u v : Value} (hp : VRel ρ p u) (hq : VRel ρ q v) {b : Bool} (h : aEqv k p q = some b) (d : Nat) : (Op.equalIn (d + 1) t u v).run P w = .ok b w := by
  unfold eqKOf at hk
  split at hk
  · rename_i hu
    simp only [Option.some.injEq] at hk; subst hk
    cases p <;> cases q <;> simp only [aEqv, Option.some.injEq, reduceCtorEq] at h
    simp only [VRel] at hp hq
    subst hp hq h
    simp [Op.equalIn, run_underlying hu]
  · rename_i e hu
    split at hk
    · rename_i g n hn
      cases hb : Nat.beq n 0 with
      | true => rw [hb] at hk; simp at hk
      | false =>
        rw [hb] at hk
        simp only [cond_false, Option.some.injEq] at hk; subst hk
        have hn0 : n ≠ 0 := fun e => by rw [e] at hb; simp at hb
        have hs := (ty_of hn).size
        cases p <;> cases q <;> simp only [aEqv, Option.some.injEq, reduceCtorEq] at h
        rename_i a c
        cases a with
        | none =>
          simp only [VRel] at hp
          subst hp
          cases c with
          | none => simp only [VRel] at hq; subst hq; simp only [aEqv, Option.some.injEq] at h; subst h; simp [Op.equalIn, run_underlying hu]
          | some c => simp only [VRel] at hq; obtain ⟨L, _, _, rfl⟩ := hq; simp only [aEqv, Option.some.injEq] at h; subst h; simp [Op.equalIn, run_underlying hu]
        | some a =>
          simp only [VRel] at hp
          obtain ⟨L, l1, l2, rfl⟩ := hp
          cases c with
          | none => simp only [VRel] at hq; subst hq; simp only [aEqv, Option.some.injEq] at h; subst h; simp [Op.equalIn, run_underlying hu]
          | some c =>
            simp only [VRel] at hq
            obtain ⟨M, m1, m2, rfl⟩ := hq
            simp only [aEqv] at h
            cases hg : (Nat.beq a.b c.b && Nat.beq a.lim c.lim) with
            | false => rw [hg] at h; simp at h
            | true =>
              rw [hg] at h
              simp only [Bool.and_eq_true] at hg
              simp only [cond_true, Option.some.injEq] at h
              subst h
              rw [Nat.eq_of_beq_eq_true hg.1, Nat.eq_of_beq_eq_true hg.2, m1] at l1
              obtain rfl := (Option.some.injEq _ _).mp l1
              have e : ((⟨M.c, a.o - M.sh, none⟩ : Addr) == ⟨M.c, c.o - M.sh, none⟩) = Nat.beq a.o c.o := by
                rw [beq_dec]
                have : ((⟨M.c, a.o - M.sh, none⟩ : Addr) == ⟨M.c, c.o - M.sh, none⟩) = decide ((⟨M.c, a.o - M.sh, none⟩ : Addr) = ⟨M.c, c.o - M.sh, none⟩) := by
                  by_cases h : (⟨M.c, a.o - M.sh, none⟩ : Addr) = ⟨M.c, c.o - M.sh, none⟩ <;> simp [h]
                rw [this]
                congr 1
                simp only [Addr.mk.injEq, true_and, and_true, eq_iff_iff]
                omega
              simp [Op.equalIn, run_underlying hu, hs, hn0, sameAddr, e]
    · simp at hk
  · rename_i e hu
    simp only [Option.some.injEq] at hk; subst hk
    cases p <;> cases q <;> simp only [aEqv, Option.some.injEq, reduceCtorEq] at h
    rename_i a n r c m s
    obtain ⟨b1, m1, c1, rfl, e1⟩ := slice_shape hp
    obtain ⟨b2, m2, c2, rfl, e2⟩ := slice_shape hq
    cases a <;> cases c <;> cases b1 <;> cases b2 <;> simp only [Option.isNone_none, Option.isNone_some, reduceCtorEq, Bool.false_eq_true, Bool.true_eq_false] at e1 e2 <;>
      simp only [aEqv, Option.some.injEq, reduceCtorEq] at h <;> subst h <;> simp [Op.equalIn, run_underlying hu]
  · rename_i e1 e2 hu
    simp only [Option.some.injEq] at hk; subst hk
    cases p <;> cases q <;> simp only [aEqv, Option.some.injEq, reduceCtorEq] at h
    rename_i a c
    cases a <;> cases c <;> simp only [VRel] at hp hq <;> simp only [aEqv, Option.some.injEq, reduceCtorEq] at h
    · subst hp hq h; simp [Op.equalIn, run_underlying hu]
    · obtain ⟨_, _, rfl⟩ := hq; subst hp h; simp [Op.equalIn, run_underlying hu]
    · obtain ⟨_, _, rfl⟩ := hp; subst hq h; simp [Op.equalIn, run_underlying hu]
  · rename_i e1 e2 e3 hu
    simp only [Option.some.injEq] at hk; subst hk
    cases p <;> cases q <;> simp only [aEqv, Option.some.injEq, reduceCtorEq] at h <;> simp only [VRel] at hp hq
    · obtain ⟨_, _, rfl, _⟩ := hp; subst hq h; simp [Op.equalIn, run_underlying hu]
    · obtain ⟨_, _, rfl, _⟩ := hq; subst hp h; simp [Op.equalIn, run_underlying hu]
    · subst hp hq h; simp [Op.equalIn, run_underlying hu]
  · rename_i e hu
    simp only [Option.some.injEq] at hk; subst hk
    cases p <;> cases q <;> simp only [aEqv, Option.some.injEq, reduceCtorEq] at h <;> simp only [VRel] at hp hq
    · obtain ⟨_, rfl, _⟩ := hp; subst hq h; simp [Op.equalIn, run_underlying hu]
    · obtain ⟨_, rfl, _⟩ := hq; subst hp h; simp [Op.equalIn, run_underlying hu]
    · subst hp hq
      cases hc : (isC x || isC y) with
      | false => rw [hc] at h; simp [aEqv] at h
      | true =>
        rw [hc] at h
        simp only [aEqv, cond_true, Option.some.injEq] at h
        subst h
        simp [Op.equalIn, run_underlying hu]
  · simp at hk

theorem equal_ok {t : TypeId} {x y : Operand} {k : EqK} (hk : eqKOf P t x y = some k) {p q : AVal} {u v : Value} (hp : VRel ρ p u) (hq : VRel ρ q v) {b : Bool} (h : aEqv k p q = some b) : (Op.equal t u v).run P w = .ok b w :=
  equalIn_ok hk hp hq h 9999

theorem eqv_bin {k : EqK} {p q : AVal} {u v : Value} (hp : VRel ρ p u) (hq : VRel ρ q v) {b : Bool} (h : aEqv k p q = some b) (t : TypeId) :
    binOp .eql t u v = (do pure (.bool (← Op.equal t u v))) ∧ binOp .neq t u v = (do pure (.bool (!(← Op.equal t u v)))) := by
  cases p with
  | bool a => simp only [VRel] at hp; subst hp; cases v <;> exact ⟨rfl, rfl⟩
  | int => cases k <;> simp [aEqv] at h
  | str => cases k <;> simp [aEqv] at h
  | agg => cases k <;> simp [aEqv] at h
  | tuple => cases k <;> simp [aEqv] at h
  | val => cases k <;> simp [aEqv] at h
  | ptr a => cases a <;> simp only [VRel] at hp <;> first | (subst hp; cases v <;> exact ⟨rfl, rfl⟩) | (obtain ⟨_, _, _, rfl⟩ := hp; cases v <;> exact ⟨rfl, rfl⟩)
  | slice a n r => obtain ⟨_, _, _, rfl, _⟩ := slice_shape hp; cases v <;> exact ⟨rfl, rfl⟩
  | map a => cases a <;> simp only [VRel] at hp <;> first | (subst hp; cases v <;> exact ⟨rfl, rfl⟩) | (obtain ⟨_, _, rfl⟩ := hp; cases v <;> exact ⟨rfl, rfl⟩)
  | func => simp only [VRel] at hp; obtain ⟨_, _, rfl, _⟩ := hp; cases v <;> exact ⟨rfl, rfl⟩
  | nilFunc => simp only [VRel] at hp; subst hp; cases v <;> exact ⟨rfl, rfl⟩
  | iface => simp only [VRel] at hp; obtain ⟨_, rfl, _⟩ := hp; cases v <;> exact ⟨rfl, rfl⟩
  | nilIface => simp only [VRel] at hp; subst hp; cases v <;> exact ⟨rfl, rfl⟩

theorem eqv_guard {k : EqK} {p q : AVal} {u v : Value} {x y : Operand} {t : TypeId} (hk : eqKOf P t x y = some k) (hp : VRel ρ p u) (hq : VRel ρ q v) {b : Bool} (h : aEqv k p q = some b) (op : BinOp) :
    (eqGuard op t x y u v).run P w = .ok () w := by
  cases p with
  | bool a => simp only [VRel] at hp; subst hp; cases op <;> rfl
  | int => cases k <;> simp [aEqv] at h
  | str => cases k <;> simp [aEqv] at h
  | agg => cases k <;> simp [aEqv] at h
  | tuple => cases k <;> simp [aEqv] at h
  | val => cases k <;> simp [aEqv] at h
  | ptr a => cases a <;> simp only [VRel] at hp <;> first | (subst hp; cases op <;> rfl) | (obtain ⟨_, _, _, rfl⟩ := hp; cases op <;> rfl)
  | slice a n r => obtain ⟨_, _, _, rfl, _⟩ := slice_shape hp; cases op <;> rfl
  | map a => cases a <;> simp only [VRel] at hp <;> first | (subst hp; cases op <;> rfl) | (obtain ⟨_, _, rfl⟩ := hp; cases op <;> rfl)
  | func => simp only [VRel] at hp; obtain ⟨_, _, rfl, _⟩ := hp; cases op <;> rfl
  | nilFunc => simp only [VRel] at hp; subst hp; cases op <;> rfl
  | iface => simp only [VRel] at hp; obtain ⟨_, rfl, _⟩ := hp; cases op <;> rfl
  | nilIface =>
    simp only [VRel] at hp
    subst hp
    cases q with
    | nilIface =>
      simp only [VRel] at hq
      subst hq
      cases k with
      | iface c =>
        cases c with
        | false => simp [aEqv] at h
        | true =>
          have hc : (isC x || isC y) = true := by
            unfold eqKOf at hk
            split at hk <;> first | (simp at hk; done) | skip
            · split at hk <;> first | (simp at hk; done) | skip
              rename_i n _
              cases hb : Nat.beq n 0 <;> rw [hb] at hk <;> simp at hk
            · simpa using hk
          clear hk
          cases op <;> first | rfl | (cases x <;> cases y <;> first | rfl | (simp [isC] at hc))
      | _ => simp [aEqv] at h
    | iface => simp only [VRel] at hq; obtain ⟨_, rfl, _⟩ := hq; cases op <;> rfl
    | _ => cases k <;> simp [aEqv] at h

theorem eqv_ok {op : BinOp} (ho : op = .eql ∨ op = .neq) {t : TypeId} {x y : Operand} {k : EqK} (hk : eqKOf P t x y = some k) {p q : AVal} {u v : Value} (hp : VRel ρ p u) (hq : VRel ρ q v) {b : Bool} (h : aEqv k p q = some b) :
    (do eqGuard op t x y u v; binOp op t u v : Sem Value).run P w = .ok (.bool (match op with | .eql => b | _ => !b)) w := by
  have he := equal_ok (w := w) hk hp hq h
  obtain ⟨e1, e2⟩ := eqv_bin hp hq h t
  rcases ho with rfl | rfl
  · simp only [Sem.run_bind, eqv_guard hk hp hq h, Result.andThen_ok, e1, he]; rfl
  · simp only [Sem.run_bind, eqv_guard hk hp hq h, Result.andThen_ok, e2, he]; rfl
end
end Go.Abs
