/- Functions that are given: what makes new memory at most keeps the relation; strings.Repeat. Plain Lean. -/
import Derived.Test.YtndeemjhengoiaaF5
import Derived.Lib.Repeat
namespace Go.Abs
section
variable {P : Program} {Prot : Gh} {w0 : World} {ρ : Pl} {H : AHeap} {w : World}
theorem Rel.keep (R : Rel Prot w0 ρ H w) {w' : World} (hb : RowKit.Below w.heap.size w w') : Rel Prot w0 ρ H w' := by
  refine ⟨hb.os.trans R.os, hb.tape.trans R.tape, hb.output.trans R.output, Nat.le_trans R.size hb.size, fun c hc => ?_, fun b l L h => ?_, fun b l L h => ?_, R.free, R.inj, R.dead⟩
  · obtain ⟨h1, h2⟩ := R.prot c hc
    exact ⟨h1, (hb.block c (Nat.lt_of_lt_of_le h1 R.size)).trans h2⟩
  · obtain ⟨h1, h2⟩ := R.dom b l L h
    exact ⟨h1, Nat.lt_of_lt_of_le h2 hb.size⟩
  · obtain ⟨x, o, h1, h2, h3⟩ := R.obj b l L h
    exact ⟨x, o, h1, (hb.block _ (R.dom b l L h).2).trans h2, h3⟩
/-- strings.Repeat, given -/
def aRepeat (H : AHeap) : List AVal → Option (AVal × AHeap)
  | [.str s, .int .i64 (.ofNat c)] => bif Nat.ble c 9223372036854775807 && Nat.ble (s.length * c) 140737488355328 then some (.str (Lib.repeatL s c), H) else none
  | _ => none
def RepeatSaid (P : Program) (f : FuncId) : Prop := ∀ (s : ByteArray) (c : Nat) (w : World), c ≤ 9223372036854775807 → s.size * c ≤ 140737488355328 →
  Calls P f #[.string s, .int .i64 c] w fun e w' => e = .returned (.string ⟨(Lib.repeatL s.data.toList c).toArray⟩) ∧ RowKit.Below w.heap.size w w'
theorem repeat_sim {f : FuncId} (h : RepeatSaid P f) {args : List AVal} {v : AVal} {H' : AHeap} (hr : aRepeat H args = some (v, H')) {vs : Array Value} (R : Rel Prot w0 ρ H w) (hv : VRels ρ args vs.toList) :
    Calls P f vs w fun e w' => ∃ ρ' u, ρ.le ρ' ∧ e = .returned u ∧ Rel Prot w0 ρ' H' w' ∧ VRel ρ' v u := by
  unfold aRepeat at hr
  split at hr <;> first | (simp at hr; done) | skip
  rename_i s c
  cases hb : Nat.ble c 9223372036854775807 && Nat.ble (s.length * c) 140737488355328 with
  | false => rw [hb] at hr; simp at hr
  | true =>
    rw [hb] at hr
    simp only [cond_true, Option.some.injEq, Prod.mk.injEq] at hr
    obtain ⟨rfl, rfl⟩ := hr
    simp only [Bool.and_eq_true, Nat.ble_eq] at hb
    simp only [VRels, VRel] at hv
    obtain ⟨v1, r1, e1, rfl, v2, r2, e2, rfl, rfl⟩ := hv
    have hvs : vs = #[.string (strOf s), .int .i64 c] := by
      apply Array.toList_inj.1
      rw [e1, e2]; rfl
    subst hvs
    have hs : (strOf s).size = s.length := by simp [strOf, ByteArray.size]
    refine (h (strOf s) c w hb.1 (by rw [hs]; exact hb.2)).mono fun e w' ⟨he, hbl⟩ => ⟨ρ, _, Pl.le_refl _, he, R.keep hbl, ?_⟩
    simp only [VRel, strOf]
end
end Go.Abs
namespace Go.Abs.F
noncomputable section
/-- s, c times -/
def sRep (s : List UInt8) : Nat → List UInt8 → (List UInt8 → R) → R := @Nat.rec (fun _ => List UInt8 → (List UInt8 → R) → R) (fun l k => k l) (fun _ ih l k => sApp s l fun l => ih l k)
theorem sRep_eq (s : List UInt8) : ∀ (c : Nat) (l : List UInt8) (k : List UInt8 → R), sRep s c l k = k (Lib.repeatL s c ++ l)
  | 0, l, k => by show k l = _; simp [Lib.repeatL]
  | c + 1, l, k => by
    have hu : sRep s (c + 1) l k = sApp s l fun l => sRep s c l k := rfl
    rw [hu, sApp_eq, sRep_eq s c, Lib.repeatL_add s c 1, Lib.repeatL_one, List.append_assoc]
def fRepeat : Fn := fun _ _ args h k => @List.rec AVal (fun _ => R) .no (fun x r _ => @List.rec AVal (fun _ => R) .no (fun y t _ => @List.rec AVal (fun _ => R) (vStr x fun s => vNat y fun c => sLen s (nat_lit 0) fun n => ifb (Nat.ble (Nat.mul n c) (nat_lit 140737488355328)) (sRep s c [] fun l => k (.str l) h) .no) (fun _ _ _ => .no) t) r) args
theorem fRepeat_way (args : List AVal) {h : FHeap} {H : AHeap} (Q : HRel h H) (n : Nat) (call : CallT) : (∀ k, fRepeat n call args h k = .no) ∨ ∃ v h' H', aRepeat H args = some (v, H') ∧ HRel h' H' ∧ ∀ k, fRepeat n call args h k = k v h' := by
  rcases args with _ | ⟨x, _ | ⟨y, _ | ⟨z, t⟩⟩⟩
  · exact .inl fun k => rfl
  · exact .inl fun k => rfl
  · have h2 : ∀ k, fRepeat n call [x, y] h k = vStr x fun s => vNat y fun c => sLen s (nat_lit 0) fun n => ifb (Nat.ble (Nat.mul n c) (nat_lit 140737488355328)) (sRep s c [] fun l => k (.str l) h) .no := fun k => rfl
    rcases vStr_way x with q | ⟨s, hx, q⟩
    · exact .inl fun k => (h2 k).trans (q _)
    · rcases vNat_way y with p | ⟨c, p1, p2⟩
      · exact .inl fun k => by rw [h2, q, p]
      · obtain ⟨hy, hc⟩ := natOf_ok p1
        have hu : ∀ k, fRepeat n call [x, y] h k = bif Nat.ble (s.length * c) 140737488355328 then k (.str (Lib.repeatL s c)) h else .no := fun k => by
          rw [h2, q, p2, sLen_eq, sRep_eq, List.append_nil, ifb_eq]; rfl
        have ha : aRepeat H [x, y] = bif Nat.ble (s.length * c) 140737488355328 then some (.str (Lib.repeatL s c), H) else none := by
          rw [hx, hy]
          show (bif Nat.ble c 9223372036854775807 && Nat.ble (s.length * c) 140737488355328 then _ else _) = _
          rw [Nat.ble_eq_true_of_le hc, Bool.true_and]
        rw [ha]
        cases hb : Nat.ble (s.length * c) 140737488355328 with
        | false => exact .inl fun k => by rw [hu, hb]; rfl
        | true => exact .inr ⟨.str (Lib.repeatL s c), h, H, rfl, Q, fun k => by rw [hu, hb]; rfl⟩
  · exact .inl fun k => rfl
end
end Go.Abs.F
