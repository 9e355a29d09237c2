/- strings.Repeat of this program, given to the machines. Plain Lean. -/
import Derived.Test.YthdkgakoogjoaaaHRep
import Derived.Test.YthdkgakoogjoaaaN1
namespace Go.Proofs.HNat
open Go.Abs Go.Abs.F Go.RowKit
theorem said : RepeatSaid Try.prog 16 := fun s c w hc hl => Try.strings_Repeat s c w hc hl
def nat : ANat := ⟨fun f => Nat.beq f 16, fun f args H => bif Nat.beq f 16 then aRepeat H args else none⟩
theorem nat_ok : NatOK Try.prog nat := by
  refine ⟨fun f h => ?_, fun f args H v H' hr Prot w0 ρ w vs R hv => ?_⟩
  · obtain rfl : f = 16 := Nat.eq_of_beq_eq_true h
    kernel_rfl
  · show Calls Try.prog f vs w _
    have hr2 : (bif Nat.beq f 16 then aRepeat H args else none) = some (v, H') := hr
    cases hb : Nat.beq f 16 with
    | false => rw [hb] at hr2; simp at hr2
    | true =>
      obtain rfl : f = 16 := Nat.eq_of_beq_eq_true hb
      exact repeat_sim said hr R hv
theorem nat_F : NatF nat 16 fRepeat := ⟨rfl, fun n call args _ _ Q => fRepeat_way args Q n call⟩
end Go.Proofs.HNat
