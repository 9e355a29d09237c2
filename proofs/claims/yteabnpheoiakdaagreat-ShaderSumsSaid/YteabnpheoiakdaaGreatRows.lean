/-
  NARROWER THAN 'FOR EVERY INPUT', by the rows' own cells (each row's printed sentence says how): ShaderMeans: loops.
  DERIVED. THE GIVEN ROWS OF THIS SEAT. 2 by the template 'for every input the law returns true; each argument reads behind the call as it read before'; 0 by the template 'total and deterministic' (their statements: YteabnpheoiakdaaGreatTotals.lean).
  GIVEN WITH THE SEED: the statements are not yours to turn. If you find one false, say at which input.
  Laid BY PROGRAM, IN A SANDBOX (cutbox-rows.mjs): the forced cells as the released guide's own fill.sh prints them over the translation f415d1266bef77c2… (all of the seat's roots in one cut). By AI agents, Wed Nov 11 2026. No macro, syntax, notation, axiom, sorry.
-/
import Derived.Test.YteabnpheoiakdaaGreatChecked
import GoSem.Claim
import GoSem.ClaimJoined
import GoSem.ClaimMapViews
import Derived.JoinedTies
import Derived.KernelRfl
namespace Go.Proofs.YteabnpheoiakdaaGreat
/- THE CELL 'sum', in the pinned program and in every row, IS THE sha256 OF THE DUMP (.gsa) THAT YteabnpheoiakdaaGreatProg.lean LOADS. Nothing in Lean hashes anything: it is a label: what it is worth is what the hold of that sum in a sandbox is worth. -/
noncomputable def Tryz.pinned : Pinned := { name := "yteabnpheoiakdaagreat", sum := "f415d1266bef77c271a701817e4b499a055afa2000544131f232ac641d9ab883", checked := Tryz.checked }
namespace Rows
def none {H : Type} : Left H := { results := [], args := [] }

/-- 'lightwelllaw19.ShaderSums': WHATEVER THE INPUT: true; the input reads as it did. -/
def shaderSumsSpec : ChangeSpec := { name := "shaderSums", fn := fun _ => fun
  | [d1, d2] => { results := [.lit (.bool true)], args := [d1, d2] }
  | _ => none }
def shaderSumsRow : OpenClaim := { program := "yteabnpheoiakdaagreat", sum := "f415d1266bef77c271a701817e4b499a055afa2000544131f232ac641d9ab883", func := "lightwell/lightwelllaw19.ShaderSums", spec := "shaderSums", inPlace := ["internal/bytealg.CountString", "internal/bytealg.IndexByteString", "internal/bytealg.IndexString"], unfollowed := true, recurses := true, named := ["internal/bytealg.MaxLen", "math/bits.divideError", "math/bits.overflowError"], plainKeys := false, apart := false }
def ShaderSumsSaid : Prop := shaderSumsRow.holds Tryz.pinned (OpenSpec.ofChange shaderSumsSpec)

/-- ITS FALSE NEIGHBOUR: 'it returns false'. Refute it at one input. -/
def shaderSumsWrong : ChangeSpec := { name := "shaderSums", fn := fun _ => fun
  | [d1, d2] => { results := [.lit (.bool false)], args := [d1, d2] }
  | _ => none }
def ShaderSumsWrongFalsely : Prop := shaderSumsRow.holds Tryz.pinned (OpenSpec.ofChange shaderSumsWrong)

/-- 'lightwelllaw19.ShaderMeans': WHATEVER THE INPUT: true; the input reads as it did. -/
def shaderMeansSpec : ChangeSpec := { name := "shaderMeans", fn := fun _ => fun
  | [d1, d2] => { results := [.lit (.bool true)], args := [d1, d2] }
  | _ => none }
def shaderMeansRow : OpenClaim := { program := "yteabnpheoiakdaagreat", sum := "f415d1266bef77c271a701817e4b499a055afa2000544131f232ac641d9ab883", func := "lightwell/lightwelllaw19.ShaderMeans", spec := "shaderMeans", inPlace := ["internal/bytealg.CountString", "internal/bytealg.IndexByteString", "internal/bytealg.IndexString"], unfollowed := true, recurses := true, named := ["internal/bytealg.MaxLen", "math/bits.divideError", "math/bits.overflowError"], loops := true, plainKeys := false, apart := false }
def ShaderMeansSaid : Prop := shaderMeansRow.holds Tryz.pinned (OpenSpec.ofChange shaderMeansSpec)

/-- ITS FALSE NEIGHBOUR: 'it returns false'. Refute it at one input. -/
def shaderMeansWrong : ChangeSpec := { name := "shaderMeans", fn := fun _ => fun
  | [d1, d2] => { results := [.lit (.bool false)], args := [d1, d2] }
  | _ => none }
def ShaderMeansWrongFalsely : Prop := shaderMeansRow.holds Tryz.pinned (OpenSpec.ofChange shaderMeansWrong)

/- THE SECOND FORM. 'bulk': how many values and letters a reading holds, each counted each time it is reached (what is shared counts as often as it is met; a slice's spare places count too). A statement '..UptoSaid' is the law's where the arguments, and the package variables that the reading takes, are together of bulk at most 1048576: NARROWER than '..Said'. Prove '..Said' where nothing that the law and all that it calls make is longer than what came in: it says more and counts as full. Else prove '..UptoSaid'. A law counts once. -/
mutual
def uptoBulk {H : Type} : DataW H → Nat
  | .lit (.string bytes) => bytes.length + 1
  | .lit _ => 1
  | .nil => 1
  | .ptr d => uptoBulk d + 1
  | .slice elems spare => uptoBulkAll elems + uptoBulkAll spare + 1
  | .agg parts => uptoBulkAll parts + 1
  | .iface _ d => uptoBulk d + 1
  | .map entries => uptoBulkEntries entries + 1
  | .held _ => 1
def uptoBulkAll {H : Type} : List (DataW H) → Nat
  | [] => 0
  | d :: r => uptoBulk d + uptoBulkAll r
def uptoBulkEntries {H : Type} : List (Lit × DataW H) → Nat
  | [] => 0
  | x :: r => uptoBulkEntry x + uptoBulkEntries r
def uptoBulkEntry {H : Type} : Lit × DataW H → Nat
  | (.string bytes, d) => bytes.length + uptoBulk d + 1
  | (_, d) => uptoBulk d + 1
 end
def uptoSmall : (H : Type) → List (DataW H) → Bool := fun _ ds => decide (uptoBulkAll ds ≤ 1048576)
def OpenSpec.upto (s : _root_.Go.ChangeSpec) : _root_.Go.OpenSpec := { _root_.Go.OpenSpec.ofChange s with cond := some uptoSmall }

/-- 'lightwelllaw19.ShaderSums', WHERE WHAT IT READS IS OF BULK AT MOST 1048576: true; the input reads as it did. -/
def shaderSumsUptoRow : OpenClaim := { program := "yteabnpheoiakdaagreat", sum := "f415d1266bef77c271a701817e4b499a055afa2000544131f232ac641d9ab883", func := "lightwell/lightwelllaw19.ShaderSums", spec := "shaderSums", inPlace := ["internal/bytealg.CountString", "internal/bytealg.IndexByteString", "internal/bytealg.IndexString"], unfollowed := true, recurses := true, named := ["internal/bytealg.MaxLen", "math/bits.divideError", "math/bits.overflowError"], plainKeys := false, apart := false, narrowed := true }
def ShaderSumsUptoSaid : Prop := shaderSumsUptoRow.holds Tryz.pinned (OpenSpec.upto shaderSumsSpec)

/-- 'lightwelllaw19.ShaderMeans', WHERE WHAT IT READS IS OF BULK AT MOST 1048576: true; the input reads as it did. -/
def shaderMeansUptoRow : OpenClaim := { program := "yteabnpheoiakdaagreat", sum := "f415d1266bef77c271a701817e4b499a055afa2000544131f232ac641d9ab883", func := "lightwell/lightwelllaw19.ShaderMeans", spec := "shaderMeans", inPlace := ["internal/bytealg.CountString", "internal/bytealg.IndexByteString", "internal/bytealg.IndexString"], unfollowed := true, recurses := true, named := ["internal/bytealg.MaxLen", "math/bits.divideError", "math/bits.overflowError"], loops := true, plainKeys := false, apart := false, narrowed := true }
def ShaderMeansUptoSaid : Prop := shaderMeansUptoRow.holds Tryz.pinned (OpenSpec.upto shaderMeansSpec)

end Rows
end Go.Proofs.YteabnpheoiakdaaGreat
