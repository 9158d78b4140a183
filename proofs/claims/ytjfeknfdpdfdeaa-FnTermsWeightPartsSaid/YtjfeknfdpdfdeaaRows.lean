/-
  No cell of these rows narrows 'for every input' (looked for: loops, veiled, ifaces, maps, wideKeys, modest, calm, conditions, laid).
  DERIVED. THE GIVEN ROWS OF THIS SEAT. 2 by the template 'for every input the law returns true; each argument reads behind the call as it read before'; 0 by the template 'total and deterministic' (their statements: YtjfeknfdpdfdeaaTotals.lean).
  GIVEN WITH THE SEED: the statements are not yours to turn. If you find one false, say at which input.
  Laid BY PROGRAM, IN A SANDBOX (cutbox-rows.mjs): the forced cells as the released guide's own fill.sh prints them over the translation 8c744578af74d253… (all of the seat's roots in one cut). By AI agents, Wed Nov 11 2026. No macro, syntax, notation, axiom, sorry.
-/
import Derived.Test.YtjfeknfdpdfdeaaChecked
import GoSem.Claim
import GoSem.ClaimJoined
import GoSem.ClaimMapViews
import Derived.JoinedTies
import Derived.KernelRfl
namespace Go.Proofs.Ytjfeknfdpdfdeaa
/- THE CELL 'sum', in the pinned program and in every row, IS THE sha256 OF THE DUMP (.gsa) THAT YtjfeknfdpdfdeaaProg.lean LOADS. Nothing in Lean hashes anything: it is a label: what it is worth is what the hold of that sum in a sandbox is worth. -/
noncomputable def Try.pinned : Pinned := { name := "ytjfeknfdpdfdeaa", sum := "8c744578af74d25383ed9c0f5e9223e566e6bed7658a453ac047db742e4602f6", checked := Try.checked }
namespace Rows
def none {H : Type} : Left H := { results := [], args := [] }

/-- 'laws.FnExactTermsWeight': WHATEVER THE INPUT: true; the input reads as it did. -/
def fnExactTermsWeightSpec : ChangeSpec := { name := "fnExactTermsWeight", fn := fun _ => fun
  | [d] => { results := [.lit (.bool true)], args := [d] }
  | _ => none }
def fnExactTermsWeightRow : OpenClaim := { program := "ytjfeknfdpdfdeaa", sum := "8c744578af74d25383ed9c0f5e9223e566e6bed7658a453ac047db742e4602f6", func := "loop.example/atomicspectra/laws.FnExactTermsWeight", spec := "fnExactTermsWeight", apart := false }
def FnExactTermsWeightSaid : Prop := fnExactTermsWeightRow.holds Try.pinned (OpenSpec.ofChange fnExactTermsWeightSpec)

/-- ITS FALSE NEIGHBOUR: 'it returns false'. Refute it at one input. -/
def fnExactTermsWeightWrong : ChangeSpec := { name := "fnExactTermsWeight", fn := fun _ => fun
  | [d] => { results := [.lit (.bool false)], args := [d] }
  | _ => none }
def FnExactTermsWeightWrongFalsely : Prop := fnExactTermsWeightRow.holds Try.pinned (OpenSpec.ofChange fnExactTermsWeightWrong)

/-- 'laws.FnTermsWeightParts': WHATEVER THE INPUT: true; the input reads as it did. -/
def fnTermsWeightPartsSpec : ChangeSpec := { name := "fnTermsWeightParts", fn := fun _ => fun
  | [d1, d2] => { results := [.lit (.bool true)], args := [d1, d2] }
  | _ => none }
def fnTermsWeightPartsRow : OpenClaim := { program := "ytjfeknfdpdfdeaa", sum := "8c744578af74d25383ed9c0f5e9223e566e6bed7658a453ac047db742e4602f6", func := "loop.example/atomicspectra/laws.FnTermsWeightParts", spec := "fnTermsWeightParts", apart := false }
def FnTermsWeightPartsSaid : Prop := fnTermsWeightPartsRow.holds Try.pinned (OpenSpec.ofChange fnTermsWeightPartsSpec)

/-- ITS FALSE NEIGHBOUR: 'it returns false'. Refute it at one input. -/
def fnTermsWeightPartsWrong : ChangeSpec := { name := "fnTermsWeightParts", fn := fun _ => fun
  | [d1, d2] => { results := [.lit (.bool false)], args := [d1, d2] }
  | _ => none }
def FnTermsWeightPartsWrongFalsely : Prop := fnTermsWeightPartsRow.holds Try.pinned (OpenSpec.ofChange fnTermsWeightPartsWrong)

/- THE SECOND FORM. 'bulk': how many values and letters a reading holds, each counted each time it is reached (what is shared counts as often as it is met; a slice's spare places count too). A statement '..UptoSaid' is the law's where the arguments, and the package variables that the reading takes, are together of bulk at most 1048576: NARROWER than '..Said'. Prove '..Said' where nothing that the law and all that it calls make is longer than what came in: it says more and counts as full. Else prove '..UptoSaid'. A law counts once. -/
mutual
def uptoBulk {H : Type} : DataW H → Nat
  | .lit (.string bytes) => bytes.length + 1
  | .lit _ => 1
  | .nil => 1
  | .ptr d => uptoBulk d + 1
  | .slice elems spare => uptoBulkAll elems + uptoBulkAll spare + 1
  | .agg parts => uptoBulkAll parts + 1
  | .iface _ d => uptoBulk d + 1
  | .map entries => uptoBulkEntries entries + 1
  | .held _ => 1
def uptoBulkAll {H : Type} : List (DataW H) → Nat
  | [] => 0
  | d :: r => uptoBulk d + uptoBulkAll r
def uptoBulkEntries {H : Type} : List (Lit × DataW H) → Nat
  | [] => 0
  | x :: r => uptoBulkEntry x + uptoBulkEntries r
def uptoBulkEntry {H : Type} : Lit × DataW H → Nat
  | (.string bytes, d) => bytes.length + uptoBulk d + 1
  | (_, d) => uptoBulk d + 1
 end
def uptoSmall : (H : Type) → List (DataW H) → Bool := fun _ ds => decide (uptoBulkAll ds ≤ 1048576)
def OpenSpec.upto (s : _root_.Go.ChangeSpec) : _root_.Go.OpenSpec := { _root_.Go.OpenSpec.ofChange s with cond := some uptoSmall }

/-- 'laws.FnExactTermsWeight', WHERE WHAT IT READS IS OF BULK AT MOST 1048576: true; the input reads as it did. -/
def fnExactTermsWeightUptoRow : OpenClaim := { program := "ytjfeknfdpdfdeaa", sum := "8c744578af74d25383ed9c0f5e9223e566e6bed7658a453ac047db742e4602f6", func := "loop.example/atomicspectra/laws.FnExactTermsWeight", spec := "fnExactTermsWeight", apart := false, narrowed := true }
def FnExactTermsWeightUptoSaid : Prop := fnExactTermsWeightUptoRow.holds Try.pinned (OpenSpec.upto fnExactTermsWeightSpec)

/-- 'laws.FnTermsWeightParts', WHERE WHAT IT READS IS OF BULK AT MOST 1048576: true; the input reads as it did. -/
def fnTermsWeightPartsUptoRow : OpenClaim := { program := "ytjfeknfdpdfdeaa", sum := "8c744578af74d25383ed9c0f5e9223e566e6bed7658a453ac047db742e4602f6", func := "loop.example/atomicspectra/laws.FnTermsWeightParts", spec := "fnTermsWeightParts", apart := false, narrowed := true }
def FnTermsWeightPartsUptoSaid : Prop := fnTermsWeightPartsUptoRow.holds Try.pinned (OpenSpec.upto fnTermsWeightPartsSpec)

end Rows
end Go.Proofs.Ytjfeknfdpdfdeaa
