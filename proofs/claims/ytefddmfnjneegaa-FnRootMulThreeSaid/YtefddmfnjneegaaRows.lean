/-
  No cell of these rows narrows 'for every input' (looked for: loops, veiled, ifaces, maps, wideKeys, modest, calm, conditions, laid).
  DERIVED. THE GIVEN ROWS OF THIS SEAT. 2 by the template 'for every input the law returns true; each argument reads behind the call as it read before'; 0 by the template 'total and deterministic' (their statements: YtefddmfnjneegaaTotals.lean).
  GIVEN WITH THE SEED: the statements are not yours to turn. If you find one false, say at which input.
  Laid BY PROGRAM, IN A SANDBOX (cutbox-rows.mjs): the forced cells as the released guide's own fill.sh prints them over the translation 58a8db1bfe9c2180… (all of the seat's roots in one cut). By AI agents, Wed Nov 11 2026. No macro, syntax, notation, axiom, sorry.
-/
import Derived.Test.YtefddmfnjneegaaChecked
import GoSem.Claim
import GoSem.ClaimJoined
import GoSem.ClaimMapViews
import Derived.JoinedTies
import Derived.KernelRfl
namespace Go.Proofs.Ytefddmfnjneegaa
/- THE CELL 'sum', in the pinned program and in every row, IS THE sha256 OF THE DUMP (.gsa) THAT YtefddmfnjneegaaProg.lean LOADS. Nothing in Lean hashes anything: it is a label: what it is worth is what the hold of that sum in a sandbox is worth. -/
noncomputable def Try.pinned : Pinned := { name := "ytefddmfnjneegaa", sum := "58a8db1bfe9c21803947ff2b58ef128f3bd669b630a633f99d8e99cb8b662683", checked := Try.checked }
namespace Rows
def none {H : Type} : Left H := { results := [], args := [] }

/-- 'laws.FnRootMulThree': WHATEVER THE INPUT: true; the input reads as it did. -/
def fnRootMulThreeSpec : ChangeSpec := { name := "fnRootMulThree", fn := fun _ => fun
  | [d] => { results := [.lit (.bool true)], args := [d] }
  | _ => none }
def fnRootMulThreeRow : OpenClaim := { program := "ytefddmfnjneegaa", sum := "58a8db1bfe9c21803947ff2b58ef128f3bd669b630a633f99d8e99cb8b662683", func := "loop.example/atomicspectra/laws.FnRootMulThree", spec := "fnRootMulThree", apart := false }
def FnRootMulThreeSaid : Prop := fnRootMulThreeRow.holds Try.pinned (OpenSpec.ofChange fnRootMulThreeSpec)

/-- ITS FALSE NEIGHBOUR: 'it returns false'. Refute it at one input. -/
def fnRootMulThreeWrong : ChangeSpec := { name := "fnRootMulThree", fn := fun _ => fun
  | [d] => { results := [.lit (.bool false)], args := [d] }
  | _ => none }
def FnRootMulThreeWrongFalsely : Prop := fnRootMulThreeRow.holds Try.pinned (OpenSpec.ofChange fnRootMulThreeWrong)

/-- 'laws.FnRootMulNeg': WHATEVER THE INPUT: true; the input reads as it did. -/
def fnRootMulNegSpec : ChangeSpec := { name := "fnRootMulNeg", fn := fun _ => fun
  | [d] => { results := [.lit (.bool true)], args := [d] }
  | _ => none }
def fnRootMulNegRow : OpenClaim := { program := "ytefddmfnjneegaa", sum := "58a8db1bfe9c21803947ff2b58ef128f3bd669b630a633f99d8e99cb8b662683", func := "loop.example/atomicspectra/laws.FnRootMulNeg", spec := "fnRootMulNeg", apart := false }
def FnRootMulNegSaid : Prop := fnRootMulNegRow.holds Try.pinned (OpenSpec.ofChange fnRootMulNegSpec)

/-- ITS FALSE NEIGHBOUR: 'it returns false'. Refute it at one input. -/
def fnRootMulNegWrong : ChangeSpec := { name := "fnRootMulNeg", fn := fun _ => fun
  | [d] => { results := [.lit (.bool false)], args := [d] }
  | _ => none }
def FnRootMulNegWrongFalsely : Prop := fnRootMulNegRow.holds Try.pinned (OpenSpec.ofChange fnRootMulNegWrong)

/- THE SECOND FORM. 'bulk': how many values and letters a reading holds, each counted each time it is reached (what is shared counts as often as it is met; a slice's spare places count too). A statement '..UptoSaid' is the law's where the arguments, and the package variables that the reading takes, are together of bulk at most 1048576: NARROWER than '..Said'. Prove '..Said' where nothing that the law and all that it calls make is longer than what came in: it says more and counts as full. Else prove '..UptoSaid'. A law counts once. -/
mutual
def uptoBulk {H : Type} : DataW H → Nat
  | .lit (.string bytes) => bytes.length + 1
  | .lit _ => 1
  | .nil => 1
  | .ptr d => uptoBulk d + 1
  | .slice elems spare => uptoBulkAll elems + uptoBulkAll spare + 1
  | .agg parts => uptoBulkAll parts + 1
  | .iface _ d => uptoBulk d + 1
  | .map entries => uptoBulkEntries entries + 1
  | .held _ => 1
def uptoBulkAll {H : Type} : List (DataW H) → Nat
  | [] => 0
  | d :: r => uptoBulk d + uptoBulkAll r
def uptoBulkEntries {H : Type} : List (Lit × DataW H) → Nat
  | [] => 0
  | x :: r => uptoBulkEntry x + uptoBulkEntries r
def uptoBulkEntry {H : Type} : Lit × DataW H → Nat
  | (.string bytes, d) => bytes.length + uptoBulk d + 1
  | (_, d) => uptoBulk d + 1
 end
def uptoSmall : (H : Type) → List (DataW H) → Bool := fun _ ds => decide (uptoBulkAll ds ≤ 1048576)
def OpenSpec.upto (s : _root_.Go.ChangeSpec) : _root_.Go.OpenSpec := { _root_.Go.OpenSpec.ofChange s with cond := some uptoSmall }

/-- 'laws.FnRootMulThree', WHERE WHAT IT READS IS OF BULK AT MOST 1048576: true; the input reads as it did. -/
def fnRootMulThreeUptoRow : OpenClaim := { program := "ytefddmfnjneegaa", sum := "58a8db1bfe9c21803947ff2b58ef128f3bd669b630a633f99d8e99cb8b662683", func := "loop.example/atomicspectra/laws.FnRootMulThree", spec := "fnRootMulThree", apart := false, narrowed := true }
def FnRootMulThreeUptoSaid : Prop := fnRootMulThreeUptoRow.holds Try.pinned (OpenSpec.upto fnRootMulThreeSpec)

/-- 'laws.FnRootMulNeg', WHERE WHAT IT READS IS OF BULK AT MOST 1048576: true; the input reads as it did. -/
def fnRootMulNegUptoRow : OpenClaim := { program := "ytefddmfnjneegaa", sum := "58a8db1bfe9c21803947ff2b58ef128f3bd669b630a633f99d8e99cb8b662683", func := "loop.example/atomicspectra/laws.FnRootMulNeg", spec := "fnRootMulNeg", apart := false, narrowed := true }
def FnRootMulNegUptoSaid : Prop := fnRootMulNegUptoRow.holds Try.pinned (OpenSpec.upto fnRootMulNegSpec)

end Rows
end Go.Proofs.Ytefddmfnjneegaa
