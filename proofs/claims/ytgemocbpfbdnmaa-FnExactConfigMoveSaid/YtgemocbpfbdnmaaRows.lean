/-
  No cell of these rows narrows 'for every input' (looked for: loops, veiled, ifaces, maps, wideKeys, modest, calm, conditions, laid).
  DERIVED. THE GIVEN ROWS OF THIS SEAT. 10 by the template 'for every input the law returns true; each argument reads behind the call as it read before'; 0 by the template 'total and deterministic' (their statements: YtgemocbpfbdnmaaTotals.lean).
  GIVEN WITH THE SEED: the statements are not yours to turn. If you find one false, say at which input.
  Laid BY PROGRAM, IN A SANDBOX (cutbox-rows.mjs): the forced cells as the released guide's own fill.sh prints them over the translation a70059e6f6ffd21f… (all of the seat's roots in one cut). By AI agents, Wed Nov 11 2026. No macro, syntax, notation, axiom, sorry.
-/
import Derived.Test.YtgemocbpfbdnmaaChecked
import GoSem.Claim
import GoSem.ClaimJoined
import GoSem.ClaimMapViews
import Derived.JoinedTies
import Derived.KernelRfl
namespace Go.Proofs.Ytgemocbpfbdnmaa
/- THE CELL 'sum', in the pinned program and in every row, IS THE sha256 OF THE DUMP (.gsa) THAT YtgemocbpfbdnmaaProg.lean LOADS. Nothing in Lean hashes anything: it is a label: what it is worth is what the hold of that sum in a sandbox is worth. -/
noncomputable def Try.pinned : Pinned := { name := "ytgemocbpfbdnmaa", sum := "a70059e6f6ffd21f3858c7d208597d7e8e1dce640237e8c1ead825370a786bc5", checked := Try.checked }
namespace Rows
def none {H : Type} : Left H := { results := [], args := [] }

/-- 'laws.FnGroundNext': WHATEVER THE INPUT: true; the input reads as it did. -/
def fnGroundNextSpec : ChangeSpec := { name := "fnGroundNext", fn := fun _ => fun
  | [d] => { results := [.lit (.bool true)], args := [d] }
  | _ => none }
def fnGroundNextRow : OpenClaim := { program := "ytgemocbpfbdnmaa", sum := "a70059e6f6ffd21f3858c7d208597d7e8e1dce640237e8c1ead825370a786bc5", func := "loop.example/atomicspectra/laws.FnGroundNext", spec := "fnGroundNext", unfollowed := true, recurses := true, plainKeys := false, apart := false }
def FnGroundNextSaid : Prop := fnGroundNextRow.holds Try.pinned (OpenSpec.ofChange fnGroundNextSpec)

/-- ITS FALSE NEIGHBOUR: 'it returns false'. Refute it at one input. -/
def fnGroundNextWrong : ChangeSpec := { name := "fnGroundNext", fn := fun _ => fun
  | [d] => { results := [.lit (.bool false)], args := [d] }
  | _ => none }
def FnGroundNextWrongFalsely : Prop := fnGroundNextRow.holds Try.pinned (OpenSpec.ofChange fnGroundNextWrong)

/-- 'laws.FnGroundOrder': WHATEVER THE INPUT: true; the input reads as it did. -/
def fnGroundOrderSpec : ChangeSpec := { name := "fnGroundOrder", fn := fun _ => fun
  | [d] => { results := [.lit (.bool true)], args := [d] }
  | _ => none }
def fnGroundOrderRow : OpenClaim := { program := "ytgemocbpfbdnmaa", sum := "a70059e6f6ffd21f3858c7d208597d7e8e1dce640237e8c1ead825370a786bc5", func := "loop.example/atomicspectra/laws.FnGroundOrder", spec := "fnGroundOrder", unfollowed := true, recurses := true, plainKeys := false, apart := false }
def FnGroundOrderSaid : Prop := fnGroundOrderRow.holds Try.pinned (OpenSpec.ofChange fnGroundOrderSpec)

/-- ITS FALSE NEIGHBOUR: 'it returns false'. Refute it at one input. -/
def fnGroundOrderWrong : ChangeSpec := { name := "fnGroundOrder", fn := fun _ => fun
  | [d] => { results := [.lit (.bool false)], args := [d] }
  | _ => none }
def FnGroundOrderWrongFalsely : Prop := fnGroundOrderRow.holds Try.pinned (OpenSpec.ofChange fnGroundOrderWrong)

/-- 'laws.FnExactConfigGround': WHATEVER THE INPUT: true; the input reads as it did. -/
def fnExactConfigGroundSpec : ChangeSpec := { name := "fnExactConfigGround", fn := fun _ => fun
  | [d] => { results := [.lit (.bool true)], args := [d] }
  | _ => none }
def fnExactConfigGroundRow : OpenClaim := { program := "ytgemocbpfbdnmaa", sum := "a70059e6f6ffd21f3858c7d208597d7e8e1dce640237e8c1ead825370a786bc5", func := "loop.example/atomicspectra/laws.FnExactConfigGround", spec := "fnExactConfigGround", unfollowed := true, recurses := true, plainKeys := false, apart := false }
def FnExactConfigGroundSaid : Prop := fnExactConfigGroundRow.holds Try.pinned (OpenSpec.ofChange fnExactConfigGroundSpec)

/-- ITS FALSE NEIGHBOUR: 'it returns false'. Refute it at one input. -/
def fnExactConfigGroundWrong : ChangeSpec := { name := "fnExactConfigGround", fn := fun _ => fun
  | [d] => { results := [.lit (.bool false)], args := [d] }
  | _ => none }
def FnExactConfigGroundWrongFalsely : Prop := fnExactConfigGroundRow.holds Try.pinned (OpenSpec.ofChange fnExactConfigGroundWrong)

/-- 'laws.FnGroundParity': WHATEVER THE INPUT: true; the input reads as it did. -/
def fnGroundParitySpec : ChangeSpec := { name := "fnGroundParity", fn := fun _ => fun
  | [d] => { results := [.lit (.bool true)], args := [d] }
  | _ => none }
def fnGroundParityRow : OpenClaim := { program := "ytgemocbpfbdnmaa", sum := "a70059e6f6ffd21f3858c7d208597d7e8e1dce640237e8c1ead825370a786bc5", func := "loop.example/atomicspectra/laws.FnGroundParity", spec := "fnGroundParity", unfollowed := true, recurses := true, plainKeys := false, apart := false }
def FnGroundParitySaid : Prop := fnGroundParityRow.holds Try.pinned (OpenSpec.ofChange fnGroundParitySpec)

/-- ITS FALSE NEIGHBOUR: 'it returns false'. Refute it at one input. -/
def fnGroundParityWrong : ChangeSpec := { name := "fnGroundParity", fn := fun _ => fun
  | [d] => { results := [.lit (.bool false)], args := [d] }
  | _ => none }
def FnGroundParityWrongFalsely : Prop := fnGroundParityRow.holds Try.pinned (OpenSpec.ofChange fnGroundParityWrong)

/-- 'laws.FnGround': WHATEVER THE INPUT: true; the input reads as it did. -/
def fnGroundSpec : ChangeSpec := { name := "fnGround", fn := fun _ => fun
  | [d] => { results := [.lit (.bool true)], args := [d] }
  | _ => none }
def fnGroundRow : OpenClaim := { program := "ytgemocbpfbdnmaa", sum := "a70059e6f6ffd21f3858c7d208597d7e8e1dce640237e8c1ead825370a786bc5", func := "loop.example/atomicspectra/laws.FnGround", spec := "fnGround", unfollowed := true, recurses := true, plainKeys := false, apart := false }
def FnGroundSaid : Prop := fnGroundRow.holds Try.pinned (OpenSpec.ofChange fnGroundSpec)

/-- ITS FALSE NEIGHBOUR: 'it returns false'. Refute it at one input. -/
def fnGroundWrong : ChangeSpec := { name := "fnGround", fn := fun _ => fun
  | [d] => { results := [.lit (.bool false)], args := [d] }
  | _ => none }
def FnGroundWrongFalsely : Prop := fnGroundRow.holds Try.pinned (OpenSpec.ofChange fnGroundWrong)

/-- 'laws.FnMoveBack': WHATEVER THE INPUT: true; the input reads as it did. -/
def fnMoveBackSpec : ChangeSpec := { name := "fnMoveBack", fn := fun _ => fun
  | [d] => { results := [.lit (.bool true)], args := [d] }
  | _ => none }
def fnMoveBackRow : OpenClaim := { program := "ytgemocbpfbdnmaa", sum := "a70059e6f6ffd21f3858c7d208597d7e8e1dce640237e8c1ead825370a786bc5", func := "loop.example/atomicspectra/laws.FnMoveBack", spec := "fnMoveBack", unfollowed := true, recurses := true, plainKeys := false, apart := false }
def FnMoveBackSaid : Prop := fnMoveBackRow.holds Try.pinned (OpenSpec.ofChange fnMoveBackSpec)

/-- ITS FALSE NEIGHBOUR: 'it returns false'. Refute it at one input. -/
def fnMoveBackWrong : ChangeSpec := { name := "fnMoveBack", fn := fun _ => fun
  | [d] => { results := [.lit (.bool false)], args := [d] }
  | _ => none }
def FnMoveBackWrongFalsely : Prop := fnMoveBackRow.holds Try.pinned (OpenSpec.ofChange fnMoveBackWrong)

/-- 'laws.FnMoveOther': WHATEVER THE INPUT: true; the input reads as it did. -/
def fnMoveOtherSpec : ChangeSpec := { name := "fnMoveOther", fn := fun _ => fun
  | [d] => { results := [.lit (.bool true)], args := [d] }
  | _ => none }
def fnMoveOtherRow : OpenClaim := { program := "ytgemocbpfbdnmaa", sum := "a70059e6f6ffd21f3858c7d208597d7e8e1dce640237e8c1ead825370a786bc5", func := "loop.example/atomicspectra/laws.FnMoveOther", spec := "fnMoveOther", unfollowed := true, recurses := true, plainKeys := false, apart := false }
def FnMoveOtherSaid : Prop := fnMoveOtherRow.holds Try.pinned (OpenSpec.ofChange fnMoveOtherSpec)

/-- ITS FALSE NEIGHBOUR: 'it returns false'. Refute it at one input. -/
def fnMoveOtherWrong : ChangeSpec := { name := "fnMoveOther", fn := fun _ => fun
  | [d] => { results := [.lit (.bool false)], args := [d] }
  | _ => none }
def FnMoveOtherWrongFalsely : Prop := fnMoveOtherRow.holds Try.pinned (OpenSpec.ofChange fnMoveOtherWrong)

/-- 'laws.FnExactConfigMove': WHATEVER THE INPUT: true; the input reads as it did. -/
def fnExactConfigMoveSpec : ChangeSpec := { name := "fnExactConfigMove", fn := fun _ => fun
  | [d1, d2, d3, d4, d5] => { results := [.lit (.bool true)], args := [d1, d2, d3, d4, d5] }
  | _ => none }
def fnExactConfigMoveRow : OpenClaim := { program := "ytgemocbpfbdnmaa", sum := "a70059e6f6ffd21f3858c7d208597d7e8e1dce640237e8c1ead825370a786bc5", func := "loop.example/atomicspectra/laws.FnExactConfigMove", spec := "fnExactConfigMove", unfollowed := true, recurses := true, plainKeys := false, apart := false }
def FnExactConfigMoveSaid : Prop := fnExactConfigMoveRow.holds Try.pinned (OpenSpec.ofChange fnExactConfigMoveSpec)

/-- ITS FALSE NEIGHBOUR: 'it returns false'. Refute it at one input. -/
def fnExactConfigMoveWrong : ChangeSpec := { name := "fnExactConfigMove", fn := fun _ => fun
  | [d1, d2, d3, d4, d5] => { results := [.lit (.bool false)], args := [d1, d2, d3, d4, d5] }
  | _ => none }
def FnExactConfigMoveWrongFalsely : Prop := fnExactConfigMoveRow.holds Try.pinned (OpenSpec.ofChange fnExactConfigMoveWrong)

/-- 'laws.FnMoveParity': WHATEVER THE INPUT: true; the input reads as it did. -/
def fnMoveParitySpec : ChangeSpec := { name := "fnMoveParity", fn := fun _ => fun
  | [d] => { results := [.lit (.bool true)], args := [d] }
  | _ => none }
def fnMoveParityRow : OpenClaim := { program := "ytgemocbpfbdnmaa", sum := "a70059e6f6ffd21f3858c7d208597d7e8e1dce640237e8c1ead825370a786bc5", func := "loop.example/atomicspectra/laws.FnMoveParity", spec := "fnMoveParity", unfollowed := true, recurses := true, plainKeys := false, apart := false }
def FnMoveParitySaid : Prop := fnMoveParityRow.holds Try.pinned (OpenSpec.ofChange fnMoveParitySpec)

/-- ITS FALSE NEIGHBOUR: 'it returns false'. Refute it at one input. -/
def fnMoveParityWrong : ChangeSpec := { name := "fnMoveParity", fn := fun _ => fun
  | [d] => { results := [.lit (.bool false)], args := [d] }
  | _ => none }
def FnMoveParityWrongFalsely : Prop := fnMoveParityRow.holds Try.pinned (OpenSpec.ofChange fnMoveParityWrong)

/-- 'laws.FnMove': WHATEVER THE INPUT: true; the input reads as it did. -/
def fnMoveSpec : ChangeSpec := { name := "fnMove", fn := fun _ => fun
  | [d] => { results := [.lit (.bool true)], args := [d] }
  | _ => none }
def fnMoveRow : OpenClaim := { program := "ytgemocbpfbdnmaa", sum := "a70059e6f6ffd21f3858c7d208597d7e8e1dce640237e8c1ead825370a786bc5", func := "loop.example/atomicspectra/laws.FnMove", spec := "fnMove", unfollowed := true, recurses := true, plainKeys := false, apart := false }
def FnMoveSaid : Prop := fnMoveRow.holds Try.pinned (OpenSpec.ofChange fnMoveSpec)

/-- ITS FALSE NEIGHBOUR: 'it returns false'. Refute it at one input. -/
def fnMoveWrong : ChangeSpec := { name := "fnMove", fn := fun _ => fun
  | [d] => { results := [.lit (.bool false)], args := [d] }
  | _ => none }
def FnMoveWrongFalsely : Prop := fnMoveRow.holds Try.pinned (OpenSpec.ofChange fnMoveWrong)

/- THE SECOND FORM. 'bulk': how many values and letters a reading holds, each counted each time it is reached (what is shared counts as often as it is met; a slice's spare places count too). A statement '..UptoSaid' is the law's where the arguments, and the package variables that the reading takes, are together of bulk at most 1048576: NARROWER than '..Said'. Prove '..Said' where nothing that the law and all that it calls make is longer than what came in: it says more and counts as full. Else prove '..UptoSaid'. A law counts once. -/
mutual
def uptoBulk {H : Type} : DataW H → Nat
  | .lit (.string bytes) => bytes.length + 1
  | .lit _ => 1
  | .nil => 1
  | .ptr d => uptoBulk d + 1
  | .slice elems spare => uptoBulkAll elems + uptoBulkAll spare + 1
  | .agg parts => uptoBulkAll parts + 1
  | .iface _ d => uptoBulk d + 1
  | .map entries => uptoBulkEntries entries + 1
  | .held _ => 1
def uptoBulkAll {H : Type} : List (DataW H) → Nat
  | [] => 0
  | d :: r => uptoBulk d + uptoBulkAll r
def uptoBulkEntries {H : Type} : List (Lit × DataW H) → Nat
  | [] => 0
  | x :: r => uptoBulkEntry x + uptoBulkEntries r
def uptoBulkEntry {H : Type} : Lit × DataW H → Nat
  | (.string bytes, d) => bytes.length + uptoBulk d + 1
  | (_, d) => uptoBulk d + 1
 end
def uptoSmall : (H : Type) → List (DataW H) → Bool := fun _ ds => decide (uptoBulkAll ds ≤ 1048576)
def OpenSpec.upto (s : _root_.Go.ChangeSpec) : _root_.Go.OpenSpec := { _root_.Go.OpenSpec.ofChange s with cond := some uptoSmall }

/-- 'laws.FnGroundNext', WHERE WHAT IT READS IS OF BULK AT MOST 1048576: true; the input reads as it did. -/
def fnGroundNextUptoRow : OpenClaim := { program := "ytgemocbpfbdnmaa", sum := "a70059e6f6ffd21f3858c7d208597d7e8e1dce640237e8c1ead825370a786bc5", func := "loop.example/atomicspectra/laws.FnGroundNext", spec := "fnGroundNext", unfollowed := true, recurses := true, plainKeys := false, apart := false, narrowed := true }
def FnGroundNextUptoSaid : Prop := fnGroundNextUptoRow.holds Try.pinned (OpenSpec.upto fnGroundNextSpec)

/-- 'laws.FnGroundOrder', WHERE WHAT IT READS IS OF BULK AT MOST 1048576: true; the input reads as it did. -/
def fnGroundOrderUptoRow : OpenClaim := { program := "ytgemocbpfbdnmaa", sum := "a70059e6f6ffd21f3858c7d208597d7e8e1dce640237e8c1ead825370a786bc5", func := "loop.example/atomicspectra/laws.FnGroundOrder", spec := "fnGroundOrder", unfollowed := true, recurses := true, plainKeys := false, apart := false, narrowed := true }
def FnGroundOrderUptoSaid : Prop := fnGroundOrderUptoRow.holds Try.pinned (OpenSpec.upto fnGroundOrderSpec)

/-- 'laws.FnExactConfigGround', WHERE WHAT IT READS IS OF BULK AT MOST 1048576: true; the input reads as it did. -/
def fnExactConfigGroundUptoRow : OpenClaim := { program := "ytgemocbpfbdnmaa", sum := "a70059e6f6ffd21f3858c7d208597d7e8e1dce640237e8c1ead825370a786bc5", func := "loop.example/atomicspectra/laws.FnExactConfigGround", spec := "fnExactConfigGround", unfollowed := true, recurses := true, plainKeys := false, apart := false, narrowed := true }
def FnExactConfigGroundUptoSaid : Prop := fnExactConfigGroundUptoRow.holds Try.pinned (OpenSpec.upto fnExactConfigGroundSpec)

/-- 'laws.FnGroundParity', WHERE WHAT IT READS IS OF BULK AT MOST 1048576: true; the input reads as it did. -/
def fnGroundParityUptoRow : OpenClaim := { program := "ytgemocbpfbdnmaa", sum := "a70059e6f6ffd21f3858c7d208597d7e8e1dce640237e8c1ead825370a786bc5", func := "loop.example/atomicspectra/laws.FnGroundParity", spec := "fnGroundParity", unfollowed := true, recurses := true, plainKeys := false, apart := false, narrowed := true }
def FnGroundParityUptoSaid : Prop := fnGroundParityUptoRow.holds Try.pinned (OpenSpec.upto fnGroundParitySpec)

/-- 'laws.FnGround', WHERE WHAT IT READS IS OF BULK AT MOST 1048576: true; the input reads as it did. -/
def fnGroundUptoRow : OpenClaim := { program := "ytgemocbpfbdnmaa", sum := "a70059e6f6ffd21f3858c7d208597d7e8e1dce640237e8c1ead825370a786bc5", func := "loop.example/atomicspectra/laws.FnGround", spec := "fnGround", unfollowed := true, recurses := true, plainKeys := false, apart := false, narrowed := true }
def FnGroundUptoSaid : Prop := fnGroundUptoRow.holds Try.pinned (OpenSpec.upto fnGroundSpec)

/-- 'laws.FnMoveBack', WHERE WHAT IT READS IS OF BULK AT MOST 1048576: true; the input reads as it did. -/
def fnMoveBackUptoRow : OpenClaim := { program := "ytgemocbpfbdnmaa", sum := "a70059e6f6ffd21f3858c7d208597d7e8e1dce640237e8c1ead825370a786bc5", func := "loop.example/atomicspectra/laws.FnMoveBack", spec := "fnMoveBack", unfollowed := true, recurses := true, plainKeys := false, apart := false, narrowed := true }
def FnMoveBackUptoSaid : Prop := fnMoveBackUptoRow.holds Try.pinned (OpenSpec.upto fnMoveBackSpec)

/-- 'laws.FnMoveOther', WHERE WHAT IT READS IS OF BULK AT MOST 1048576: true; the input reads as it did. -/
def fnMoveOtherUptoRow : OpenClaim := { program := "ytgemocbpfbdnmaa", sum := "a70059e6f6ffd21f3858c7d208597d7e8e1dce640237e8c1ead825370a786bc5", func := "loop.example/atomicspectra/laws.FnMoveOther", spec := "fnMoveOther", unfollowed := true, recurses := true, plainKeys := false, apart := false, narrowed := true }
def FnMoveOtherUptoSaid : Prop := fnMoveOtherUptoRow.holds Try.pinned (OpenSpec.upto fnMoveOtherSpec)

/-- 'laws.FnExactConfigMove', WHERE WHAT IT READS IS OF BULK AT MOST 1048576: true; the input reads as it did. -/
def fnExactConfigMoveUptoRow : OpenClaim := { program := "ytgemocbpfbdnmaa", sum := "a70059e6f6ffd21f3858c7d208597d7e8e1dce640237e8c1ead825370a786bc5", func := "loop.example/atomicspectra/laws.FnExactConfigMove", spec := "fnExactConfigMove", unfollowed := true, recurses := true, plainKeys := false, apart := false, narrowed := true }
def FnExactConfigMoveUptoSaid : Prop := fnExactConfigMoveUptoRow.holds Try.pinned (OpenSpec.upto fnExactConfigMoveSpec)

/-- 'laws.FnMoveParity', WHERE WHAT IT READS IS OF BULK AT MOST 1048576: true; the input reads as it did. -/
def fnMoveParityUptoRow : OpenClaim := { program := "ytgemocbpfbdnmaa", sum := "a70059e6f6ffd21f3858c7d208597d7e8e1dce640237e8c1ead825370a786bc5", func := "loop.example/atomicspectra/laws.FnMoveParity", spec := "fnMoveParity", unfollowed := true, recurses := true, plainKeys := false, apart := false, narrowed := true }
def FnMoveParityUptoSaid : Prop := fnMoveParityUptoRow.holds Try.pinned (OpenSpec.upto fnMoveParitySpec)

/-- 'laws.FnMove', WHERE WHAT IT READS IS OF BULK AT MOST 1048576: true; the input reads as it did. -/
def fnMoveUptoRow : OpenClaim := { program := "ytgemocbpfbdnmaa", sum := "a70059e6f6ffd21f3858c7d208597d7e8e1dce640237e8c1ead825370a786bc5", func := "loop.example/atomicspectra/laws.FnMove", spec := "fnMove", unfollowed := true, recurses := true, plainKeys := false, apart := false, narrowed := true }
def FnMoveUptoSaid : Prop := fnMoveUptoRow.holds Try.pinned (OpenSpec.upto fnMoveSpec)

end Rows
end Go.Proofs.Ytgemocbpfbdnmaa
