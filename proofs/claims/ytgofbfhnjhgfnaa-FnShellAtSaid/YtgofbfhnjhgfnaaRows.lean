/-
  No cell of these rows narrows 'for every input' (looked for: loops, veiled, ifaces, maps, wideKeys, modest, calm, conditions, laid).
  DERIVED. THE GIVEN ROWS OF THIS SEAT. 12 by the template 'for every input the law returns true; each argument reads behind the call as it read before'; 0 by the template 'total and deterministic' (their statements: YtgofbfhnjhgfnaaTotals.lean).
  GIVEN WITH THE SEED: the statements are not yours to turn. If you find one false, say at which input.
  Laid BY PROGRAM, IN A SANDBOX (cutbox-rows.mjs): the forced cells as the released guide's own fill.sh prints them over the translation 65415c065524441b… (all of the seat's roots in one cut). By AI agents, Wed Nov 11 2026. No macro, syntax, notation, axiom, sorry.
-/
import Derived.Test.YtgofbfhnjhgfnaaChecked
import GoSem.Claim
import GoSem.ClaimJoined
import GoSem.ClaimMapViews
import Derived.JoinedTies
import Derived.KernelRfl
namespace Go.Proofs.Ytgofbfhnjhgfnaa
/- THE CELL 'sum', in the pinned program and in every row, IS THE sha256 OF THE DUMP (.gsa) THAT YtgofbfhnjhgfnaaProg.lean LOADS. Nothing in Lean hashes anything: it is a label: what it is worth is what the hold of that sum in a sandbox is worth. -/
noncomputable def Try.pinned : Pinned := { name := "ytgofbfhnjhgfnaa", sum := "65415c065524441b0cc2e489a19887094c002ba3919503858962dfdf756b4b41", checked := Try.checked }
namespace Rows
def none {H : Type} : Left H := { results := [], args := [] }

/-- 'laws.FnExactShellCapacity': WHATEVER THE INPUT: true; the input reads as it did. -/
def fnExactShellCapacitySpec : ChangeSpec := { name := "fnExactShellCapacity", fn := fun _ => fun
  | [d] => { results := [.lit (.bool true)], args := [d] }
  | _ => none }
def fnExactShellCapacityRow : OpenClaim := { program := "ytgofbfhnjhgfnaa", sum := "65415c065524441b0cc2e489a19887094c002ba3919503858962dfdf756b4b41", func := "loop.example/atomicspectra/laws.FnExactShellCapacity", spec := "fnExactShellCapacity", apart := false }
def FnExactShellCapacitySaid : Prop := fnExactShellCapacityRow.holds Try.pinned (OpenSpec.ofChange fnExactShellCapacitySpec)

/-- ITS FALSE NEIGHBOUR: 'it returns false'. Refute it at one input. -/
def fnExactShellCapacityWrong : ChangeSpec := { name := "fnExactShellCapacity", fn := fun _ => fun
  | [d] => { results := [.lit (.bool false)], args := [d] }
  | _ => none }
def FnExactShellCapacityWrongFalsely : Prop := fnExactShellCapacityRow.holds Try.pinned (OpenSpec.ofChange fnExactShellCapacityWrong)

/-- 'laws.FnExactTermValid': WHATEVER THE INPUT: true; the input reads as it did. -/
def fnExactTermValidSpec : ChangeSpec := { name := "fnExactTermValid", fn := fun _ => fun
  | [d] => { results := [.lit (.bool true)], args := [d] }
  | _ => none }
def fnExactTermValidRow : OpenClaim := { program := "ytgofbfhnjhgfnaa", sum := "65415c065524441b0cc2e489a19887094c002ba3919503858962dfdf756b4b41", func := "loop.example/atomicspectra/laws.FnExactTermValid", spec := "fnExactTermValid", apart := false }
def FnExactTermValidSaid : Prop := fnExactTermValidRow.holds Try.pinned (OpenSpec.ofChange fnExactTermValidSpec)

/-- ITS FALSE NEIGHBOUR: 'it returns false'. Refute it at one input. -/
def fnExactTermValidWrong : ChangeSpec := { name := "fnExactTermValid", fn := fun _ => fun
  | [d] => { results := [.lit (.bool false)], args := [d] }
  | _ => none }
def FnExactTermValidWrongFalsely : Prop := fnExactTermValidRow.holds Try.pinned (OpenSpec.ofChange fnExactTermValidWrong)

/-- 'laws.FnExactShellValid': WHATEVER THE INPUT: true; the input reads as it did. -/
def fnExactShellValidSpec : ChangeSpec := { name := "fnExactShellValid", fn := fun _ => fun
  | [d] => { results := [.lit (.bool true)], args := [d] }
  | _ => none }
def fnExactShellValidRow : OpenClaim := { program := "ytgofbfhnjhgfnaa", sum := "65415c065524441b0cc2e489a19887094c002ba3919503858962dfdf756b4b41", func := "loop.example/atomicspectra/laws.FnExactShellValid", spec := "fnExactShellValid", apart := false }
def FnExactShellValidSaid : Prop := fnExactShellValidRow.holds Try.pinned (OpenSpec.ofChange fnExactShellValidSpec)

/-- ITS FALSE NEIGHBOUR: 'it returns false'. Refute it at one input. -/
def fnExactShellValidWrong : ChangeSpec := { name := "fnExactShellValid", fn := fun _ => fun
  | [d] => { results := [.lit (.bool false)], args := [d] }
  | _ => none }
def FnExactShellValidWrongFalsely : Prop := fnExactShellValidRow.holds Try.pinned (OpenSpec.ofChange fnExactShellValidWrong)

/-- 'laws.FnExactTermWeight': WHATEVER THE INPUT: true; the input reads as it did. -/
def fnExactTermWeightSpec : ChangeSpec := { name := "fnExactTermWeight", fn := fun _ => fun
  | [d] => { results := [.lit (.bool true)], args := [d] }
  | _ => none }
def fnExactTermWeightRow : OpenClaim := { program := "ytgofbfhnjhgfnaa", sum := "65415c065524441b0cc2e489a19887094c002ba3919503858962dfdf756b4b41", func := "loop.example/atomicspectra/laws.FnExactTermWeight", spec := "fnExactTermWeight", apart := false }
def FnExactTermWeightSaid : Prop := fnExactTermWeightRow.holds Try.pinned (OpenSpec.ofChange fnExactTermWeightSpec)

/-- ITS FALSE NEIGHBOUR: 'it returns false'. Refute it at one input. -/
def fnExactTermWeightWrong : ChangeSpec := { name := "fnExactTermWeight", fn := fun _ => fun
  | [d] => { results := [.lit (.bool false)], args := [d] }
  | _ => none }
def FnExactTermWeightWrongFalsely : Prop := fnExactTermWeightRow.holds Try.pinned (OpenSpec.ofChange fnExactTermWeightWrong)

/-- 'laws.FnShellCapacity': WHATEVER THE INPUT: true; the input reads as it did. -/
def fnShellCapacitySpec : ChangeSpec := { name := "fnShellCapacity", fn := fun _ => fun
  | [d] => { results := [.lit (.bool true)], args := [d] }
  | _ => none }
def fnShellCapacityRow : OpenClaim := { program := "ytgofbfhnjhgfnaa", sum := "65415c065524441b0cc2e489a19887094c002ba3919503858962dfdf756b4b41", func := "loop.example/atomicspectra/laws.FnShellCapacity", spec := "fnShellCapacity", apart := false }
def FnShellCapacitySaid : Prop := fnShellCapacityRow.holds Try.pinned (OpenSpec.ofChange fnShellCapacitySpec)

/-- ITS FALSE NEIGHBOUR: 'it returns false'. Refute it at one input. -/
def fnShellCapacityWrong : ChangeSpec := { name := "fnShellCapacity", fn := fun _ => fun
  | [d] => { results := [.lit (.bool false)], args := [d] }
  | _ => none }
def FnShellCapacityWrongFalsely : Prop := fnShellCapacityRow.holds Try.pinned (OpenSpec.ofChange fnShellCapacityWrong)

/-- 'laws.FnShell': WHATEVER THE INPUT: true; the input reads as it did. -/
def fnShellSpec : ChangeSpec := { name := "fnShell", fn := fun _ => fun
  | [d] => { results := [.lit (.bool true)], args := [d] }
  | _ => none }
def fnShellRow : OpenClaim := { program := "ytgofbfhnjhgfnaa", sum := "65415c065524441b0cc2e489a19887094c002ba3919503858962dfdf756b4b41", func := "loop.example/atomicspectra/laws.FnShell", spec := "fnShell", apart := false }
def FnShellSaid : Prop := fnShellRow.holds Try.pinned (OpenSpec.ofChange fnShellSpec)

/-- ITS FALSE NEIGHBOUR: 'it returns false'. Refute it at one input. -/
def fnShellWrong : ChangeSpec := { name := "fnShell", fn := fun _ => fun
  | [d] => { results := [.lit (.bool false)], args := [d] }
  | _ => none }
def FnShellWrongFalsely : Prop := fnShellRow.holds Try.pinned (OpenSpec.ofChange fnShellWrong)

/-- 'laws.FnTerm': WHATEVER THE INPUT: true; the input reads as it did. -/
def fnTermSpec : ChangeSpec := { name := "fnTerm", fn := fun _ => fun
  | [d] => { results := [.lit (.bool true)], args := [d] }
  | _ => none }
def fnTermRow : OpenClaim := { program := "ytgofbfhnjhgfnaa", sum := "65415c065524441b0cc2e489a19887094c002ba3919503858962dfdf756b4b41", func := "loop.example/atomicspectra/laws.FnTerm", spec := "fnTerm", apart := false }
def FnTermSaid : Prop := fnTermRow.holds Try.pinned (OpenSpec.ofChange fnTermSpec)

/-- ITS FALSE NEIGHBOUR: 'it returns false'. Refute it at one input. -/
def fnTermWrong : ChangeSpec := { name := "fnTerm", fn := fun _ => fun
  | [d] => { results := [.lit (.bool false)], args := [d] }
  | _ => none }
def FnTermWrongFalsely : Prop := fnTermRow.holds Try.pinned (OpenSpec.ofChange fnTermWrong)

/-- 'laws.FnExactShellAt': WHATEVER THE INPUT: true; the input reads as it did. -/
def fnExactShellAtSpec : ChangeSpec := { name := "fnExactShellAt", fn := fun _ => fun
  | [d] => { results := [.lit (.bool true)], args := [d] }
  | _ => none }
def fnExactShellAtRow : OpenClaim := { program := "ytgofbfhnjhgfnaa", sum := "65415c065524441b0cc2e489a19887094c002ba3919503858962dfdf756b4b41", func := "loop.example/atomicspectra/laws.FnExactShellAt", spec := "fnExactShellAt", apart := false }
def FnExactShellAtSaid : Prop := fnExactShellAtRow.holds Try.pinned (OpenSpec.ofChange fnExactShellAtSpec)

/-- ITS FALSE NEIGHBOUR: 'it returns false'. Refute it at one input. -/
def fnExactShellAtWrong : ChangeSpec := { name := "fnExactShellAt", fn := fun _ => fun
  | [d] => { results := [.lit (.bool false)], args := [d] }
  | _ => none }
def FnExactShellAtWrongFalsely : Prop := fnExactShellAtRow.holds Try.pinned (OpenSpec.ofChange fnExactShellAtWrong)

/-- 'laws.FnShellAtAll': WHATEVER THE INPUT: true; the input reads as it did. -/
def fnShellAtAllSpec : ChangeSpec := { name := "fnShellAtAll", fn := fun _ => fun
  | [d] => { results := [.lit (.bool true)], args := [d] }
  | _ => none }
def fnShellAtAllRow : OpenClaim := { program := "ytgofbfhnjhgfnaa", sum := "65415c065524441b0cc2e489a19887094c002ba3919503858962dfdf756b4b41", func := "loop.example/atomicspectra/laws.FnShellAtAll", spec := "fnShellAtAll", apart := false }
def FnShellAtAllSaid : Prop := fnShellAtAllRow.holds Try.pinned (OpenSpec.ofChange fnShellAtAllSpec)

/-- ITS FALSE NEIGHBOUR: 'it returns false'. Refute it at one input. -/
def fnShellAtAllWrong : ChangeSpec := { name := "fnShellAtAll", fn := fun _ => fun
  | [d] => { results := [.lit (.bool false)], args := [d] }
  | _ => none }
def FnShellAtAllWrongFalsely : Prop := fnShellAtAllRow.holds Try.pinned (OpenSpec.ofChange fnShellAtAllWrong)

/-- 'laws.FnShellAt': WHATEVER THE INPUT: true; the input reads as it did. -/
def fnShellAtSpec : ChangeSpec := { name := "fnShellAt", fn := fun _ => fun
  | [d] => { results := [.lit (.bool true)], args := [d] }
  | _ => none }
def fnShellAtRow : OpenClaim := { program := "ytgofbfhnjhgfnaa", sum := "65415c065524441b0cc2e489a19887094c002ba3919503858962dfdf756b4b41", func := "loop.example/atomicspectra/laws.FnShellAt", spec := "fnShellAt", apart := false }
def FnShellAtSaid : Prop := fnShellAtRow.holds Try.pinned (OpenSpec.ofChange fnShellAtSpec)

/-- ITS FALSE NEIGHBOUR: 'it returns false'. Refute it at one input. -/
def fnShellAtWrong : ChangeSpec := { name := "fnShellAt", fn := fun _ => fun
  | [d] => { results := [.lit (.bool false)], args := [d] }
  | _ => none }
def FnShellAtWrongFalsely : Prop := fnShellAtRow.holds Try.pinned (OpenSpec.ofChange fnShellAtWrong)

/-- 'laws.FnExactTermsWeight': WHATEVER THE INPUT: true; the input reads as it did. -/
def fnExactTermsWeightSpec : ChangeSpec := { name := "fnExactTermsWeight", fn := fun _ => fun
  | [d] => { results := [.lit (.bool true)], args := [d] }
  | _ => none }
def fnExactTermsWeightRow : OpenClaim := { program := "ytgofbfhnjhgfnaa", sum := "65415c065524441b0cc2e489a19887094c002ba3919503858962dfdf756b4b41", func := "loop.example/atomicspectra/laws.FnExactTermsWeight", spec := "fnExactTermsWeight", apart := false }
def FnExactTermsWeightSaid : Prop := fnExactTermsWeightRow.holds Try.pinned (OpenSpec.ofChange fnExactTermsWeightSpec)

/-- ITS FALSE NEIGHBOUR: 'it returns false'. Refute it at one input. -/
def fnExactTermsWeightWrong : ChangeSpec := { name := "fnExactTermsWeight", fn := fun _ => fun
  | [d] => { results := [.lit (.bool false)], args := [d] }
  | _ => none }
def FnExactTermsWeightWrongFalsely : Prop := fnExactTermsWeightRow.holds Try.pinned (OpenSpec.ofChange fnExactTermsWeightWrong)

/-- 'laws.FnTermsWeightParts': WHATEVER THE INPUT: true; the input reads as it did. -/
def fnTermsWeightPartsSpec : ChangeSpec := { name := "fnTermsWeightParts", fn := fun _ => fun
  | [d1, d2] => { results := [.lit (.bool true)], args := [d1, d2] }
  | _ => none }
def fnTermsWeightPartsRow : OpenClaim := { program := "ytgofbfhnjhgfnaa", sum := "65415c065524441b0cc2e489a19887094c002ba3919503858962dfdf756b4b41", func := "loop.example/atomicspectra/laws.FnTermsWeightParts", spec := "fnTermsWeightParts", apart := false }
def FnTermsWeightPartsSaid : Prop := fnTermsWeightPartsRow.holds Try.pinned (OpenSpec.ofChange fnTermsWeightPartsSpec)

/-- ITS FALSE NEIGHBOUR: 'it returns false'. Refute it at one input. -/
def fnTermsWeightPartsWrong : ChangeSpec := { name := "fnTermsWeightParts", fn := fun _ => fun
  | [d1, d2] => { results := [.lit (.bool false)], args := [d1, d2] }
  | _ => none }
def FnTermsWeightPartsWrongFalsely : Prop := fnTermsWeightPartsRow.holds Try.pinned (OpenSpec.ofChange fnTermsWeightPartsWrong)

/- THE SECOND FORM. 'bulk': how many values and letters a reading holds, each counted each time it is reached (what is shared counts as often as it is met; a slice's spare places count too). A statement '..UptoSaid' is the law's where the arguments, and the package variables that the reading takes, are together of bulk at most 1048576: NARROWER than '..Said'. Prove '..Said' where nothing that the law and all that it calls make is longer than what came in: it says more and counts as full. Else prove '..UptoSaid'. A law counts once. -/
mutual
def uptoBulk {H : Type} : DataW H → Nat
  | .lit (.string bytes) => bytes.length + 1
  | .lit _ => 1
  | .nil => 1
  | .ptr d => uptoBulk d + 1
  | .slice elems spare => uptoBulkAll elems + uptoBulkAll spare + 1
  | .agg parts => uptoBulkAll parts + 1
  | .iface _ d => uptoBulk d + 1
  | .map entries => uptoBulkEntries entries + 1
  | .held _ => 1
def uptoBulkAll {H : Type} : List (DataW H) → Nat
  | [] => 0
  | d :: r => uptoBulk d + uptoBulkAll r
def uptoBulkEntries {H : Type} : List (Lit × DataW H) → Nat
  | [] => 0
  | x :: r => uptoBulkEntry x + uptoBulkEntries r
def uptoBulkEntry {H : Type} : Lit × DataW H → Nat
  | (.string bytes, d) => bytes.length + uptoBulk d + 1
  | (_, d) => uptoBulk d + 1
 end
def uptoSmall : (H : Type) → List (DataW H) → Bool := fun _ ds => decide (uptoBulkAll ds ≤ 1048576)
def OpenSpec.upto (s : _root_.Go.ChangeSpec) : _root_.Go.OpenSpec := { _root_.Go.OpenSpec.ofChange s with cond := some uptoSmall }

/-- 'laws.FnExactShellCapacity', WHERE WHAT IT READS IS OF BULK AT MOST 1048576: true; the input reads as it did. -/
def fnExactShellCapacityUptoRow : OpenClaim := { program := "ytgofbfhnjhgfnaa", sum := "65415c065524441b0cc2e489a19887094c002ba3919503858962dfdf756b4b41", func := "loop.example/atomicspectra/laws.FnExactShellCapacity", spec := "fnExactShellCapacity", apart := false, narrowed := true }
def FnExactShellCapacityUptoSaid : Prop := fnExactShellCapacityUptoRow.holds Try.pinned (OpenSpec.upto fnExactShellCapacitySpec)

/-- 'laws.FnExactTermValid', WHERE WHAT IT READS IS OF BULK AT MOST 1048576: true; the input reads as it did. -/
def fnExactTermValidUptoRow : OpenClaim := { program := "ytgofbfhnjhgfnaa", sum := "65415c065524441b0cc2e489a19887094c002ba3919503858962dfdf756b4b41", func := "loop.example/atomicspectra/laws.FnExactTermValid", spec := "fnExactTermValid", apart := false, narrowed := true }
def FnExactTermValidUptoSaid : Prop := fnExactTermValidUptoRow.holds Try.pinned (OpenSpec.upto fnExactTermValidSpec)

/-- 'laws.FnExactShellValid', WHERE WHAT IT READS IS OF BULK AT MOST 1048576: true; the input reads as it did. -/
def fnExactShellValidUptoRow : OpenClaim := { program := "ytgofbfhnjhgfnaa", sum := "65415c065524441b0cc2e489a19887094c002ba3919503858962dfdf756b4b41", func := "loop.example/atomicspectra/laws.FnExactShellValid", spec := "fnExactShellValid", apart := false, narrowed := true }
def FnExactShellValidUptoSaid : Prop := fnExactShellValidUptoRow.holds Try.pinned (OpenSpec.upto fnExactShellValidSpec)

/-- 'laws.FnExactTermWeight', WHERE WHAT IT READS IS OF BULK AT MOST 1048576: true; the input reads as it did. -/
def fnExactTermWeightUptoRow : OpenClaim := { program := "ytgofbfhnjhgfnaa", sum := "65415c065524441b0cc2e489a19887094c002ba3919503858962dfdf756b4b41", func := "loop.example/atomicspectra/laws.FnExactTermWeight", spec := "fnExactTermWeight", apart := false, narrowed := true }
def FnExactTermWeightUptoSaid : Prop := fnExactTermWeightUptoRow.holds Try.pinned (OpenSpec.upto fnExactTermWeightSpec)

/-- 'laws.FnShellCapacity', WHERE WHAT IT READS IS OF BULK AT MOST 1048576: true; the input reads as it did. -/
def fnShellCapacityUptoRow : OpenClaim := { program := "ytgofbfhnjhgfnaa", sum := "65415c065524441b0cc2e489a19887094c002ba3919503858962dfdf756b4b41", func := "loop.example/atomicspectra/laws.FnShellCapacity", spec := "fnShellCapacity", apart := false, narrowed := true }
def FnShellCapacityUptoSaid : Prop := fnShellCapacityUptoRow.holds Try.pinned (OpenSpec.upto fnShellCapacitySpec)

/-- 'laws.FnShell', WHERE WHAT IT READS IS OF BULK AT MOST 1048576: true; the input reads as it did. -/
def fnShellUptoRow : OpenClaim := { program := "ytgofbfhnjhgfnaa", sum := "65415c065524441b0cc2e489a19887094c002ba3919503858962dfdf756b4b41", func := "loop.example/atomicspectra/laws.FnShell", spec := "fnShell", apart := false, narrowed := true }
def FnShellUptoSaid : Prop := fnShellUptoRow.holds Try.pinned (OpenSpec.upto fnShellSpec)

/-- 'laws.FnTerm', WHERE WHAT IT READS IS OF BULK AT MOST 1048576: true; the input reads as it did. -/
def fnTermUptoRow : OpenClaim := { program := "ytgofbfhnjhgfnaa", sum := "65415c065524441b0cc2e489a19887094c002ba3919503858962dfdf756b4b41", func := "loop.example/atomicspectra/laws.FnTerm", spec := "fnTerm", apart := false, narrowed := true }
def FnTermUptoSaid : Prop := fnTermUptoRow.holds Try.pinned (OpenSpec.upto fnTermSpec)

/-- 'laws.FnExactShellAt', WHERE WHAT IT READS IS OF BULK AT MOST 1048576: true; the input reads as it did. -/
def fnExactShellAtUptoRow : OpenClaim := { program := "ytgofbfhnjhgfnaa", sum := "65415c065524441b0cc2e489a19887094c002ba3919503858962dfdf756b4b41", func := "loop.example/atomicspectra/laws.FnExactShellAt", spec := "fnExactShellAt", apart := false, narrowed := true }
def FnExactShellAtUptoSaid : Prop := fnExactShellAtUptoRow.holds Try.pinned (OpenSpec.upto fnExactShellAtSpec)

/-- 'laws.FnShellAtAll', WHERE WHAT IT READS IS OF BULK AT MOST 1048576: true; the input reads as it did. -/
def fnShellAtAllUptoRow : OpenClaim := { program := "ytgofbfhnjhgfnaa", sum := "65415c065524441b0cc2e489a19887094c002ba3919503858962dfdf756b4b41", func := "loop.example/atomicspectra/laws.FnShellAtAll", spec := "fnShellAtAll", apart := false, narrowed := true }
def FnShellAtAllUptoSaid : Prop := fnShellAtAllUptoRow.holds Try.pinned (OpenSpec.upto fnShellAtAllSpec)

/-- 'laws.FnShellAt', WHERE WHAT IT READS IS OF BULK AT MOST 1048576: true; the input reads as it did. -/
def fnShellAtUptoRow : OpenClaim := { program := "ytgofbfhnjhgfnaa", sum := "65415c065524441b0cc2e489a19887094c002ba3919503858962dfdf756b4b41", func := "loop.example/atomicspectra/laws.FnShellAt", spec := "fnShellAt", apart := false, narrowed := true }
def FnShellAtUptoSaid : Prop := fnShellAtUptoRow.holds Try.pinned (OpenSpec.upto fnShellAtSpec)

/-- 'laws.FnExactTermsWeight', WHERE WHAT IT READS IS OF BULK AT MOST 1048576: true; the input reads as it did. -/
def fnExactTermsWeightUptoRow : OpenClaim := { program := "ytgofbfhnjhgfnaa", sum := "65415c065524441b0cc2e489a19887094c002ba3919503858962dfdf756b4b41", func := "loop.example/atomicspectra/laws.FnExactTermsWeight", spec := "fnExactTermsWeight", apart := false, narrowed := true }
def FnExactTermsWeightUptoSaid : Prop := fnExactTermsWeightUptoRow.holds Try.pinned (OpenSpec.upto fnExactTermsWeightSpec)

/-- 'laws.FnTermsWeightParts', WHERE WHAT IT READS IS OF BULK AT MOST 1048576: true; the input reads as it did. -/
def fnTermsWeightPartsUptoRow : OpenClaim := { program := "ytgofbfhnjhgfnaa", sum := "65415c065524441b0cc2e489a19887094c002ba3919503858962dfdf756b4b41", func := "loop.example/atomicspectra/laws.FnTermsWeightParts", spec := "fnTermsWeightParts", apart := false, narrowed := true }
def FnTermsWeightPartsUptoSaid : Prop := fnTermsWeightPartsUptoRow.holds Try.pinned (OpenSpec.upto fnTermsWeightPartsSpec)

end Rows
end Go.Proofs.Ytgofbfhnjhgfnaa
