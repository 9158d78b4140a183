/-
  No cell of these rows narrows 'for every input' (looked for: loops, veiled, ifaces, maps, wideKeys, modest, calm, conditions, laid).
  DERIVED. THE GIVEN ROWS OF THIS SEAT. 11 by the template 'for every input the law returns true; each argument reads behind the call as it read before'; 0 by the template 'total and deterministic' (their statements: YtocknafdgeneoaaTotals.lean).
  GIVEN WITH THE SEED: the statements are not yours to turn. If you find one false, say at which input.
  Laid BY PROGRAM, IN A SANDBOX (cutbox-rows.mjs): the forced cells as the released guide's own fill.sh prints them over the translation c7925f221e296e5d… (all of the seat's roots in one cut). By AI agents, Wed Nov 11 2026. No macro, syntax, notation, axiom, sorry.
-/
import Derived.Test.YtocknafdgeneoaaChecked
import GoSem.Claim
import GoSem.ClaimJoined
import GoSem.ClaimMapViews
import Derived.JoinedTies
import Derived.KernelRfl
namespace Go.Proofs.Ytocknafdgeneoaa
/- THE CELL 'sum', in the pinned program and in every row, IS THE sha256 OF THE DUMP (.gsa) THAT YtocknafdgeneoaaProg.lean LOADS. Nothing in Lean hashes anything: it is a label: what it is worth is what the hold of that sum in a sandbox is worth. -/
noncomputable def Try.pinned : Pinned := { name := "ytocknafdgeneoaa", sum := "c7925f221e296e5d289855ac6fd56a014ea163aea600dc413b49f1d277a1e349", checked := Try.checked }
namespace Rows
def none {H : Type} : Left H := { results := [], args := [] }

/-- 'laws.FnExactConfigValid': WHATEVER THE INPUT: true; the input reads as it did. -/
def fnExactConfigValidSpec : ChangeSpec := { name := "fnExactConfigValid", fn := fun _ => fun
  | [d] => { results := [.lit (.bool true)], args := [d] }
  | _ => none }
def fnExactConfigValidRow : OpenClaim := { program := "ytocknafdgeneoaa", sum := "c7925f221e296e5d289855ac6fd56a014ea163aea600dc413b49f1d277a1e349", func := "loop.example/atomicspectra/laws.FnExactConfigValid", spec := "fnExactConfigValid", apart := false }
def FnExactConfigValidSaid : Prop := fnExactConfigValidRow.holds Try.pinned (OpenSpec.ofChange fnExactConfigValidSpec)

/-- ITS FALSE NEIGHBOUR: 'it returns false'. Refute it at one input. -/
def fnExactConfigValidWrong : ChangeSpec := { name := "fnExactConfigValid", fn := fun _ => fun
  | [d] => { results := [.lit (.bool false)], args := [d] }
  | _ => none }
def FnExactConfigValidWrongFalsely : Prop := fnExactConfigValidRow.holds Try.pinned (OpenSpec.ofChange fnExactConfigValidWrong)

/-- 'laws.FnConfig': WHATEVER THE INPUT: true; the input reads as it did. -/
def fnConfigSpec : ChangeSpec := { name := "fnConfig", fn := fun _ => fun
  | [d1, d2] => { results := [.lit (.bool true)], args := [d1, d2] }
  | _ => none }
def fnConfigRow : OpenClaim := { program := "ytocknafdgeneoaa", sum := "c7925f221e296e5d289855ac6fd56a014ea163aea600dc413b49f1d277a1e349", func := "loop.example/atomicspectra/laws.FnConfig", spec := "fnConfig", apart := false }
def FnConfigSaid : Prop := fnConfigRow.holds Try.pinned (OpenSpec.ofChange fnConfigSpec)

/-- ITS FALSE NEIGHBOUR: 'it returns false'. Refute it at one input. -/
def fnConfigWrong : ChangeSpec := { name := "fnConfig", fn := fun _ => fun
  | [d1, d2] => { results := [.lit (.bool false)], args := [d1, d2] }
  | _ => none }
def FnConfigWrongFalsely : Prop := fnConfigRow.holds Try.pinned (OpenSpec.ofChange fnConfigWrong)

/-- 'laws.FnExactConfigParity': WHATEVER THE INPUT: true; the input reads as it did. -/
def fnExactConfigParitySpec : ChangeSpec := { name := "fnExactConfigParity", fn := fun _ => fun
  | [d] => { results := [.lit (.bool true)], args := [d] }
  | _ => none }
def fnExactConfigParityRow : OpenClaim := { program := "ytocknafdgeneoaa", sum := "c7925f221e296e5d289855ac6fd56a014ea163aea600dc413b49f1d277a1e349", func := "loop.example/atomicspectra/laws.FnExactConfigParity", spec := "fnExactConfigParity", apart := false }
def FnExactConfigParitySaid : Prop := fnExactConfigParityRow.holds Try.pinned (OpenSpec.ofChange fnExactConfigParitySpec)

/-- ITS FALSE NEIGHBOUR: 'it returns false'. Refute it at one input. -/
def fnExactConfigParityWrong : ChangeSpec := { name := "fnExactConfigParity", fn := fun _ => fun
  | [d] => { results := [.lit (.bool false)], args := [d] }
  | _ => none }
def FnExactConfigParityWrongFalsely : Prop := fnExactConfigParityRow.holds Try.pinned (OpenSpec.ofChange fnExactConfigParityWrong)

/-- 'laws.FnExactConfigElectrons': WHATEVER THE INPUT: true; the input reads as it did. -/
def fnExactConfigElectronsSpec : ChangeSpec := { name := "fnExactConfigElectrons", fn := fun _ => fun
  | [d] => { results := [.lit (.bool true)], args := [d] }
  | _ => none }
def fnExactConfigElectronsRow : OpenClaim := { program := "ytocknafdgeneoaa", sum := "c7925f221e296e5d289855ac6fd56a014ea163aea600dc413b49f1d277a1e349", func := "loop.example/atomicspectra/laws.FnExactConfigElectrons", spec := "fnExactConfigElectrons", apart := false }
def FnExactConfigElectronsSaid : Prop := fnExactConfigElectronsRow.holds Try.pinned (OpenSpec.ofChange fnExactConfigElectronsSpec)

/-- ITS FALSE NEIGHBOUR: 'it returns false'. Refute it at one input. -/
def fnExactConfigElectronsWrong : ChangeSpec := { name := "fnExactConfigElectrons", fn := fun _ => fun
  | [d] => { results := [.lit (.bool false)], args := [d] }
  | _ => none }
def FnExactConfigElectronsWrongFalsely : Prop := fnExactConfigElectronsRow.holds Try.pinned (OpenSpec.ofChange fnExactConfigElectronsWrong)

/-- 'laws.FnConfigElectrons': WHATEVER THE INPUT: true; the input reads as it did. -/
def fnConfigElectronsSpec : ChangeSpec := { name := "fnConfigElectrons", fn := fun _ => fun
  | [d1, d2] => { results := [.lit (.bool true)], args := [d1, d2] }
  | _ => none }
def fnConfigElectronsRow : OpenClaim := { program := "ytocknafdgeneoaa", sum := "c7925f221e296e5d289855ac6fd56a014ea163aea600dc413b49f1d277a1e349", func := "loop.example/atomicspectra/laws.FnConfigElectrons", spec := "fnConfigElectrons", apart := false }
def FnConfigElectronsSaid : Prop := fnConfigElectronsRow.holds Try.pinned (OpenSpec.ofChange fnConfigElectronsSpec)

/-- ITS FALSE NEIGHBOUR: 'it returns false'. Refute it at one input. -/
def fnConfigElectronsWrong : ChangeSpec := { name := "fnConfigElectrons", fn := fun _ => fun
  | [d1, d2] => { results := [.lit (.bool false)], args := [d1, d2] }
  | _ => none }
def FnConfigElectronsWrongFalsely : Prop := fnConfigElectronsRow.holds Try.pinned (OpenSpec.ofChange fnConfigElectronsWrong)

/-- 'laws.FnConfigParity': WHATEVER THE INPUT: true; the input reads as it did. -/
def fnConfigParitySpec : ChangeSpec := { name := "fnConfigParity", fn := fun _ => fun
  | [d1, d2] => { results := [.lit (.bool true)], args := [d1, d2] }
  | _ => none }
def fnConfigParityRow : OpenClaim := { program := "ytocknafdgeneoaa", sum := "c7925f221e296e5d289855ac6fd56a014ea163aea600dc413b49f1d277a1e349", func := "loop.example/atomicspectra/laws.FnConfigParity", spec := "fnConfigParity", apart := false }
def FnConfigParitySaid : Prop := fnConfigParityRow.holds Try.pinned (OpenSpec.ofChange fnConfigParitySpec)

/-- ITS FALSE NEIGHBOUR: 'it returns false'. Refute it at one input. -/
def fnConfigParityWrong : ChangeSpec := { name := "fnConfigParity", fn := fun _ => fun
  | [d1, d2] => { results := [.lit (.bool false)], args := [d1, d2] }
  | _ => none }
def FnConfigParityWrongFalsely : Prop := fnConfigParityRow.holds Try.pinned (OpenSpec.ofChange fnConfigParityWrong)

/-- 'laws.FnConfigOpen': WHATEVER THE INPUT: true; the input reads as it did. -/
def fnConfigOpenSpec : ChangeSpec := { name := "fnConfigOpen", fn := fun _ => fun
  | [d] => { results := [.lit (.bool true)], args := [d] }
  | _ => none }
def fnConfigOpenRow : OpenClaim := { program := "ytocknafdgeneoaa", sum := "c7925f221e296e5d289855ac6fd56a014ea163aea600dc413b49f1d277a1e349", func := "loop.example/atomicspectra/laws.FnConfigOpen", spec := "fnConfigOpen", apart := false }
def FnConfigOpenSaid : Prop := fnConfigOpenRow.holds Try.pinned (OpenSpec.ofChange fnConfigOpenSpec)

/-- ITS FALSE NEIGHBOUR: 'it returns false'. Refute it at one input. -/
def fnConfigOpenWrong : ChangeSpec := { name := "fnConfigOpen", fn := fun _ => fun
  | [d] => { results := [.lit (.bool false)], args := [d] }
  | _ => none }
def FnConfigOpenWrongFalsely : Prop := fnConfigOpenRow.holds Try.pinned (OpenSpec.ofChange fnConfigOpenWrong)

/-- 'laws.FnExactConfigOpen': WHATEVER THE INPUT: true; the input reads as it did. -/
def fnExactConfigOpenSpec : ChangeSpec := { name := "fnExactConfigOpen", fn := fun _ => fun
  | [d] => { results := [.lit (.bool true)], args := [d] }
  | _ => none }
def fnExactConfigOpenRow : OpenClaim := { program := "ytocknafdgeneoaa", sum := "c7925f221e296e5d289855ac6fd56a014ea163aea600dc413b49f1d277a1e349", func := "loop.example/atomicspectra/laws.FnExactConfigOpen", spec := "fnExactConfigOpen", apart := false }
def FnExactConfigOpenSaid : Prop := fnExactConfigOpenRow.holds Try.pinned (OpenSpec.ofChange fnExactConfigOpenSpec)

/-- ITS FALSE NEIGHBOUR: 'it returns false'. Refute it at one input. -/
def fnExactConfigOpenWrong : ChangeSpec := { name := "fnExactConfigOpen", fn := fun _ => fun
  | [d] => { results := [.lit (.bool false)], args := [d] }
  | _ => none }
def FnExactConfigOpenWrongFalsely : Prop := fnExactConfigOpenRow.holds Try.pinned (OpenSpec.ofChange fnExactConfigOpenWrong)

/-- 'laws.FnExactConfigWeight': WHATEVER THE INPUT: true; the input reads as it did. -/
def fnExactConfigWeightSpec : ChangeSpec := { name := "fnExactConfigWeight", fn := fun _ => fun
  | [d] => { results := [.lit (.bool true)], args := [d] }
  | _ => none }
def fnExactConfigWeightRow : OpenClaim := { program := "ytocknafdgeneoaa", sum := "c7925f221e296e5d289855ac6fd56a014ea163aea600dc413b49f1d277a1e349", func := "loop.example/atomicspectra/laws.FnExactConfigWeight", spec := "fnExactConfigWeight", apart := false }
def FnExactConfigWeightSaid : Prop := fnExactConfigWeightRow.holds Try.pinned (OpenSpec.ofChange fnExactConfigWeightSpec)

/-- ITS FALSE NEIGHBOUR: 'it returns false'. Refute it at one input. -/
def fnExactConfigWeightWrong : ChangeSpec := { name := "fnExactConfigWeight", fn := fun _ => fun
  | [d] => { results := [.lit (.bool false)], args := [d] }
  | _ => none }
def FnExactConfigWeightWrongFalsely : Prop := fnExactConfigWeightRow.holds Try.pinned (OpenSpec.ofChange fnExactConfigWeightWrong)

/-- 'laws.FnConfigHoles': WHATEVER THE INPUT: true; the input reads as it did. -/
def fnConfigHolesSpec : ChangeSpec := { name := "fnConfigHoles", fn := fun _ => fun
  | [d] => { results := [.lit (.bool true)], args := [d] }
  | _ => none }
def fnConfigHolesRow : OpenClaim := { program := "ytocknafdgeneoaa", sum := "c7925f221e296e5d289855ac6fd56a014ea163aea600dc413b49f1d277a1e349", func := "loop.example/atomicspectra/laws.FnConfigHoles", spec := "fnConfigHoles", apart := false }
def FnConfigHolesSaid : Prop := fnConfigHolesRow.holds Try.pinned (OpenSpec.ofChange fnConfigHolesSpec)

/-- ITS FALSE NEIGHBOUR: 'it returns false'. Refute it at one input. -/
def fnConfigHolesWrong : ChangeSpec := { name := "fnConfigHoles", fn := fun _ => fun
  | [d] => { results := [.lit (.bool false)], args := [d] }
  | _ => none }
def FnConfigHolesWrongFalsely : Prop := fnConfigHolesRow.holds Try.pinned (OpenSpec.ofChange fnConfigHolesWrong)

/-- 'laws.FnConfigWeight': WHATEVER THE INPUT: true; the input reads as it did. -/
def fnConfigWeightSpec : ChangeSpec := { name := "fnConfigWeight", fn := fun _ => fun
  | [d1, d2] => { results := [.lit (.bool true)], args := [d1, d2] }
  | _ => none }
def fnConfigWeightRow : OpenClaim := { program := "ytocknafdgeneoaa", sum := "c7925f221e296e5d289855ac6fd56a014ea163aea600dc413b49f1d277a1e349", func := "loop.example/atomicspectra/laws.FnConfigWeight", spec := "fnConfigWeight", apart := false }
def FnConfigWeightSaid : Prop := fnConfigWeightRow.holds Try.pinned (OpenSpec.ofChange fnConfigWeightSpec)

/-- ITS FALSE NEIGHBOUR: 'it returns false'. Refute it at one input. -/
def fnConfigWeightWrong : ChangeSpec := { name := "fnConfigWeight", fn := fun _ => fun
  | [d1, d2] => { results := [.lit (.bool false)], args := [d1, d2] }
  | _ => none }
def FnConfigWeightWrongFalsely : Prop := fnConfigWeightRow.holds Try.pinned (OpenSpec.ofChange fnConfigWeightWrong)

/- THE SECOND FORM. 'bulk': how many values and letters a reading holds, each counted each time it is reached (what is shared counts as often as it is met; a slice's spare places count too). A statement '..UptoSaid' is the law's where the arguments, and the package variables that the reading takes, are together of bulk at most 1048576: NARROWER than '..Said'. Prove '..Said' where nothing that the law and all that it calls make is longer than what came in: it says more and counts as full. Else prove '..UptoSaid'. A law counts once. -/
mutual
def uptoBulk {H : Type} : DataW H → Nat
  | .lit (.string bytes) => bytes.length + 1
  | .lit _ => 1
  | .nil => 1
  | .ptr d => uptoBulk d + 1
  | .slice elems spare => uptoBulkAll elems + uptoBulkAll spare + 1
  | .agg parts => uptoBulkAll parts + 1
  | .iface _ d => uptoBulk d + 1
  | .map entries => uptoBulkEntries entries + 1
  | .held _ => 1
def uptoBulkAll {H : Type} : List (DataW H) → Nat
  | [] => 0
  | d :: r => uptoBulk d + uptoBulkAll r
def uptoBulkEntries {H : Type} : List (Lit × DataW H) → Nat
  | [] => 0
  | x :: r => uptoBulkEntry x + uptoBulkEntries r
def uptoBulkEntry {H : Type} : Lit × DataW H → Nat
  | (.string bytes, d) => bytes.length + uptoBulk d + 1
  | (_, d) => uptoBulk d + 1
 end
def uptoSmall : (H : Type) → List (DataW H) → Bool := fun _ ds => decide (uptoBulkAll ds ≤ 1048576)
def OpenSpec.upto (s : _root_.Go.ChangeSpec) : _root_.Go.OpenSpec := { _root_.Go.OpenSpec.ofChange s with cond := some uptoSmall }

/-- 'laws.FnExactConfigValid', WHERE WHAT IT READS IS OF BULK AT MOST 1048576: true; the input reads as it did. -/
def fnExactConfigValidUptoRow : OpenClaim := { program := "ytocknafdgeneoaa", sum := "c7925f221e296e5d289855ac6fd56a014ea163aea600dc413b49f1d277a1e349", func := "loop.example/atomicspectra/laws.FnExactConfigValid", spec := "fnExactConfigValid", apart := false, narrowed := true }
def FnExactConfigValidUptoSaid : Prop := fnExactConfigValidUptoRow.holds Try.pinned (OpenSpec.upto fnExactConfigValidSpec)

/-- 'laws.FnConfig', WHERE WHAT IT READS IS OF BULK AT MOST 1048576: true; the input reads as it did. -/
def fnConfigUptoRow : OpenClaim := { program := "ytocknafdgeneoaa", sum := "c7925f221e296e5d289855ac6fd56a014ea163aea600dc413b49f1d277a1e349", func := "loop.example/atomicspectra/laws.FnConfig", spec := "fnConfig", apart := false, narrowed := true }
def FnConfigUptoSaid : Prop := fnConfigUptoRow.holds Try.pinned (OpenSpec.upto fnConfigSpec)

/-- 'laws.FnExactConfigParity', WHERE WHAT IT READS IS OF BULK AT MOST 1048576: true; the input reads as it did. -/
def fnExactConfigParityUptoRow : OpenClaim := { program := "ytocknafdgeneoaa", sum := "c7925f221e296e5d289855ac6fd56a014ea163aea600dc413b49f1d277a1e349", func := "loop.example/atomicspectra/laws.FnExactConfigParity", spec := "fnExactConfigParity", apart := false, narrowed := true }
def FnExactConfigParityUptoSaid : Prop := fnExactConfigParityUptoRow.holds Try.pinned (OpenSpec.upto fnExactConfigParitySpec)

/-- 'laws.FnExactConfigElectrons', WHERE WHAT IT READS IS OF BULK AT MOST 1048576: true; the input reads as it did. -/
def fnExactConfigElectronsUptoRow : OpenClaim := { program := "ytocknafdgeneoaa", sum := "c7925f221e296e5d289855ac6fd56a014ea163aea600dc413b49f1d277a1e349", func := "loop.example/atomicspectra/laws.FnExactConfigElectrons", spec := "fnExactConfigElectrons", apart := false, narrowed := true }
def FnExactConfigElectronsUptoSaid : Prop := fnExactConfigElectronsUptoRow.holds Try.pinned (OpenSpec.upto fnExactConfigElectronsSpec)

/-- 'laws.FnConfigElectrons', WHERE WHAT IT READS IS OF BULK AT MOST 1048576: true; the input reads as it did. -/
def fnConfigElectronsUptoRow : OpenClaim := { program := "ytocknafdgeneoaa", sum := "c7925f221e296e5d289855ac6fd56a014ea163aea600dc413b49f1d277a1e349", func := "loop.example/atomicspectra/laws.FnConfigElectrons", spec := "fnConfigElectrons", apart := false, narrowed := true }
def FnConfigElectronsUptoSaid : Prop := fnConfigElectronsUptoRow.holds Try.pinned (OpenSpec.upto fnConfigElectronsSpec)

/-- 'laws.FnConfigParity', WHERE WHAT IT READS IS OF BULK AT MOST 1048576: true; the input reads as it did. -/
def fnConfigParityUptoRow : OpenClaim := { program := "ytocknafdgeneoaa", sum := "c7925f221e296e5d289855ac6fd56a014ea163aea600dc413b49f1d277a1e349", func := "loop.example/atomicspectra/laws.FnConfigParity", spec := "fnConfigParity", apart := false, narrowed := true }
def FnConfigParityUptoSaid : Prop := fnConfigParityUptoRow.holds Try.pinned (OpenSpec.upto fnConfigParitySpec)

/-- 'laws.FnConfigOpen', WHERE WHAT IT READS IS OF BULK AT MOST 1048576: true; the input reads as it did. -/
def fnConfigOpenUptoRow : OpenClaim := { program := "ytocknafdgeneoaa", sum := "c7925f221e296e5d289855ac6fd56a014ea163aea600dc413b49f1d277a1e349", func := "loop.example/atomicspectra/laws.FnConfigOpen", spec := "fnConfigOpen", apart := false, narrowed := true }
def FnConfigOpenUptoSaid : Prop := fnConfigOpenUptoRow.holds Try.pinned (OpenSpec.upto fnConfigOpenSpec)

/-- 'laws.FnExactConfigOpen', WHERE WHAT IT READS IS OF BULK AT MOST 1048576: true; the input reads as it did. -/
def fnExactConfigOpenUptoRow : OpenClaim := { program := "ytocknafdgeneoaa", sum := "c7925f221e296e5d289855ac6fd56a014ea163aea600dc413b49f1d277a1e349", func := "loop.example/atomicspectra/laws.FnExactConfigOpen", spec := "fnExactConfigOpen", apart := false, narrowed := true }
def FnExactConfigOpenUptoSaid : Prop := fnExactConfigOpenUptoRow.holds Try.pinned (OpenSpec.upto fnExactConfigOpenSpec)

/-- 'laws.FnExactConfigWeight', WHERE WHAT IT READS IS OF BULK AT MOST 1048576: true; the input reads as it did. -/
def fnExactConfigWeightUptoRow : OpenClaim := { program := "ytocknafdgeneoaa", sum := "c7925f221e296e5d289855ac6fd56a014ea163aea600dc413b49f1d277a1e349", func := "loop.example/atomicspectra/laws.FnExactConfigWeight", spec := "fnExactConfigWeight", apart := false, narrowed := true }
def FnExactConfigWeightUptoSaid : Prop := fnExactConfigWeightUptoRow.holds Try.pinned (OpenSpec.upto fnExactConfigWeightSpec)

/-- 'laws.FnConfigHoles', WHERE WHAT IT READS IS OF BULK AT MOST 1048576: true; the input reads as it did. -/
def fnConfigHolesUptoRow : OpenClaim := { program := "ytocknafdgeneoaa", sum := "c7925f221e296e5d289855ac6fd56a014ea163aea600dc413b49f1d277a1e349", func := "loop.example/atomicspectra/laws.FnConfigHoles", spec := "fnConfigHoles", apart := false, narrowed := true }
def FnConfigHolesUptoSaid : Prop := fnConfigHolesUptoRow.holds Try.pinned (OpenSpec.upto fnConfigHolesSpec)

/-- 'laws.FnConfigWeight', WHERE WHAT IT READS IS OF BULK AT MOST 1048576: true; the input reads as it did. -/
def fnConfigWeightUptoRow : OpenClaim := { program := "ytocknafdgeneoaa", sum := "c7925f221e296e5d289855ac6fd56a014ea163aea600dc413b49f1d277a1e349", func := "loop.example/atomicspectra/laws.FnConfigWeight", spec := "fnConfigWeight", apart := false, narrowed := true }
def FnConfigWeightUptoSaid : Prop := fnConfigWeightUptoRow.holds Try.pinned (OpenSpec.upto fnConfigWeightSpec)

end Rows
end Go.Proofs.Ytocknafdgeneoaa
