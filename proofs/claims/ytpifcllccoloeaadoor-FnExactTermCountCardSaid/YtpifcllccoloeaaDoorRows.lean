/-
  NARROWER THAN 'FOR EVERY INPUT', by the rows' own cells (each row's printed sentence says how): FnExactMicroCount: laid · FnExactMicroOrbit: laid · FnExactMicroSpin: laid · FnExactTermCount: laid · FnMicroBoth: laid · FnMicroEnds: laid · FnMicroFalls: laid · FnMicroHoles: laid · FnMicroMirror: laid · FnMicroParity: laid · FnMicroSplit: laid.
  DERIVED. THE GIVEN ROWS OF THIS SEAT. 11 by the template 'for every input the law returns true; each argument reads behind the call as it read before'; 0 by the template 'total and deterministic' (their statements: YtpifcllccoloeaaDoorTotals.lean).
  GIVEN WITH THE SEED: the statements are not yours to turn. If you find one false, say at which input.
  Laid BY PROGRAM, IN A SANDBOX (cutbox-rows.mjs): the forced cells as the released guide's own fill.sh prints them over the translation 59ec2912ed7b4d7a… (all of the seat's roots in one cut). By AI agents, Wed Nov 11 2026. No macro, syntax, notation, axiom, sorry.
-/
import Derived.Test.YtpifcllccoloeaaDoorChecked
import GoSem.Claim
import GoSem.ClaimJoined
import GoSem.ClaimMapViews
import Derived.JoinedTies
import Derived.KernelRfl
namespace Go.Proofs.YtpifcllccoloeaaDoor
/- THE CELL 'sum', in the pinned program and in every row, IS THE sha256 OF THE DUMP (.gsa) THAT YtpifcllccoloeaaDoorProg.lean LOADS. Nothing in Lean hashes anything: it is a label: what it is worth is what the hold of that sum in a sandbox is worth. -/
noncomputable def Tryd.pinned : Pinned := { name := "ytpifcllccoloeaadoor", sum := "59ec2912ed7b4d7a6829e487182461a85193f7102d06170adf780a498e021412", checked := Tryd.checked }
namespace Rows
def none {H : Type} : Left H := { results := [], args := [] }

/- WHAT THE LISTED PACKAGE-LEVEL VARIABLES READ AS WHEN THE CALL BEGINS. Each datum BY PROGRAM (the guide's laid-datum.mjs) off the statement by which the dump's own 'gosem.cut.vars' lays the variable. In a bare row this is a premise. The card (YtpifcllccoloeaaDoorCards.lean) ties it to the program's text. -/
def laid_math_bits_deBruijn32tab {H : Type} : DataW H := .agg [.lit (.int .u8 0), .lit (.int .u8 1), .lit (.int .u8 28), .lit (.int .u8 2), .lit (.int .u8 29), .lit (.int .u8 14), .lit (.int .u8 24), .lit (.int .u8 3), .lit (.int .u8 30), .lit (.int .u8 22), .lit (.int .u8 20), .lit (.int .u8 15), .lit (.int .u8 25), .lit (.int .u8 17), .lit (.int .u8 4), .lit (.int .u8 8), .lit (.int .u8 31), .lit (.int .u8 27), .lit (.int .u8 13), .lit (.int .u8 23), .lit (.int .u8 21), .lit (.int .u8 19), .lit (.int .u8 16), .lit (.int .u8 7), .lit (.int .u8 26), .lit (.int .u8 12), .lit (.int .u8 18), .lit (.int .u8 6), .lit (.int .u8 11), .lit (.int .u8 5), .lit (.int .u8 10), .lit (.int .u8 9)]
def laid_math_bits_deBruijn64tab {H : Type} : DataW H := .agg [.lit (.int .u8 0), .lit (.int .u8 1), .lit (.int .u8 56), .lit (.int .u8 2), .lit (.int .u8 57), .lit (.int .u8 49), .lit (.int .u8 28), .lit (.int .u8 3), .lit (.int .u8 61), .lit (.int .u8 58), .lit (.int .u8 42), .lit (.int .u8 50), .lit (.int .u8 38), .lit (.int .u8 29), .lit (.int .u8 17), .lit (.int .u8 4), .lit (.int .u8 62), .lit (.int .u8 47), .lit (.int .u8 59), .lit (.int .u8 36), .lit (.int .u8 45), .lit (.int .u8 43), .lit (.int .u8 51), .lit (.int .u8 22), .lit (.int .u8 53), .lit (.int .u8 39), .lit (.int .u8 33), .lit (.int .u8 30), .lit (.int .u8 24), .lit (.int .u8 18), .lit (.int .u8 12), .lit (.int .u8 5), .lit (.int .u8 63), .lit (.int .u8 55), .lit (.int .u8 48), .lit (.int .u8 27), .lit (.int .u8 60), .lit (.int .u8 41), .lit (.int .u8 37), .lit (.int .u8 16), .lit (.int .u8 46), .lit (.int .u8 35), .lit (.int .u8 44), .lit (.int .u8 21), .lit (.int .u8 52), .lit (.int .u8 32), .lit (.int .u8 23), .lit (.int .u8 11), .lit (.int .u8 54), .lit (.int .u8 26), .lit (.int .u8 40), .lit (.int .u8 15), .lit (.int .u8 34), .lit (.int .u8 20), .lit (.int .u8 31), .lit (.int .u8 10), .lit (.int .u8 25), .lit (.int .u8 14), .lit (.int .u8 19), .lit (.int .u8 9), .lit (.int .u8 13), .lit (.int .u8 8), .lit (.int .u8 7), .lit (.int .u8 6)]

/-- 'laws.FnExactMicroCount': WHATEVER THE INPUT: true; the input reads as it did. -/
def fnExactMicroCountSpec : ChangeSpec := { name := "fnExactMicroCount", fn := fun _ => fun
  | [d1, d2, d3, d4] => { results := [.lit (.bool true)], args := [d1, d2, d3, d4] }
  | _ => none }
def fnExactMicroCountRow : OpenClaim := { program := "ytpifcllccoloeaadoor", sum := "59ec2912ed7b4d7a6829e487182461a85193f7102d06170adf780a498e021412", func := "loop.example/atomicspectra/laws.FnExactMicroCount", spec := "fnExactMicroCount", recurses := true, named := ["math/bits.deBruijn32tab", "math/bits.deBruijn64tab"], plainKeys := false, apart := false, laid := [("math/bits.deBruijn32tab", laid_math_bits_deBruijn32tab), ("math/bits.deBruijn64tab", laid_math_bits_deBruijn64tab)] }
def FnExactMicroCountSaid : Prop := fnExactMicroCountRow.holds Tryd.pinned (OpenSpec.ofChange fnExactMicroCountSpec)

/-- ITS FALSE NEIGHBOUR: 'it returns false'. Refute it at one input. -/
def fnExactMicroCountWrong : ChangeSpec := { name := "fnExactMicroCount", fn := fun _ => fun
  | [d1, d2, d3, d4] => { results := [.lit (.bool false)], args := [d1, d2, d3, d4] }
  | _ => none }
def FnExactMicroCountWrongFalsely : Prop := fnExactMicroCountRow.holds Tryd.pinned (OpenSpec.ofChange fnExactMicroCountWrong)

/-- 'laws.FnExactMicroOrbit': WHATEVER THE INPUT: true; the input reads as it did. -/
def fnExactMicroOrbitSpec : ChangeSpec := { name := "fnExactMicroOrbit", fn := fun _ => fun
  | [d1, d2, d3] => { results := [.lit (.bool true)], args := [d1, d2, d3] }
  | _ => none }
def fnExactMicroOrbitRow : OpenClaim := { program := "ytpifcllccoloeaadoor", sum := "59ec2912ed7b4d7a6829e487182461a85193f7102d06170adf780a498e021412", func := "loop.example/atomicspectra/laws.FnExactMicroOrbit", spec := "fnExactMicroOrbit", recurses := true, named := ["math/bits.deBruijn32tab", "math/bits.deBruijn64tab"], plainKeys := false, apart := false, laid := [("math/bits.deBruijn32tab", laid_math_bits_deBruijn32tab), ("math/bits.deBruijn64tab", laid_math_bits_deBruijn64tab)] }
def FnExactMicroOrbitSaid : Prop := fnExactMicroOrbitRow.holds Tryd.pinned (OpenSpec.ofChange fnExactMicroOrbitSpec)

/-- ITS FALSE NEIGHBOUR: 'it returns false'. Refute it at one input. -/
def fnExactMicroOrbitWrong : ChangeSpec := { name := "fnExactMicroOrbit", fn := fun _ => fun
  | [d1, d2, d3] => { results := [.lit (.bool false)], args := [d1, d2, d3] }
  | _ => none }
def FnExactMicroOrbitWrongFalsely : Prop := fnExactMicroOrbitRow.holds Tryd.pinned (OpenSpec.ofChange fnExactMicroOrbitWrong)

/-- 'laws.FnExactMicroSpin': WHATEVER THE INPUT: true; the input reads as it did. -/
def fnExactMicroSpinSpec : ChangeSpec := { name := "fnExactMicroSpin", fn := fun _ => fun
  | [d1, d2, d3] => { results := [.lit (.bool true)], args := [d1, d2, d3] }
  | _ => none }
def fnExactMicroSpinRow : OpenClaim := { program := "ytpifcllccoloeaadoor", sum := "59ec2912ed7b4d7a6829e487182461a85193f7102d06170adf780a498e021412", func := "loop.example/atomicspectra/laws.FnExactMicroSpin", spec := "fnExactMicroSpin", recurses := true, named := ["math/bits.deBruijn32tab", "math/bits.deBruijn64tab"], plainKeys := false, apart := false, laid := [("math/bits.deBruijn32tab", laid_math_bits_deBruijn32tab), ("math/bits.deBruijn64tab", laid_math_bits_deBruijn64tab)] }
def FnExactMicroSpinSaid : Prop := fnExactMicroSpinRow.holds Tryd.pinned (OpenSpec.ofChange fnExactMicroSpinSpec)

/-- ITS FALSE NEIGHBOUR: 'it returns false'. Refute it at one input. -/
def fnExactMicroSpinWrong : ChangeSpec := { name := "fnExactMicroSpin", fn := fun _ => fun
  | [d1, d2, d3] => { results := [.lit (.bool false)], args := [d1, d2, d3] }
  | _ => none }
def FnExactMicroSpinWrongFalsely : Prop := fnExactMicroSpinRow.holds Tryd.pinned (OpenSpec.ofChange fnExactMicroSpinWrong)

/-- 'laws.FnExactTermCount': WHATEVER THE INPUT: true; the input reads as it did. -/
def fnExactTermCountSpec : ChangeSpec := { name := "fnExactTermCount", fn := fun _ => fun
  | [d1, d2, d3] => { results := [.lit (.bool true)], args := [d1, d2, d3] }
  | _ => none }
def fnExactTermCountRow : OpenClaim := { program := "ytpifcllccoloeaadoor", sum := "59ec2912ed7b4d7a6829e487182461a85193f7102d06170adf780a498e021412", func := "loop.example/atomicspectra/laws.FnExactTermCount", spec := "fnExactTermCount", recurses := true, named := ["math/bits.deBruijn32tab", "math/bits.deBruijn64tab"], plainKeys := false, apart := false, laid := [("math/bits.deBruijn32tab", laid_math_bits_deBruijn32tab), ("math/bits.deBruijn64tab", laid_math_bits_deBruijn64tab)] }
def FnExactTermCountSaid : Prop := fnExactTermCountRow.holds Tryd.pinned (OpenSpec.ofChange fnExactTermCountSpec)

/-- ITS FALSE NEIGHBOUR: 'it returns false'. Refute it at one input. -/
def fnExactTermCountWrong : ChangeSpec := { name := "fnExactTermCount", fn := fun _ => fun
  | [d1, d2, d3] => { results := [.lit (.bool false)], args := [d1, d2, d3] }
  | _ => none }
def FnExactTermCountWrongFalsely : Prop := fnExactTermCountRow.holds Tryd.pinned (OpenSpec.ofChange fnExactTermCountWrong)

/-- 'laws.FnMicroBoth': WHATEVER THE INPUT: true; the input reads as it did. -/
def fnMicroBothSpec : ChangeSpec := { name := "fnMicroBoth", fn := fun _ => fun
  | [d] => { results := [.lit (.bool true)], args := [d] }
  | _ => none }
def fnMicroBothRow : OpenClaim := { program := "ytpifcllccoloeaadoor", sum := "59ec2912ed7b4d7a6829e487182461a85193f7102d06170adf780a498e021412", func := "loop.example/atomicspectra/laws.FnMicroBoth", spec := "fnMicroBoth", recurses := true, named := ["math/bits.deBruijn32tab", "math/bits.deBruijn64tab"], plainKeys := false, apart := false, laid := [("math/bits.deBruijn32tab", laid_math_bits_deBruijn32tab), ("math/bits.deBruijn64tab", laid_math_bits_deBruijn64tab)] }
def FnMicroBothSaid : Prop := fnMicroBothRow.holds Tryd.pinned (OpenSpec.ofChange fnMicroBothSpec)

/-- ITS FALSE NEIGHBOUR: 'it returns false'. Refute it at one input. -/
def fnMicroBothWrong : ChangeSpec := { name := "fnMicroBoth", fn := fun _ => fun
  | [d] => { results := [.lit (.bool false)], args := [d] }
  | _ => none }
def FnMicroBothWrongFalsely : Prop := fnMicroBothRow.holds Tryd.pinned (OpenSpec.ofChange fnMicroBothWrong)

/-- 'laws.FnMicroEnds': WHATEVER THE INPUT: true; the input reads as it did. -/
def fnMicroEndsSpec : ChangeSpec := { name := "fnMicroEnds", fn := fun _ => fun
  | [d] => { results := [.lit (.bool true)], args := [d] }
  | _ => none }
def fnMicroEndsRow : OpenClaim := { program := "ytpifcllccoloeaadoor", sum := "59ec2912ed7b4d7a6829e487182461a85193f7102d06170adf780a498e021412", func := "loop.example/atomicspectra/laws.FnMicroEnds", spec := "fnMicroEnds", recurses := true, named := ["math/bits.deBruijn32tab", "math/bits.deBruijn64tab"], plainKeys := false, apart := false, laid := [("math/bits.deBruijn32tab", laid_math_bits_deBruijn32tab), ("math/bits.deBruijn64tab", laid_math_bits_deBruijn64tab)] }
def FnMicroEndsSaid : Prop := fnMicroEndsRow.holds Tryd.pinned (OpenSpec.ofChange fnMicroEndsSpec)

/-- ITS FALSE NEIGHBOUR: 'it returns false'. Refute it at one input. -/
def fnMicroEndsWrong : ChangeSpec := { name := "fnMicroEnds", fn := fun _ => fun
  | [d] => { results := [.lit (.bool false)], args := [d] }
  | _ => none }
def FnMicroEndsWrongFalsely : Prop := fnMicroEndsRow.holds Tryd.pinned (OpenSpec.ofChange fnMicroEndsWrong)

/-- 'laws.FnMicroFalls': WHATEVER THE INPUT: true; the input reads as it did. -/
def fnMicroFallsSpec : ChangeSpec := { name := "fnMicroFalls", fn := fun _ => fun
  | [d] => { results := [.lit (.bool true)], args := [d] }
  | _ => none }
def fnMicroFallsRow : OpenClaim := { program := "ytpifcllccoloeaadoor", sum := "59ec2912ed7b4d7a6829e487182461a85193f7102d06170adf780a498e021412", func := "loop.example/atomicspectra/laws.FnMicroFalls", spec := "fnMicroFalls", recurses := true, named := ["math/bits.deBruijn32tab", "math/bits.deBruijn64tab"], plainKeys := false, apart := false, laid := [("math/bits.deBruijn32tab", laid_math_bits_deBruijn32tab), ("math/bits.deBruijn64tab", laid_math_bits_deBruijn64tab)] }
def FnMicroFallsSaid : Prop := fnMicroFallsRow.holds Tryd.pinned (OpenSpec.ofChange fnMicroFallsSpec)

/-- ITS FALSE NEIGHBOUR: 'it returns false'. Refute it at one input. -/
def fnMicroFallsWrong : ChangeSpec := { name := "fnMicroFalls", fn := fun _ => fun
  | [d] => { results := [.lit (.bool false)], args := [d] }
  | _ => none }
def FnMicroFallsWrongFalsely : Prop := fnMicroFallsRow.holds Tryd.pinned (OpenSpec.ofChange fnMicroFallsWrong)

/-- 'laws.FnMicroHoles': WHATEVER THE INPUT: true; the input reads as it did. -/
def fnMicroHolesSpec : ChangeSpec := { name := "fnMicroHoles", fn := fun _ => fun
  | [d] => { results := [.lit (.bool true)], args := [d] }
  | _ => none }
def fnMicroHolesRow : OpenClaim := { program := "ytpifcllccoloeaadoor", sum := "59ec2912ed7b4d7a6829e487182461a85193f7102d06170adf780a498e021412", func := "loop.example/atomicspectra/laws.FnMicroHoles", spec := "fnMicroHoles", recurses := true, named := ["math/bits.deBruijn32tab", "math/bits.deBruijn64tab"], plainKeys := false, apart := false, laid := [("math/bits.deBruijn32tab", laid_math_bits_deBruijn32tab), ("math/bits.deBruijn64tab", laid_math_bits_deBruijn64tab)] }
def FnMicroHolesSaid : Prop := fnMicroHolesRow.holds Tryd.pinned (OpenSpec.ofChange fnMicroHolesSpec)

/-- ITS FALSE NEIGHBOUR: 'it returns false'. Refute it at one input. -/
def fnMicroHolesWrong : ChangeSpec := { name := "fnMicroHoles", fn := fun _ => fun
  | [d] => { results := [.lit (.bool false)], args := [d] }
  | _ => none }
def FnMicroHolesWrongFalsely : Prop := fnMicroHolesRow.holds Tryd.pinned (OpenSpec.ofChange fnMicroHolesWrong)

/-- 'laws.FnMicroMirror': WHATEVER THE INPUT: true; the input reads as it did. -/
def fnMicroMirrorSpec : ChangeSpec := { name := "fnMicroMirror", fn := fun _ => fun
  | [d] => { results := [.lit (.bool true)], args := [d] }
  | _ => none }
def fnMicroMirrorRow : OpenClaim := { program := "ytpifcllccoloeaadoor", sum := "59ec2912ed7b4d7a6829e487182461a85193f7102d06170adf780a498e021412", func := "loop.example/atomicspectra/laws.FnMicroMirror", spec := "fnMicroMirror", recurses := true, named := ["math/bits.deBruijn32tab", "math/bits.deBruijn64tab"], plainKeys := false, apart := false, laid := [("math/bits.deBruijn32tab", laid_math_bits_deBruijn32tab), ("math/bits.deBruijn64tab", laid_math_bits_deBruijn64tab)] }
def FnMicroMirrorSaid : Prop := fnMicroMirrorRow.holds Tryd.pinned (OpenSpec.ofChange fnMicroMirrorSpec)

/-- ITS FALSE NEIGHBOUR: 'it returns false'. Refute it at one input. -/
def fnMicroMirrorWrong : ChangeSpec := { name := "fnMicroMirror", fn := fun _ => fun
  | [d] => { results := [.lit (.bool false)], args := [d] }
  | _ => none }
def FnMicroMirrorWrongFalsely : Prop := fnMicroMirrorRow.holds Tryd.pinned (OpenSpec.ofChange fnMicroMirrorWrong)

/-- 'laws.FnMicroParity': WHATEVER THE INPUT: true; the input reads as it did. -/
def fnMicroParitySpec : ChangeSpec := { name := "fnMicroParity", fn := fun _ => fun
  | [d] => { results := [.lit (.bool true)], args := [d] }
  | _ => none }
def fnMicroParityRow : OpenClaim := { program := "ytpifcllccoloeaadoor", sum := "59ec2912ed7b4d7a6829e487182461a85193f7102d06170adf780a498e021412", func := "loop.example/atomicspectra/laws.FnMicroParity", spec := "fnMicroParity", recurses := true, named := ["math/bits.deBruijn32tab", "math/bits.deBruijn64tab"], plainKeys := false, apart := false, laid := [("math/bits.deBruijn32tab", laid_math_bits_deBruijn32tab), ("math/bits.deBruijn64tab", laid_math_bits_deBruijn64tab)] }
def FnMicroParitySaid : Prop := fnMicroParityRow.holds Tryd.pinned (OpenSpec.ofChange fnMicroParitySpec)

/-- ITS FALSE NEIGHBOUR: 'it returns false'. Refute it at one input. -/
def fnMicroParityWrong : ChangeSpec := { name := "fnMicroParity", fn := fun _ => fun
  | [d] => { results := [.lit (.bool false)], args := [d] }
  | _ => none }
def FnMicroParityWrongFalsely : Prop := fnMicroParityRow.holds Tryd.pinned (OpenSpec.ofChange fnMicroParityWrong)

/-- 'laws.FnMicroSplit': WHATEVER THE INPUT: true; the input reads as it did. -/
def fnMicroSplitSpec : ChangeSpec := { name := "fnMicroSplit", fn := fun _ => fun
  | [d] => { results := [.lit (.bool true)], args := [d] }
  | _ => none }
def fnMicroSplitRow : OpenClaim := { program := "ytpifcllccoloeaadoor", sum := "59ec2912ed7b4d7a6829e487182461a85193f7102d06170adf780a498e021412", func := "loop.example/atomicspectra/laws.FnMicroSplit", spec := "fnMicroSplit", recurses := true, named := ["math/bits.deBruijn32tab", "math/bits.deBruijn64tab"], plainKeys := false, apart := false, laid := [("math/bits.deBruijn32tab", laid_math_bits_deBruijn32tab), ("math/bits.deBruijn64tab", laid_math_bits_deBruijn64tab)] }
def FnMicroSplitSaid : Prop := fnMicroSplitRow.holds Tryd.pinned (OpenSpec.ofChange fnMicroSplitSpec)

/-- ITS FALSE NEIGHBOUR: 'it returns false'. Refute it at one input. -/
def fnMicroSplitWrong : ChangeSpec := { name := "fnMicroSplit", fn := fun _ => fun
  | [d] => { results := [.lit (.bool false)], args := [d] }
  | _ => none }
def FnMicroSplitWrongFalsely : Prop := fnMicroSplitRow.holds Tryd.pinned (OpenSpec.ofChange fnMicroSplitWrong)

/- THE SECOND FORM. 'bulk': how many values and letters a reading holds, each counted each time it is reached (what is shared counts as often as it is met; a slice's spare places count too). A statement '..UptoSaid' is the law's where the arguments, and the package variables that the reading takes, are together of bulk at most 1048576: NARROWER than '..Said'. Prove '..Said' where nothing that the law and all that it calls make is longer than what came in: it says more and counts as full. Else prove '..UptoSaid'. A law counts once. -/
mutual
def uptoBulk {H : Type} : DataW H → Nat
  | .lit (.string bytes) => bytes.length + 1
  | .lit _ => 1
  | .nil => 1
  | .ptr d => uptoBulk d + 1
  | .slice elems spare => uptoBulkAll elems + uptoBulkAll spare + 1
  | .agg parts => uptoBulkAll parts + 1
  | .iface _ d => uptoBulk d + 1
  | .map entries => uptoBulkEntries entries + 1
  | .held _ => 1
def uptoBulkAll {H : Type} : List (DataW H) → Nat
  | [] => 0
  | d :: r => uptoBulk d + uptoBulkAll r
def uptoBulkEntries {H : Type} : List (Lit × DataW H) → Nat
  | [] => 0
  | x :: r => uptoBulkEntry x + uptoBulkEntries r
def uptoBulkEntry {H : Type} : Lit × DataW H → Nat
  | (.string bytes, d) => bytes.length + uptoBulk d + 1
  | (_, d) => uptoBulk d + 1
 end
def uptoSmall : (H : Type) → List (DataW H) → Bool := fun _ ds => decide (uptoBulkAll ds ≤ 1048576)
def OpenSpec.upto (s : _root_.Go.ChangeSpec) : _root_.Go.OpenSpec := { _root_.Go.OpenSpec.ofChange s with cond := some uptoSmall }

/-- 'laws.FnExactMicroCount', WHERE WHAT IT READS IS OF BULK AT MOST 1048576: true; the input reads as it did. -/
def fnExactMicroCountUptoRow : OpenClaim := { program := "ytpifcllccoloeaadoor", sum := "59ec2912ed7b4d7a6829e487182461a85193f7102d06170adf780a498e021412", func := "loop.example/atomicspectra/laws.FnExactMicroCount", spec := "fnExactMicroCount", recurses := true, named := ["math/bits.deBruijn32tab", "math/bits.deBruijn64tab"], plainKeys := false, apart := false, laid := [("math/bits.deBruijn32tab", laid_math_bits_deBruijn32tab), ("math/bits.deBruijn64tab", laid_math_bits_deBruijn64tab)], narrowed := true }
def FnExactMicroCountUptoSaid : Prop := fnExactMicroCountUptoRow.holds Tryd.pinned (OpenSpec.upto fnExactMicroCountSpec)

/-- 'laws.FnExactMicroOrbit', WHERE WHAT IT READS IS OF BULK AT MOST 1048576: true; the input reads as it did. -/
def fnExactMicroOrbitUptoRow : OpenClaim := { program := "ytpifcllccoloeaadoor", sum := "59ec2912ed7b4d7a6829e487182461a85193f7102d06170adf780a498e021412", func := "loop.example/atomicspectra/laws.FnExactMicroOrbit", spec := "fnExactMicroOrbit", recurses := true, named := ["math/bits.deBruijn32tab", "math/bits.deBruijn64tab"], plainKeys := false, apart := false, laid := [("math/bits.deBruijn32tab", laid_math_bits_deBruijn32tab), ("math/bits.deBruijn64tab", laid_math_bits_deBruijn64tab)], narrowed := true }
def FnExactMicroOrbitUptoSaid : Prop := fnExactMicroOrbitUptoRow.holds Tryd.pinned (OpenSpec.upto fnExactMicroOrbitSpec)

/-- 'laws.FnExactMicroSpin', WHERE WHAT IT READS IS OF BULK AT MOST 1048576: true; the input reads as it did. -/
def fnExactMicroSpinUptoRow : OpenClaim := { program := "ytpifcllccoloeaadoor", sum := "59ec2912ed7b4d7a6829e487182461a85193f7102d06170adf780a498e021412", func := "loop.example/atomicspectra/laws.FnExactMicroSpin", spec := "fnExactMicroSpin", recurses := true, named := ["math/bits.deBruijn32tab", "math/bits.deBruijn64tab"], plainKeys := false, apart := false, laid := [("math/bits.deBruijn32tab", laid_math_bits_deBruijn32tab), ("math/bits.deBruijn64tab", laid_math_bits_deBruijn64tab)], narrowed := true }
def FnExactMicroSpinUptoSaid : Prop := fnExactMicroSpinUptoRow.holds Tryd.pinned (OpenSpec.upto fnExactMicroSpinSpec)

/-- 'laws.FnExactTermCount', WHERE WHAT IT READS IS OF BULK AT MOST 1048576: true; the input reads as it did. -/
def fnExactTermCountUptoRow : OpenClaim := { program := "ytpifcllccoloeaadoor", sum := "59ec2912ed7b4d7a6829e487182461a85193f7102d06170adf780a498e021412", func := "loop.example/atomicspectra/laws.FnExactTermCount", spec := "fnExactTermCount", recurses := true, named := ["math/bits.deBruijn32tab", "math/bits.deBruijn64tab"], plainKeys := false, apart := false, laid := [("math/bits.deBruijn32tab", laid_math_bits_deBruijn32tab), ("math/bits.deBruijn64tab", laid_math_bits_deBruijn64tab)], narrowed := true }
def FnExactTermCountUptoSaid : Prop := fnExactTermCountUptoRow.holds Tryd.pinned (OpenSpec.upto fnExactTermCountSpec)

/-- 'laws.FnMicroBoth', WHERE WHAT IT READS IS OF BULK AT MOST 1048576: true; the input reads as it did. -/
def fnMicroBothUptoRow : OpenClaim := { program := "ytpifcllccoloeaadoor", sum := "59ec2912ed7b4d7a6829e487182461a85193f7102d06170adf780a498e021412", func := "loop.example/atomicspectra/laws.FnMicroBoth", spec := "fnMicroBoth", recurses := true, named := ["math/bits.deBruijn32tab", "math/bits.deBruijn64tab"], plainKeys := false, apart := false, laid := [("math/bits.deBruijn32tab", laid_math_bits_deBruijn32tab), ("math/bits.deBruijn64tab", laid_math_bits_deBruijn64tab)], narrowed := true }
def FnMicroBothUptoSaid : Prop := fnMicroBothUptoRow.holds Tryd.pinned (OpenSpec.upto fnMicroBothSpec)

/-- 'laws.FnMicroEnds', WHERE WHAT IT READS IS OF BULK AT MOST 1048576: true; the input reads as it did. -/
def fnMicroEndsUptoRow : OpenClaim := { program := "ytpifcllccoloeaadoor", sum := "59ec2912ed7b4d7a6829e487182461a85193f7102d06170adf780a498e021412", func := "loop.example/atomicspectra/laws.FnMicroEnds", spec := "fnMicroEnds", recurses := true, named := ["math/bits.deBruijn32tab", "math/bits.deBruijn64tab"], plainKeys := false, apart := false, laid := [("math/bits.deBruijn32tab", laid_math_bits_deBruijn32tab), ("math/bits.deBruijn64tab", laid_math_bits_deBruijn64tab)], narrowed := true }
def FnMicroEndsUptoSaid : Prop := fnMicroEndsUptoRow.holds Tryd.pinned (OpenSpec.upto fnMicroEndsSpec)

/-- 'laws.FnMicroFalls', WHERE WHAT IT READS IS OF BULK AT MOST 1048576: true; the input reads as it did. -/
def fnMicroFallsUptoRow : OpenClaim := { program := "ytpifcllccoloeaadoor", sum := "59ec2912ed7b4d7a6829e487182461a85193f7102d06170adf780a498e021412", func := "loop.example/atomicspectra/laws.FnMicroFalls", spec := "fnMicroFalls", recurses := true, named := ["math/bits.deBruijn32tab", "math/bits.deBruijn64tab"], plainKeys := false, apart := false, laid := [("math/bits.deBruijn32tab", laid_math_bits_deBruijn32tab), ("math/bits.deBruijn64tab", laid_math_bits_deBruijn64tab)], narrowed := true }
def FnMicroFallsUptoSaid : Prop := fnMicroFallsUptoRow.holds Tryd.pinned (OpenSpec.upto fnMicroFallsSpec)

/-- 'laws.FnMicroHoles', WHERE WHAT IT READS IS OF BULK AT MOST 1048576: true; the input reads as it did. -/
def fnMicroHolesUptoRow : OpenClaim := { program := "ytpifcllccoloeaadoor", sum := "59ec2912ed7b4d7a6829e487182461a85193f7102d06170adf780a498e021412", func := "loop.example/atomicspectra/laws.FnMicroHoles", spec := "fnMicroHoles", recurses := true, named := ["math/bits.deBruijn32tab", "math/bits.deBruijn64tab"], plainKeys := false, apart := false, laid := [("math/bits.deBruijn32tab", laid_math_bits_deBruijn32tab), ("math/bits.deBruijn64tab", laid_math_bits_deBruijn64tab)], narrowed := true }
def FnMicroHolesUptoSaid : Prop := fnMicroHolesUptoRow.holds Tryd.pinned (OpenSpec.upto fnMicroHolesSpec)

/-- 'laws.FnMicroMirror', WHERE WHAT IT READS IS OF BULK AT MOST 1048576: true; the input reads as it did. -/
def fnMicroMirrorUptoRow : OpenClaim := { program := "ytpifcllccoloeaadoor", sum := "59ec2912ed7b4d7a6829e487182461a85193f7102d06170adf780a498e021412", func := "loop.example/atomicspectra/laws.FnMicroMirror", spec := "fnMicroMirror", recurses := true, named := ["math/bits.deBruijn32tab", "math/bits.deBruijn64tab"], plainKeys := false, apart := false, laid := [("math/bits.deBruijn32tab", laid_math_bits_deBruijn32tab), ("math/bits.deBruijn64tab", laid_math_bits_deBruijn64tab)], narrowed := true }
def FnMicroMirrorUptoSaid : Prop := fnMicroMirrorUptoRow.holds Tryd.pinned (OpenSpec.upto fnMicroMirrorSpec)

/-- 'laws.FnMicroParity', WHERE WHAT IT READS IS OF BULK AT MOST 1048576: true; the input reads as it did. -/
def fnMicroParityUptoRow : OpenClaim := { program := "ytpifcllccoloeaadoor", sum := "59ec2912ed7b4d7a6829e487182461a85193f7102d06170adf780a498e021412", func := "loop.example/atomicspectra/laws.FnMicroParity", spec := "fnMicroParity", recurses := true, named := ["math/bits.deBruijn32tab", "math/bits.deBruijn64tab"], plainKeys := false, apart := false, laid := [("math/bits.deBruijn32tab", laid_math_bits_deBruijn32tab), ("math/bits.deBruijn64tab", laid_math_bits_deBruijn64tab)], narrowed := true }
def FnMicroParityUptoSaid : Prop := fnMicroParityUptoRow.holds Tryd.pinned (OpenSpec.upto fnMicroParitySpec)

/-- 'laws.FnMicroSplit', WHERE WHAT IT READS IS OF BULK AT MOST 1048576: true; the input reads as it did. -/
def fnMicroSplitUptoRow : OpenClaim := { program := "ytpifcllccoloeaadoor", sum := "59ec2912ed7b4d7a6829e487182461a85193f7102d06170adf780a498e021412", func := "loop.example/atomicspectra/laws.FnMicroSplit", spec := "fnMicroSplit", recurses := true, named := ["math/bits.deBruijn32tab", "math/bits.deBruijn64tab"], plainKeys := false, apart := false, laid := [("math/bits.deBruijn32tab", laid_math_bits_deBruijn32tab), ("math/bits.deBruijn64tab", laid_math_bits_deBruijn64tab)], narrowed := true }
def FnMicroSplitUptoSaid : Prop := fnMicroSplitUptoRow.holds Tryd.pinned (OpenSpec.upto fnMicroSplitSpec)

end Rows
end Go.Proofs.YtpifcllccoloeaaDoor
