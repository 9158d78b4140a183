/-
  What the laws of ground configurations and of moves share.
-/
import Derived.Test.YtgmdljlbiokcaaaDoorConfigOpen
import Derived.Test.YtgmdljlbiokcaaaDoorRows3
namespace Go.Proofs.YtgmdljlbiokcaaaDoor
open Go.ChangeShapes Go.WideShapes Go.ChangeAt Go.RowKit Go.Deep Go.Joins
set_option linter.unusedVariables false

theorem toFree {w : World} {B : Nat} {v : Value} {l : List Sh} (h : OwnSh w B v l) : Free w v l.length v.ownBlock := by
  rcases h.free with h | ⟨g, cap, cur, hg, hB, hv, h1, h2, h3, h4⟩
  · exact .inl h
  · exact .inr ⟨g, cap, cur, hg, hv, h1, h2, h3, h4⟩
theorem blk {w : World} {B : Nat} {v : Value} {l : List Sh} (h : OwnSh w B v l) : ∀ k, v.ownBlock = some k → B ≤ k ∧ k < w.heap.size := World.ownsRow.lt h
theorem ne_blk {v : Value} {row : Option Nat} (h : ∀ k, v.ownBlock = some k → row ≠ some k) : v.ownBlock = none ∨ v.ownBlock ≠ row := by
  cases e : v.ownBlock with
  | none => exact .inl rfl
  | some k => exact .inr fun e' => h k e e'.symm

end Go.Proofs.YtgmdljlbiokcaaaDoor
