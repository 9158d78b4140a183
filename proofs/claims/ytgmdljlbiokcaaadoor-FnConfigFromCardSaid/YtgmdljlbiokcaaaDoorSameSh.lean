/-
  The laws' own comparison of two equal lists of shells; the electrons of a shell in a list.
-/
import Derived.Test.YtgmdljlbiokcaaaDoorConfigOpen
namespace Go.Proofs.YtgmdljlbiokcaaaDoor
open Go.ChangeShapes Go.WideShapes Go.ChangeAt Go.RowKit Go.Deep Go.Joins
set_option linter.unusedVariables false

set_option maxHeartbeats 2000000 in
theorem same_shells (v v' : Value) (l : List Sh) (w : World) (hv : ShAt w w.heap.size v l) (hv' : ShAt w w.heap.size v' l) :
    Calls Tryd.prog 25 #[v, v'] w fun e w' => e = .returned (.bool true) ∧ Below w.heap.size w w' := by
  obtain ⟨A, c, rfl, hlc, hcm, hc⟩ := hv
  obtain ⟨A', c', rfl, hlc', hcm', hc'⟩ := hv'
  unfold maxLen at hcm hcm'
  go_enter Tryd.func25, Tryd.ntmps25
  go_wp2_with fail
  go_loopg [5] l.length (fun gk i wr => ∃ k : Nat, gk = l.length - k ∧ k ≤ l.length ∧ i = .int .i64 k ∧ Below w.heap.size w wr)
  case atStart => exact ⟨0, rfl, by omega, rfl, Below.refl _ _⟩
  case round =>
    obtain ⟨k, rfl, hk, rfl, hbel⟩ := hrel
    by_cases hlt : k < l.length
    · obtain ⟨b, off, rfl, hbl, hcell⟩ := hc (by omega)
      obtain ⟨b', off', rfl, hbl', hcell'⟩ := hc' (by omega)
      obtain ⟨s, hs⟩ : ∃ s, s = l[k] := ⟨_, rfl⟩
      have hgs : l[k]? = some s := by rw [hs, List.getElem?_eq_getElem hlt]
      obtain ⟨c0, c1, c2⟩ := hcell k _ hgs
      obtain ⟨d0, d1, d2⟩ := hcell' k _ hgs
      have c0 := (hbel.cell (p := ⟨b, off + k * 3, none⟩) hbl).trans c0
      have c1 := (hbel.cell (p := ⟨b, off + k * 3 + 1, none⟩) hbl).trans c1
      have c2 := (hbel.cell (p := ⟨b, off + k * 3 + 2, none⟩) hbl).trans c2
      have d0 := (hbel.cell (p := ⟨b', off' + k * 3, none⟩) hbl').trans d0
      have d1 := (hbel.cell (p := ⟨b', off' + k * 3 + 1, none⟩) hbl').trans d1
      have d2 := (hbel.cell (p := ⟨b', off' + k * 3 + 2, none⟩) hbl').trans d2
      have hlt' : (k : Int) < (l.length : Int) := by omega
      clear hgs hs hcell hcell' hc hc'
      go_wp2_with fail
      go_quiet (fail)
      go_wp2_with fail
      go_roundg (l.length - (k + 1))
      case measure => omega
      case rel => exact ⟨k + 1, rfl, by omega, by go_num, (by repeat (first | exact Below.refl _ _ | assumption | refine bel_drewN ?_ _ | refine bel_drew ?_ | refine bel_alloc ?_ _ | refine bel_set ?_ (by simp; omega) _ | refine bel_set ?_ (by simp) _ | refine bel_trans ?_ (by assumption)))⟩
    · go_wp2_with fail
      go_ret
      exact ⟨rfl, hbel⟩

/-- the electrons of the first shell with these numbers, or 0 -/
def elAt (l : List Sh) (n o : Int) : Int := match l.find? (fun s => s.1 == n && s.2.1 == o) with | some s => s.2.2 | none => 0

end Go.Proofs.YtgmdljlbiokcaaaDoor
