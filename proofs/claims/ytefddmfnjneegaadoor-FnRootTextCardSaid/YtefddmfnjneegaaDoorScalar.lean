/-
  Contracts of the small functions on numbers: capacities, shells, terms.
-/
import Derived.Test.YtefddmfnjneegaaDoorLaw
namespace Go.Proofs.YtefddmfnjneegaaDoor
open Go.ChangeShapes Go.WideShapes Go.ChangeAt Go.RowKit Go.Deep Go.Joins
set_option linter.unusedVariables false

/-- the capacity of the shells with an orbital number -/
def cap (l : Int) : Int := if l < 0 ∨ 3 < l then 0 else 4 * l + 2
/-- a number between two others -/
def inB (n lo hi : Int) : Bool := decide (lo ≤ n) && decide (n ≤ hi)
theorem inB_true {n lo hi : Int} : inB n lo hi = true ↔ lo ≤ n ∧ n ≤ hi := by simp [inB]
theorem inB_false {n lo hi : Int} : inB n lo hi = false ↔ n < lo ∨ hi < n := by
  rw [← Bool.not_eq_true, inB_true]; omega
theorem ret_bool {a b : Bool} (h : a = b) : Ending.returned (.bool a) = .returned (.bool b) := by rw [h]
theorem ret_int {k : IntKind} {a b : Int} (h : a = b) : Ending.returned (.int k a) = .returned (.int k b) := by rw [h]

theorem in_any (n lo hi : Int) (w : World) : Calls Tryd.prog 18 #[.int .i64 n, .int .i64 lo, .int .i64 hi] w fun e w' => e = .returned (.bool (inB n lo hi)) ∧ w = w' := by
  by_cases h0 : lo ≤ n
  · by_cases h1 : n ≤ hi
    · have HB := Lib.hid (inB_true.2 ⟨h0, h1⟩ : inB n lo hi = true)
      go_enter Tryd.func18, Tryd.ntmps18
      go_wp2
      go_ret
      exact ⟨ret_bool HB.out.symm, rfl⟩
    · have HB := Lib.hid (inB_false.2 (by omega) : inB n lo hi = false)
      go_enter Tryd.func18, Tryd.ntmps18
      go_wp2
      go_ret
      exact ⟨ret_bool HB.out.symm, rfl⟩
  · have HB := Lib.hid (inB_false.2 (by omega) : inB n lo hi = false)
    go_enter Tryd.func18, Tryd.ntmps18
    go_wp2
    go_ret
    exact ⟨ret_bool HB.out.symm, rfl⟩



/-- a term's numbers are in range -/
def tvB (s l : Int) : Bool := inB s 0 8 && inB l 0 8
theorem tvB_true {s l : Int} : tvB s l = true ↔ 0 ≤ s ∧ s ≤ 8 ∧ 0 ≤ l ∧ l ≤ 8 := by simp [tvB, inB]; omega
theorem tvB_false {s l : Int} : tvB s l = false ↔ s < 0 ∨ 8 < s ∨ l < 0 ∨ 8 < l := by rw [← Bool.not_eq_true, tvB_true]; omega
/-- a shell's numbers are in range -/
def shB (n l c : Int) : Bool := inB n 1 7 && inB l 0 3 && decide (l < n) && inB c 1 (4 * l + 2)
theorem shB_true {n l c : Int} : shB n l c = true ↔ 1 ≤ n ∧ n ≤ 7 ∧ 0 ≤ l ∧ l ≤ 3 ∧ l < n ∧ 1 ≤ c ∧ c ≤ 4 * l + 2 := by simp [shB, inB]; omega
theorem shB_false {n l c : Int} : shB n l c = false ↔ n < 1 ∨ 7 < n ∨ l < 0 ∨ 3 < l ∨ n ≤ l ∨ c < 1 ∨ 4 * l + 2 < c := by rw [← Bool.not_eq_true, shB_true]; omega






/-- the weight of a term -/
def tw (s l : Int) : Int := if tvB s l = true then (s + 1) * (2 * l + 1) else 0

end Go.Proofs.YtefddmfnjneegaaDoor
