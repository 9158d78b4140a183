/-
  Contracts of the small functions on numbers: capacities, shells, terms.
-/
import Derived.Test.YtgofbfhnjhgfnaaLaw
namespace Go.Proofs.Ytgofbfhnjhgfnaa
open Go.ChangeShapes Go.WideShapes Go.ChangeAt Go.RowKit Go.Deep Go.Joins
set_option linter.unusedVariables false

/-- the capacity of the shells with an orbital number -/
def cap (l : Int) : Int := if l < 0 ∨ 3 < l then 0 else 4 * l + 2
/-- a number between two others -/
def inB (n lo hi : Int) : Bool := decide (lo ≤ n) && decide (n ≤ hi)
theorem inB_true {n lo hi : Int} : inB n lo hi = true ↔ lo ≤ n ∧ n ≤ hi := by simp [inB]
theorem inB_false {n lo hi : Int} : inB n lo hi = false ↔ n < lo ∨ hi < n := by
  rw [← Bool.not_eq_true, inB_true]; omega
theorem ret_bool {a b : Bool} (h : a = b) : Ending.returned (.bool a) = .returned (.bool b) := by rw [h]
theorem ret_int {k : IntKind} {a b : Int} (h : a = b) : Ending.returned (.int k a) = .returned (.int k b) := by rw [h]

theorem in_any (n lo hi : Int) (w : World) : Calls Try.prog 38 #[.int .i64 n, .int .i64 lo, .int .i64 hi] w fun e w' => e = .returned (.bool (inB n lo hi)) ∧ w = w' := by
  by_cases h0 : lo ≤ n
  · by_cases h1 : n ≤ hi
    · have HB := Lib.hid (inB_true.2 ⟨h0, h1⟩ : inB n lo hi = true)
      go_enter Try.func38, Try.ntmps38
      go_wp2
      go_ret
      exact ⟨ret_bool HB.out.symm, rfl⟩
    · have HB := Lib.hid (inB_false.2 (by omega) : inB n lo hi = false)
      go_enter Try.func38, Try.ntmps38
      go_wp2
      go_ret
      exact ⟨ret_bool HB.out.symm, rfl⟩
  · have HB := Lib.hid (inB_false.2 (by omega) : inB n lo hi = false)
    go_enter Try.func38, Try.ntmps38
    go_wp2
    go_ret
    exact ⟨ret_bool HB.out.symm, rfl⟩

theorem impl_cap (l : Int) (w : World) : Calls Try.prog 16 #[.int .i64 l] w fun e w' => e = .returned (.int .i64 (cap l)) ∧ w = w' := by
  by_cases h0 : l < 0
  · have HC := Lib.hid (if_pos (by omega) : cap l = 0)
    go_enter Try.func16, Try.ntmps16
    go_wp2
    go_ret
    exact ⟨ret_int HC.out.symm, rfl⟩
  · by_cases h3 : 3 < l
    · have HC := Lib.hid (if_pos (by omega) : cap l = 0)
      go_enter Try.func16, Try.ntmps16
      go_wp2
      go_ret
      exact ⟨ret_int HC.out.symm, rfl⟩
    · have HC := Lib.hid (if_neg (by omega) : cap l = 4 * l + 2)
      go_enter Try.func16, Try.ntmps16
      go_wp2
      go_ret
      exact ⟨ret_int HC.out.symm, rfl⟩

theorem spec_cap (l : Int) (w : World) : Calls Try.prog 15 #[.int .i64 l] w fun e w' => e = .returned (.int .i64 (cap l)) ∧ w = w' := by
  by_cases h : inB l 0 3 = true
  · have h' := inB_true.1 h
    have hc : cap l = 4 * l + 2 := if_neg (by omega)
    have HC := Lib.hid hc
    clear hc
    go_enter Try.func15, Try.ntmps15
    go_wp2_with (go_at_call 38; refine (in_any _ _ _ _).mono ?_; rintro e w' ⟨rfl, rfl⟩)
    go_ret
    exact ⟨ret_int HC.out.symm, rfl⟩
  · have h : inB l 0 3 = false := by simpa using h
    have h' := inB_false.1 h
    have hc : cap l = 0 := if_pos (by omega)
    have HC := Lib.hid hc
    clear hc
    go_enter Try.func15, Try.ntmps15
    go_wp2_with (go_at_call 38; refine (in_any _ _ _ _).mono ?_; rintro e w' ⟨rfl, rfl⟩)
    go_ret
    exact ⟨ret_int HC.out.symm, rfl⟩

end Go.Proofs.Ytgofbfhnjhgfnaa
