/-
  Contracts of the small functions on numbers: capacities, shells, terms.
-/
import Derived.Test.YtdfpcbbhapihiaaDoorLaw
namespace Go.Proofs.YtdfpcbbhapihiaaDoor
open Go.ChangeShapes Go.WideShapes Go.ChangeAt Go.RowKit Go.Deep Go.Joins
set_option linter.unusedVariables false

/-- the capacity of the shells with an orbital number -/
def cap (l : Int) : Int := if l < 0 ∨ 3 < l then 0 else 4 * l + 2
/-- a number between two others -/
def inB (n lo hi : Int) : Bool := decide (lo ≤ n) && decide (n ≤ hi)
theorem inB_true {n lo hi : Int} : inB n lo hi = true ↔ lo ≤ n ∧ n ≤ hi := by simp [inB]
theorem inB_false {n lo hi : Int} : inB n lo hi = false ↔ n < lo ∨ hi < n := by
  rw [← Bool.not_eq_true, inB_true]; omega
theorem ret_bool {a b : Bool} (h : a = b) : Ending.returned (.bool a) = .returned (.bool b) := by rw [h]
theorem ret_int {k : IntKind} {a b : Int} (h : a = b) : Ending.returned (.int k a) = .returned (.int k b) := by rw [h]

theorem in_any (n lo hi : Int) (w : World) : Calls Tryd.prog 27 #[.int .i64 n, .int .i64 lo, .int .i64 hi] w fun e w' => e = .returned (.bool (inB n lo hi)) ∧ w = w' := by
  by_cases h0 : lo ≤ n
  · by_cases h1 : n ≤ hi
    · have HB := Lib.hid (inB_true.2 ⟨h0, h1⟩ : inB n lo hi = true)
      go_enter Tryd.func27, Tryd.ntmps27
      go_wp2
      go_ret
      exact ⟨ret_bool HB.out.symm, rfl⟩
    · have HB := Lib.hid (inB_false.2 (by omega) : inB n lo hi = false)
      go_enter Tryd.func27, Tryd.ntmps27
      go_wp2
      go_ret
      exact ⟨ret_bool HB.out.symm, rfl⟩
  · have HB := Lib.hid (inB_false.2 (by omega) : inB n lo hi = false)
    go_enter Tryd.func27, Tryd.ntmps27
    go_wp2
    go_ret
    exact ⟨ret_bool HB.out.symm, rfl⟩

theorem impl_cap (l : Int) (w : World) : Calls Tryd.prog 34 #[.int .i64 l] w fun e w' => e = .returned (.int .i64 (cap l)) ∧ w = w' := by
  by_cases h0 : l < 0
  · have HC := Lib.hid (if_pos (by omega) : cap l = 0)
    go_enter Tryd.func34, Tryd.ntmps34
    go_wp2
    go_ret
    exact ⟨ret_int HC.out.symm, rfl⟩
  · by_cases h3 : 3 < l
    · have HC := Lib.hid (if_pos (by omega) : cap l = 0)
      go_enter Tryd.func34, Tryd.ntmps34
      go_wp2
      go_ret
      exact ⟨ret_int HC.out.symm, rfl⟩
    · have HC := Lib.hid (if_neg (by omega) : cap l = 4 * l + 2)
      go_enter Tryd.func34, Tryd.ntmps34
      go_wp2
      go_ret
      exact ⟨ret_int HC.out.symm, rfl⟩


/-- a term's numbers are in range -/
def tvB (s l : Int) : Bool := inB s 0 8 && inB l 0 8
theorem tvB_true {s l : Int} : tvB s l = true ↔ 0 ≤ s ∧ s ≤ 8 ∧ 0 ≤ l ∧ l ≤ 8 := by simp [tvB, inB]; omega
theorem tvB_false {s l : Int} : tvB s l = false ↔ s < 0 ∨ 8 < s ∨ l < 0 ∨ 8 < l := by rw [← Bool.not_eq_true, tvB_true]; omega
/-- a shell's numbers are in range -/
def shB (n l c : Int) : Bool := inB n 1 7 && inB l 0 3 && decide (l < n) && inB c 1 (4 * l + 2)
theorem shB_true {n l c : Int} : shB n l c = true ↔ 1 ≤ n ∧ n ≤ 7 ∧ 0 ≤ l ∧ l ≤ 3 ∧ l < n ∧ 1 ≤ c ∧ c ≤ 4 * l + 2 := by simp [shB, inB]; omega
theorem shB_false {n l c : Int} : shB n l c = false ↔ n < 1 ∨ 7 < n ∨ l < 0 ∨ 3 < l ∨ n ≤ l ∨ c < 1 ∨ 4 * l + 2 < c := by rw [← Bool.not_eq_true, shB_true]; omega

theorem impl_tv (s l : Int) (w : World) : Calls Tryd.prog 31 #[.agg #[.int .i64 s, .int .i64 l]] w fun e w' => e = .returned (.bool (tvB s l)) ∧ w.alloc (.cells #[.int .i64 s, .int .i64 l] 32) = w' := by
  by_cases h0 : 0 ≤ s
  · by_cases h1 : s ≤ 8
    · by_cases h2 : 0 ≤ l
      · by_cases h3 : l ≤ 8
        · have HB := Lib.hid (tvB_true.2 ⟨h0, h1, h2, h3⟩ : tvB s l = true)
          go_enter Tryd.func31, Tryd.ntmps31
          go_wp2
          go_ret
          exact ⟨ret_bool HB.out.symm, rfl⟩
        all_goals
          have HB := Lib.hid (tvB_false.2 (by omega) : tvB s l = false)
          go_enter Tryd.func31, Tryd.ntmps31
          go_wp2
          go_ret
          exact ⟨ret_bool HB.out.symm, rfl⟩
      all_goals
        have HB := Lib.hid (tvB_false.2 (by omega) : tvB s l = false)
        go_enter Tryd.func31, Tryd.ntmps31
        go_wp2
        go_ret
        exact ⟨ret_bool HB.out.symm, rfl⟩
    all_goals
      have HB := Lib.hid (tvB_false.2 (by omega) : tvB s l = false)
      go_enter Tryd.func31, Tryd.ntmps31
      go_wp2
      go_ret
      exact ⟨ret_bool HB.out.symm, rfl⟩
  all_goals
    have HB := Lib.hid (tvB_false.2 (by omega) : tvB s l = false)
    go_enter Tryd.func31, Tryd.ntmps31
    go_wp2
    go_ret
    exact ⟨ret_bool HB.out.symm, rfl⟩

theorem spec_tv (s l : Int) (w : World) : Calls Tryd.prog 33 #[.agg #[.int .i64 s, .int .i64 l]] w fun e w' => e = .returned (.bool (tvB s l)) ∧ w.alloc (.cells #[.int .i64 s, .int .i64 l] 32) = w' := by
  by_cases h0 : inB s 0 8 = true
  · by_cases h1 : inB l 0 8 = true
    · have HB := Lib.hid (by simp [tvB, h0, h1] : tvB s l = true)
      go_enter Tryd.func33, Tryd.ntmps33
      go_wp2_with (go_at_call 27; refine (in_any _ _ _ _).mono ?_; rintro e w' ⟨rfl, rfl⟩)
      go_ret
      exact ⟨ret_bool HB.out.symm, rfl⟩
    · have h1 : inB l 0 8 = false := by simpa using h1
      have HB := Lib.hid (by simp [tvB, h0, h1] : tvB s l = false)
      go_enter Tryd.func33, Tryd.ntmps33
      go_wp2_with (go_at_call 27; refine (in_any _ _ _ _).mono ?_; rintro e w' ⟨rfl, rfl⟩)
      go_ret
      exact ⟨ret_bool HB.out.symm, rfl⟩
  · have h0 : inB s 0 8 = false := by simpa using h0
    have HB := Lib.hid (by simp [tvB, h0] : tvB s l = false)
    go_enter Tryd.func33, Tryd.ntmps33
    go_wp2_with (go_at_call 27; refine (in_any _ _ _ _).mono ?_; rintro e w' ⟨rfl, rfl⟩)
    go_ret
    exact ⟨ret_bool HB.out.symm, rfl⟩




/-- the weight of a term -/
def tw (s l : Int) : Int := if tvB s l = true then (s + 1) * (2 * l + 1) else 0

end Go.Proofs.YtdfpcbbhapihiaaDoor
