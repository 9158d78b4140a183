/-
  Contracts of the small functions on numbers: capacities, shells, terms.
-/
import Derived.Test.YtgmdljlbiokcaaaDoorLaw
namespace Go.Proofs.YtgmdljlbiokcaaaDoor
open Go.ChangeShapes Go.WideShapes Go.ChangeAt Go.RowKit Go.Deep Go.Joins
set_option linter.unusedVariables false

/-- the capacity of the shells with an orbital number -/
def cap (l : Int) : Int := if l < 0 ∨ 3 < l then 0 else 4 * l + 2
/-- a number between two others -/
def inB (n lo hi : Int) : Bool := decide (lo ≤ n) && decide (n ≤ hi)
theorem inB_true {n lo hi : Int} : inB n lo hi = true ↔ lo ≤ n ∧ n ≤ hi := by simp [inB]
theorem inB_false {n lo hi : Int} : inB n lo hi = false ↔ n < lo ∨ hi < n := by
  rw [← Bool.not_eq_true, inB_true]; omega
theorem ret_bool {a b : Bool} (h : a = b) : Ending.returned (.bool a) = .returned (.bool b) := by rw [h]
theorem ret_int {k : IntKind} {a b : Int} (h : a = b) : Ending.returned (.int k a) = .returned (.int k b) := by rw [h]

theorem in_any (n lo hi : Int) (w : World) : Calls Tryd.prog 47 #[.int .i64 n, .int .i64 lo, .int .i64 hi] w fun e w' => e = .returned (.bool (inB n lo hi)) ∧ w = w' := by
  by_cases h0 : lo ≤ n
  · by_cases h1 : n ≤ hi
    · have HB := Lib.hid (inB_true.2 ⟨h0, h1⟩ : inB n lo hi = true)
      go_enter Tryd.func47, Tryd.ntmps47
      go_wp2
      go_ret
      exact ⟨ret_bool HB.out.symm, rfl⟩
    · have HB := Lib.hid (inB_false.2 (by omega) : inB n lo hi = false)
      go_enter Tryd.func47, Tryd.ntmps47
      go_wp2
      go_ret
      exact ⟨ret_bool HB.out.symm, rfl⟩
  · have HB := Lib.hid (inB_false.2 (by omega) : inB n lo hi = false)
    go_enter Tryd.func47, Tryd.ntmps47
    go_wp2
    go_ret
    exact ⟨ret_bool HB.out.symm, rfl⟩

theorem impl_cap (l : Int) (w : World) : Calls Tryd.prog 39 #[.int .i64 l] w fun e w' => e = .returned (.int .i64 (cap l)) ∧ w = w' := by
  by_cases h0 : l < 0
  · have HC := Lib.hid (if_pos (by omega) : cap l = 0)
    go_enter Tryd.func39, Tryd.ntmps39
    go_wp2
    go_ret
    exact ⟨ret_int HC.out.symm, rfl⟩
  · by_cases h3 : 3 < l
    · have HC := Lib.hid (if_pos (by omega) : cap l = 0)
      go_enter Tryd.func39, Tryd.ntmps39
      go_wp2
      go_ret
      exact ⟨ret_int HC.out.symm, rfl⟩
    · have HC := Lib.hid (if_neg (by omega) : cap l = 4 * l + 2)
      go_enter Tryd.func39, Tryd.ntmps39
      go_wp2
      go_ret
      exact ⟨ret_int HC.out.symm, rfl⟩


/-- a term's numbers are in range -/
def tvB (s l : Int) : Bool := inB s 0 8 && inB l 0 8
theorem tvB_true {s l : Int} : tvB s l = true ↔ 0 ≤ s ∧ s ≤ 8 ∧ 0 ≤ l ∧ l ≤ 8 := by simp [tvB, inB]; omega
theorem tvB_false {s l : Int} : tvB s l = false ↔ s < 0 ∨ 8 < s ∨ l < 0 ∨ 8 < l := by rw [← Bool.not_eq_true, tvB_true]; omega
/-- a shell's numbers are in range -/
def shB (n l c : Int) : Bool := inB n 1 7 && inB l 0 3 && decide (l < n) && inB c 1 (4 * l + 2)
theorem shB_true {n l c : Int} : shB n l c = true ↔ 1 ≤ n ∧ n ≤ 7 ∧ 0 ≤ l ∧ l ≤ 3 ∧ l < n ∧ 1 ≤ c ∧ c ≤ 4 * l + 2 := by simp [shB, inB]; omega
theorem shB_false {n l c : Int} : shB n l c = false ↔ n < 1 ∨ 7 < n ∨ l < 0 ∨ 3 < l ∨ n ≤ l ∨ c < 1 ∨ 4 * l + 2 < c := by rw [← Bool.not_eq_true, shB_true]; omega



theorem impl_sv_yes (n l c : Int) (hv : shB n l c = true) (w : World) : Calls Tryd.prog 16 #[.agg #[.int .i64 n, .int .i64 l, .int .i64 c]] w fun e w' => e = .returned (.bool true) ∧ Below w.heap.size w w' := by
  have h := shB_true.1 hv
  obtain ⟨h1, h2, h3, h4, h5, h6, h7⟩ := h
  have hcap : c ≤ cap l := by unfold cap; rw [if_neg (by omega)]; exact h7
  clear hv
  go_enter Tryd.func16, Tryd.ntmps16
  go_wp2
  go_quiet ((go_at_call 39; exact quiet_left (impl_cap _ _)))
  go_wp2
  go_ret
  exact ⟨rfl, (by repeat (first | exact Below.refl _ _ | assumption | refine bel_drewN ?_ _ | refine bel_drew ?_ | refine bel_alloc ?_ _ | refine bel_set ?_ (by simp; omega) _ | refine bel_set ?_ (by simp) _ | refine bel_trans ?_ (by assumption)))⟩
theorem impl_sv_no (n l c : Int) (hv : shB n l c = false) (w : World) : Calls Tryd.prog 16 #[.agg #[.int .i64 n, .int .i64 l, .int .i64 c]] w fun e w' => e = .returned (.bool false) ∧ Below w.heap.size w w' := by
  have h := shB_false.1 hv
  clear hv
  by_cases c1 : 1 ≤ n
  · by_cases c2 : n ≤ 7
    · by_cases c3 : 0 ≤ l
      · by_cases c4 : l ≤ 3
        · by_cases c5 : l < n
          · by_cases c6 : 1 ≤ c
            · have hd : decide (c ≤ cap l) = false := by
                simp only [decide_eq_false_iff_not]; unfold cap; rw [if_neg (by omega)]; omega
              clear h
              go_enter Tryd.func16, Tryd.ntmps16
              go_wp2
              go_quiet ((go_at_call 39; exact quiet_left (impl_cap _ _)))
              go_wp2
              go_ret
              exact ⟨rfl, (by repeat (first | exact Below.refl _ _ | assumption | refine bel_drewN ?_ _ | refine bel_drew ?_ | refine bel_alloc ?_ _ | refine bel_set ?_ (by simp; omega) _ | refine bel_set ?_ (by simp) _ | refine bel_trans ?_ (by assumption)))⟩
            · have hd : decide (1 ≤ c) = false := by simpa using c6
              clear h
              go_enter Tryd.func16, Tryd.ntmps16
              go_wp2
              go_quiet (fail)
              go_wp2
              go_ret
              exact ⟨rfl, (by repeat (first | exact Below.refl _ _ | assumption | refine bel_drewN ?_ _ | refine bel_drew ?_ | refine bel_alloc ?_ _ | refine bel_set ?_ (by simp; omega) _ | refine bel_set ?_ (by simp) _ | refine bel_trans ?_ (by assumption)))⟩
          · have hd : decide (l < n) = false := by simpa using c5
            clear h
            go_enter Tryd.func16, Tryd.ntmps16
            go_wp2
            go_quiet (fail)
            go_wp2
            go_ret
            exact ⟨rfl, (by repeat (first | exact Below.refl _ _ | assumption | refine bel_drewN ?_ _ | refine bel_drew ?_ | refine bel_alloc ?_ _ | refine bel_set ?_ (by simp; omega) _ | refine bel_set ?_ (by simp) _ | refine bel_trans ?_ (by assumption)))⟩
        · have hd : decide (l ≤ 3) = false := by simpa using c4
          clear h
          go_enter Tryd.func16, Tryd.ntmps16
          go_wp2
          go_quiet (fail)
          go_wp2
          go_ret
          exact ⟨rfl, (by repeat (first | exact Below.refl _ _ | assumption | refine bel_drewN ?_ _ | refine bel_drew ?_ | refine bel_alloc ?_ _ | refine bel_set ?_ (by simp; omega) _ | refine bel_set ?_ (by simp) _ | refine bel_trans ?_ (by assumption)))⟩
      · have hd : decide (0 ≤ l) = false := by simpa using c3
        clear h
        go_enter Tryd.func16, Tryd.ntmps16
        go_wp2
        go_quiet (fail)
        go_wp2
        go_ret
        exact ⟨rfl, (by repeat (first | exact Below.refl _ _ | assumption | refine bel_drewN ?_ _ | refine bel_drew ?_ | refine bel_alloc ?_ _ | refine bel_set ?_ (by simp; omega) _ | refine bel_set ?_ (by simp) _ | refine bel_trans ?_ (by assumption)))⟩
    · have hd : decide (n ≤ 7) = false := by simpa using c2
      clear h
      go_enter Tryd.func16, Tryd.ntmps16
      go_wp2
      go_quiet (fail)
      go_wp2
      go_ret
      exact ⟨rfl, (by repeat (first | exact Below.refl _ _ | assumption | refine bel_drewN ?_ _ | refine bel_drew ?_ | refine bel_alloc ?_ _ | refine bel_set ?_ (by simp; omega) _ | refine bel_set ?_ (by simp) _ | refine bel_trans ?_ (by assumption)))⟩
  · have hd : decide (1 ≤ n) = false := by simpa using c1
    clear h
    go_enter Tryd.func16, Tryd.ntmps16
    go_wp2
    go_quiet (fail)
    go_wp2
    go_ret
    exact ⟨rfl, (by repeat (first | exact Below.refl _ _ | assumption | refine bel_drewN ?_ _ | refine bel_drew ?_ | refine bel_alloc ?_ _ | refine bel_set ?_ (by simp; omega) _ | refine bel_set ?_ (by simp) _ | refine bel_trans ?_ (by assumption)))⟩
theorem impl_sv (n l c : Int) (w : World) : Calls Tryd.prog 16 #[.agg #[.int .i64 n, .int .i64 l, .int .i64 c]] w fun e w' => e = .returned (.bool (shB n l c)) ∧ Below w.heap.size w w' := by
  cases h : shB n l c
  · exact impl_sv_no n l c h w
  · exact impl_sv_yes n l c h w


theorem spec_sv (n l c : Int) (w : World) : Calls Tryd.prog 31 #[.agg #[.int .i64 n, .int .i64 l, .int .i64 c]] w fun e w' => e = .returned (.bool (shB n l c)) ∧ Below w.heap.size w w' := by
  by_cases h0 : inB n 1 7 = true
  · have g0 := inB_true.1 h0
    by_cases h3 : n - 1 < 3
    · by_cases h1 : inB l 0 (n - 1) = true
      · have g1 := inB_true.1 h1
        by_cases h2 : inB c 1 (4 * l + 2) = true
        · have g2 := inB_true.1 h2
          have HB := Lib.hid (shB_true.2 (by omega) : shB n l c = true)
          go_enter Tryd.func31, Tryd.ntmps31
          go_wp2_with (go_at_call 47; refine (in_any _ _ _ _).mono ?_; rintro e w' ⟨rfl, rfl⟩)
          go_ret
          exact ⟨ret_bool HB.out.symm, (by repeat (first | exact Below.refl _ _ | assumption | refine bel_drewN ?_ _ | refine bel_drew ?_ | refine bel_alloc ?_ _ | refine bel_set ?_ (by simp; omega) _ | refine bel_set ?_ (by simp) _ | refine bel_trans ?_ (by assumption)))⟩
        · have h2 : inB c 1 (4 * l + 2) = false := by simpa using h2
          have g2 := inB_false.1 h2
          have HB := Lib.hid (shB_false.2 (by omega) : shB n l c = false)
          go_enter Tryd.func31, Tryd.ntmps31
          go_wp2_with (go_at_call 47; refine (in_any _ _ _ _).mono ?_; rintro e w' ⟨rfl, rfl⟩)
          go_ret
          exact ⟨ret_bool HB.out.symm, (by repeat (first | exact Below.refl _ _ | assumption | refine bel_drewN ?_ _ | refine bel_drew ?_ | refine bel_alloc ?_ _ | refine bel_set ?_ (by simp; omega) _ | refine bel_set ?_ (by simp) _ | refine bel_trans ?_ (by assumption)))⟩
      · have h1 : inB l 0 (n - 1) = false := by simpa using h1
        have g1 := inB_false.1 h1
        have HB := Lib.hid (shB_false.2 (by omega) : shB n l c = false)
        go_enter Tryd.func31, Tryd.ntmps31
        go_wp2_with (go_at_call 47; refine (in_any _ _ _ _).mono ?_; rintro e w' ⟨rfl, rfl⟩)
        go_ret
        exact ⟨ret_bool HB.out.symm, (by repeat (first | exact Below.refl _ _ | assumption | refine bel_drewN ?_ _ | refine bel_drew ?_ | refine bel_alloc ?_ _ | refine bel_set ?_ (by simp; omega) _ | refine bel_set ?_ (by simp) _ | refine bel_trans ?_ (by assumption)))⟩
    · by_cases h1 : inB l 0 3 = true
      · have g1 := inB_true.1 h1
        by_cases h2 : inB c 1 (4 * l + 2) = true
        · have g2 := inB_true.1 h2
          have HB := Lib.hid (shB_true.2 (by omega) : shB n l c = true)
          go_enter Tryd.func31, Tryd.ntmps31
          go_wp2_with (go_at_call 47; refine (in_any _ _ _ _).mono ?_; rintro e w' ⟨rfl, rfl⟩)
          go_ret
          exact ⟨ret_bool HB.out.symm, (by repeat (first | exact Below.refl _ _ | assumption | refine bel_drewN ?_ _ | refine bel_drew ?_ | refine bel_alloc ?_ _ | refine bel_set ?_ (by simp; omega) _ | refine bel_set ?_ (by simp) _ | refine bel_trans ?_ (by assumption)))⟩
        · have h2 : inB c 1 (4 * l + 2) = false := by simpa using h2
          have g2 := inB_false.1 h2
          have HB := Lib.hid (shB_false.2 (by omega) : shB n l c = false)
          go_enter Tryd.func31, Tryd.ntmps31
          go_wp2_with (go_at_call 47; refine (in_any _ _ _ _).mono ?_; rintro e w' ⟨rfl, rfl⟩)
          go_ret
          exact ⟨ret_bool HB.out.symm, (by repeat (first | exact Below.refl _ _ | assumption | refine bel_drewN ?_ _ | refine bel_drew ?_ | refine bel_alloc ?_ _ | refine bel_set ?_ (by simp; omega) _ | refine bel_set ?_ (by simp) _ | refine bel_trans ?_ (by assumption)))⟩
      · have h1 : inB l 0 3 = false := by simpa using h1
        have g1 := inB_false.1 h1
        have HB := Lib.hid (shB_false.2 (by omega) : shB n l c = false)
        go_enter Tryd.func31, Tryd.ntmps31
        go_wp2_with (go_at_call 47; refine (in_any _ _ _ _).mono ?_; rintro e w' ⟨rfl, rfl⟩)
        go_ret
        exact ⟨ret_bool HB.out.symm, (by repeat (first | exact Below.refl _ _ | assumption | refine bel_drewN ?_ _ | refine bel_drew ?_ | refine bel_alloc ?_ _ | refine bel_set ?_ (by simp; omega) _ | refine bel_set ?_ (by simp) _ | refine bel_trans ?_ (by assumption)))⟩
  · have h0 : inB n 1 7 = false := by simpa using h0
    have g0 := inB_false.1 h0
    have HB := Lib.hid (shB_false.2 (by omega) : shB n l c = false)
    go_enter Tryd.func31, Tryd.ntmps31
    go_wp2_with (go_at_call 47; refine (in_any _ _ _ _).mono ?_; rintro e w' ⟨rfl, rfl⟩)
    go_ret
    exact ⟨ret_bool HB.out.symm, (by repeat (first | exact Below.refl _ _ | assumption | refine bel_drewN ?_ _ | refine bel_drew ?_ | refine bel_alloc ?_ _ | refine bel_set ?_ (by simp; omega) _ | refine bel_set ?_ (by simp) _ | refine bel_trans ?_ (by assumption)))⟩

/-- the weight of a term -/
def tw (s l : Int) : Int := if tvB s l = true then (s + 1) * (2 * l + 1) else 0

end Go.Proofs.YtgmdljlbiokcaaaDoor
