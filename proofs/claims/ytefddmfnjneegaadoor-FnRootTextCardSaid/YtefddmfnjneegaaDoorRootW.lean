/-
  The walks of products and validity of roots. (Printed by wip/mk_root.py.)
-/
import Derived.Test.YtefddmfnjneegaaDoorRoot
namespace Go.Proofs.YtefddmfnjneegaaDoor
open Go.ChangeShapes Go.WideShapes Go.ChangeAt Go.RowKit Go.Deep Go.Joins
set_option linter.unusedVariables false
set_option maxRecDepth 100000

theorem red_all {N D : Nat} {w w' : World} (hb : Below w.heap.size w w') : RedEnd N D w (.returned (.tuple #[.agg #[.int .i64 (if redOk N D = true then (rn N D : Int) else 0), .int .i64 (if redOk N D = true then (rd N D : Int) else 0)], .bool (redOk N D)])) w' := ⟨rfl, hb⟩




set_option maxHeartbeats 2000000 in
theorem impl_rtv (s n d : Int) (w : World) : Calls Tryd.prog 13 #[.agg #[.int .i64 s, .int .i64 n, .int .i64 d]] w fun e w' => e = .returned (.bool (rtB s n d)) ∧ Below w.heap.size w w' := by
  by_cases c1 : -1 ≤ s
  · by_cases c2 : s ≤ 1
    · have hin : inB s (-1) 1 = true := inB_true.2 ⟨c1, c2⟩
      cases hr : ratB n d
      · have HE := Lib.hid (show rtB s n d = false by simp [rtB, hr])
        have HR := Lib.hid hr
        go_enter Tryd.func13, Tryd.ntmps13
        go_wp2_with fail
        refine (impl_rv _ _ _).mono ?_
        rintro e w1 ⟨rfl, hb1⟩
        have O1 := (Own.new w 29 #[.int .i64 s, .int .i64 n, .int .i64 d]).below hb1
        have L1 := bel_trans (bel_alloc (Below.refl _ _) _) hb1
        have q1 := O1.cell
        have k1 := O1.lt
        rw [HR.out]
        go_wp2_with fail
        go_ret
        exact ⟨ret_bool HE.out.symm, L1⟩
      · by_cases c3 : 0 ≤ n
        · have HE := Lib.hid (show rtB s n d = ((n == 0) == (s == 0)) by simp [rtB, hr, c3, hin])
          have HR := Lib.hid hr
          go_enter Tryd.func13, Tryd.ntmps13
          go_wp2_with fail
          refine (impl_rv _ _ _).mono ?_
          rintro e w1 ⟨rfl, hb1⟩
          have O1 := (Own.new w 29 #[.int .i64 s, .int .i64 n, .int .i64 d]).below hb1
          have L1 := bel_trans (bel_alloc (Below.refl _ _) _) hb1
          have q1 := O1.cell
          have k1 := O1.lt
          rw [HR.out]
          go_wp2_with fail
          go_ret
          exact ⟨ret_bool HE.out.symm, L1⟩
        · have HE := Lib.hid (show rtB s n d = false by simp [rtB, c3])
          have hd3 : decide (0 ≤ n) = false := decide_eq_false c3
          have HR := Lib.hid hr
          go_enter Tryd.func13, Tryd.ntmps13
          go_wp2_with fail
          refine (impl_rv _ _ _).mono ?_
          rintro e w1 ⟨rfl, hb1⟩
          have O1 := (Own.new w 29 #[.int .i64 s, .int .i64 n, .int .i64 d]).below hb1
          have L1 := bel_trans (bel_alloc (Below.refl _ _) _) hb1
          have q1 := O1.cell
          have k1 := O1.lt
          rw [HR.out]
          go_wp2_with fail
          go_ret
          exact ⟨ret_bool HE.out.symm, L1⟩
    · have HE := Lib.hid (show rtB s n d = false by simp [rtB, inB, c2])
      have hd : decide (s ≤ 1) = false := by simp; omega
      go_enter Tryd.func13, Tryd.ntmps13
      go_wp2_with fail
      go_ret
      exact ⟨ret_bool HE.out.symm, (by repeat (first | exact Below.refl _ _ | assumption | refine bel_drewN ?_ _ | refine bel_drew ?_ | refine bel_alloc ?_ _ | refine bel_set ?_ (by simp; omega) _ | refine bel_set ?_ (by simp) _ | refine bel_trans ?_ (by assumption)))⟩
  · have HE := Lib.hid (show rtB s n d = false by simp [rtB, inB, c1])
    have hd : decide (-1 ≤ s) = false := by simp; omega
    go_enter Tryd.func13, Tryd.ntmps13
    go_wp2_with fail
    go_ret
    exact ⟨ret_bool HE.out.symm, (by repeat (first | exact Below.refl _ _ | assumption | refine bel_drewN ?_ _ | refine bel_drew ?_ | refine bel_alloc ?_ _ | refine bel_set ?_ (by simp; omega) _ | refine bel_set ?_ (by simp) _ | refine bel_trans ?_ (by assumption)))⟩

set_option maxHeartbeats 2000000 in
theorem spec_rtv (s n d : Int) (w : World) : Calls Tryd.prog 10 #[.agg #[.int .i64 s, .int .i64 n, .int .i64 d]] w fun e w' => e = .returned (.bool (rtB s n d)) ∧ Below w.heap.size w w' := by
  cases hin : inB s (-1) 1
  · have HE := Lib.hid (show rtB s n d = false by simp [rtB, hin])
    go_enter Tryd.func10, Tryd.ntmps10
    go_wp2_with (go_at_call 18; refine (in_any _ _ _ _).mono ?_; rintro e w' ⟨rfl, rfl⟩)
    go_ret
    exact ⟨ret_bool HE.out.symm, (by repeat (first | exact Below.refl _ _ | assumption | refine bel_drewN ?_ _ | refine bel_drew ?_ | refine bel_alloc ?_ _ | refine bel_set ?_ (by simp; omega) _ | refine bel_set ?_ (by simp) _ | refine bel_trans ?_ (by assumption)))⟩
  · cases hr : ratB n d
    · have HE := Lib.hid (show rtB s n d = false by simp [rtB, hr])
      have HR := Lib.hid hr
      go_enter Tryd.func10, Tryd.ntmps10
      go_wp2_with (go_at_call 18; refine (in_any _ _ _ _).mono ?_; rintro e w' ⟨rfl, rfl⟩)
      refine (spec_rv _ _ _).mono ?_
      rintro e w1 ⟨rfl, hb1⟩
      have O1 := (Own.new w 29 #[.int .i64 s, .int .i64 n, .int .i64 d]).below hb1
      have L1 := bel_trans (bel_alloc (Below.refl _ _) _) hb1
      have q1 := O1.cell
      have k1 := O1.lt
      rw [HR.out]
      go_wp2_with fail
      go_ret
      exact ⟨ret_bool HE.out.symm, L1⟩
    · by_cases c3 : 0 ≤ n
      · have HE := Lib.hid (show rtB s n d = ((n == 0) == (s == 0)) by simp [rtB, hr, c3, hin])
        have HR := Lib.hid hr
        go_enter Tryd.func10, Tryd.ntmps10
        go_wp2_with (go_at_call 18; refine (in_any _ _ _ _).mono ?_; rintro e w' ⟨rfl, rfl⟩)
        refine (spec_rv _ _ _).mono ?_
        rintro e w1 ⟨rfl, hb1⟩
        have O1 := (Own.new w 29 #[.int .i64 s, .int .i64 n, .int .i64 d]).below hb1
        have L1 := bel_trans (bel_alloc (Below.refl _ _) _) hb1
        have q1 := O1.cell
        have k1 := O1.lt
        rw [HR.out]
        go_wp2_with fail
        go_ret
        exact ⟨ret_bool HE.out.symm, L1⟩
      · have HE := Lib.hid (show rtB s n d = false by simp [rtB, c3])
        have hd3 : decide (0 ≤ n) = false := decide_eq_false c3
        have HR := Lib.hid hr
        go_enter Tryd.func10, Tryd.ntmps10
        go_wp2_with (go_at_call 18; refine (in_any _ _ _ _).mono ?_; rintro e w' ⟨rfl, rfl⟩)
        refine (spec_rv _ _ _).mono ?_
        rintro e w1 ⟨rfl, hb1⟩
        have O1 := (Own.new w 29 #[.int .i64 s, .int .i64 n, .int .i64 d]).below hb1
        have L1 := bel_trans (bel_alloc (Below.refl _ _) _) hb1
        have q1 := O1.cell
        have k1 := O1.lt
        rw [HR.out]
        go_wp2_with fail
        go_ret
        exact ⟨ret_bool HE.out.symm, L1⟩



end Go.Proofs.YtefddmfnjneegaaDoor
