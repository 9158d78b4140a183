/-
  Contracts on rationals: greatest common divisors, validity.
-/
import Derived.Test.YtefddmfnjneegaaDoorRatPlain
namespace Go.Proofs.YtefddmfnjneegaaDoor
open Go.ChangeShapes Go.WideShapes Go.ChangeAt Go.RowKit Go.Deep Go.Joins
set_option linter.unusedVariables false

theorem impl_abs (n : Int) (h0 : -9223372036854775807 ≤ n) (h1 : n ≤ 9223372036854775807) (w : World) : Calls Tryd.prog 31 #[.int .i64 n] w fun e w' => e = .returned (.int .i64 (n.natAbs : Int)) ∧ w = w' := by
  have hneg : IntKind.i64.wrap (-n) = -n := IntWalk.i64_in _ (by omega)
  by_cases h : 0 ≤ n
  · have hmax : max n (-n) = n := by omega
    have h2 : ¬ n < -n := by omega
    have HA := Lib.hid (show (n.natAbs : Int) = n by omega)
    go_enter Tryd.func31, Tryd.ntmps31
    go_wp2_with fail
    all_goals
      go_ret
      exact ⟨ret_int (by have := HA.out; omega), rfl⟩
  · have hmax : max n (-n) = -n := by omega
    have h2 : n < -n := by omega
    have HA := Lib.hid (show (n.natAbs : Int) = -n by omega)
    go_enter Tryd.func31, Tryd.ntmps31
    go_wp2_with fail
    all_goals
      go_ret
      exact ⟨ret_int (by have := HA.out; omega), rfl⟩
theorem spec_abs (n : Int) (h0 : -9223372036854775807 ≤ n) (h1 : n ≤ 9223372036854775807) (w : World) : Calls Tryd.prog 24 #[.int .i64 n] w fun e w' => e = .returned (.int .i64 (n.natAbs : Int)) ∧ w = w' := by
  by_cases h : n < 0
  · have hneg : IntKind.i64.wrap (0 - n) = 0 - n := IntWalk.i64_in _ (by omega)
    have HA := Lib.hid (show (n.natAbs : Int) = 0 - n by omega)
    go_enter Tryd.func24, Tryd.ntmps24
    go_wp2_with fail
    go_ret
    exact ⟨ret_int (by rw [HA.out]; omega), rfl⟩
  · have HA := Lib.hid (show (n.natAbs : Int) = n by omega)
    go_enter Tryd.func24, Tryd.ntmps24
    go_wp2_with fail
    go_ret
    exact ⟨ret_int HA.out.symm, rfl⟩

theorem gcd_step {x y : Nat} (h : y ≠ 0) : Nat.gcd y (x % y) = Nat.gcd x y := by
  rw [Nat.gcd_comm y (x % y), ← Nat.gcd_rec, Nat.gcd_comm]

set_option maxHeartbeats 2000000 in
theorem impl_div (a b : Int) (h0 : -9223372036854775807 ≤ a ∧ a ≤ 9223372036854775807) (h1 : -9223372036854775807 ≤ b ∧ b ≤ 9223372036854775807) (w : World) :
    Calls Tryd.prog 27 #[.int .i64 a, .int .i64 b] w fun e w' => e = .returned (.int .i64 (Int.gcd a b : Nat)) ∧ ∃ n, w' = w.drewN n := by
  have HA := Lib.hid (fun w => impl_abs a h0.1 h0.2 w)
  have HB := Lib.hid (fun w => impl_abs b h1.1 h1.2 w)
  have HG := Lib.hid (show Int.gcd a b = Nat.gcd a.natAbs b.natAbs from rfl)
  have hA : a.natAbs ≤ 9223372036854775807 := by omega
  have hB : b.natAbs ≤ 9223372036854775807 := by omega
  generalize Int.gcd a b = g at *
  generalize a.natAbs = A at *
  generalize b.natAbs = B at *
  clear h0 h1
  go_enter Tryd.func27, Tryd.ntmps27
  go_wp2_with (go_at_call 31; first | (refine (HA.out _).mono ?_; rintro e w' ⟨rfl, rfl⟩) | (refine (HB.out _).mono ?_; rintro e w' ⟨rfl, rfl⟩))
  go_loopg [0, 1] B (fun gk p q wr => ∃ x y : Nat, y = gk ∧ p = .int .i64 x ∧ q = .int .i64 y ∧ Nat.gcd x y = Nat.gcd A B ∧ x ≤ 9223372036854775807 ∧ y ≤ 9223372036854775807 ∧ ∃ n, wr = w.drewN n)
  case atStart => exact ⟨A, B, rfl, rfl, rfl, rfl, hA, hB, 0, rfl⟩
  case round =>
    obtain ⟨x, y, rfl, rfl, rfl, hg, hx, hy, nn, rfl⟩ := hrel
    have HX := Lib.hid hg
    clear hg hA hB
    by_cases h0 : y = 0
    · subst h0
      have HE := Lib.hid (HG.out.trans (HX.out.symm.trans (Nat.gcd_zero_right x)))
      go_wp2_with fail
      go_ret
      exact ⟨ret_int (by rw [HE.out]), nn, rfl⟩
    · have hlt := Nat.mod_lt x (show y > 0 by omega)
      have HX2 := Lib.hid ((gcd_step h0).trans HX.out)
      have e1 : ((x : Int).tmod y) = ((x % y : Nat) : Int) := rfl
      have h0' : (y == 0) = false := by simp [h0]
      generalize x % y = r at *
      clear HX
      go_wp2_with fail
      go_quiet (fail)
      go_wp2_with fail
      go_roundg r
      case measure => omega
      case rel => exact ⟨y, r, rfl, rfl, rfl, HX2.out, hy, by omega, nn + nq, by rw [World.drewN_drewN]⟩

set_option maxHeartbeats 2000000 in
theorem spec_gcd (A B : Nat) (hA : A ≤ 9223372036854775807) (hB : B ≤ 9223372036854775807) (w : World) :
    Calls Tryd.prog 26 #[.int .i64 A, .int .i64 B] w fun e w' => e = .returned (.int .i64 (Nat.gcd A B : Nat)) ∧ w = w' := by
  go_enter Tryd.func26, Tryd.ntmps26
  go_wp2_with fail
  go_loopg [0, 1] B (fun gk p q wr => ∃ x y : Nat, y = gk ∧ p = .int .i64 x ∧ q = .int .i64 y ∧ Nat.gcd x y = Nat.gcd A B ∧ x ≤ 9223372036854775807 ∧ y ≤ 9223372036854775807 ∧ wr = w)
  case atStart => exact ⟨A, B, rfl, rfl, rfl, rfl, hA, hB, rfl⟩
  case round =>
    obtain ⟨x, y, rfl, rfl, rfl, hg, hx, hy, rfl⟩ := hrel
    have HX := Lib.hid hg
    clear hg hA hB
    by_cases h0 : y = 0
    · subst h0
      have HE := Lib.hid (HX.out.symm.trans (Nat.gcd_zero_right x))
      go_wp2_with fail
      go_ret
      exact ⟨ret_int (by rw [HE.out]), rfl⟩
    · have hlt := Nat.mod_lt x (show y > 0 by omega)
      have HX2 := Lib.hid ((gcd_step h0).trans HX.out)
      have e1 : ((x : Int).tmod y) = ((x % y : Nat) : Int) := rfl
      have h0' : (y == 0) = false := by simp [h0]
      generalize x % y = r at *
      clear HX
      go_wp2_with fail
      go_roundg r
      case measure => omega
      case rel => exact ⟨y, r, rfl, rfl, rfl, HX2.out, hy, by omega, rfl⟩

theorem quiet_more {P : Program} {f : FuncId} {args : Array Value} {w : World} {n : Nat} {v : Value} (h : Calls P f args (w.drewN n) fun e w' => e = .returned v ∧ ∃ m, w' = (w.drewN n).drewN m) :
    Calls P f args (w.drewN n) fun e w'' => e = .returned v ∧ ∃ m, w'' = w.drewN m := h.mono fun _ _ ⟨he, m, hm⟩ => ⟨he, n + m, by rw [hm, World.drewN_drewN]⟩

theorem ratB_in {n d : Int} (h1 : 1 ≤ d) (h2 : d ≤ 1000000000) (h3 : -1000000000 ≤ n) (h4 : n ≤ 1000000000) : ratB n d = (Int.gcd n d == 1) := by
  simp [ratB, inB, h1, h2, h3, h4]
theorem ratB_out {n d : Int} (h : d < 1 ∨ 1000000000 < d ∨ n < -1000000000 ∨ 1000000000 < n) : ratB n d = false := by
  rw [← Bool.not_eq_true, ratB_true]; omega

set_option maxHeartbeats 2000000 in
theorem impl_rv (n d : Int) (w : World) : Calls Tryd.prog 21 #[.agg #[.int .i64 n, .int .i64 d]] w fun e w' => e = .returned (.bool (ratB n d)) ∧ Below w.heap.size w w' := by
  by_cases c1 : 1 ≤ d
  · by_cases c2 : d ≤ 1000000000
    · by_cases c3 : -1000000000 ≤ n
      · by_cases c4 : n ≤ 1000000000
        · have HD := Lib.hid (fun w => impl_div n d (by omega) (by omega) w)
          have HB := Lib.hid (ratB_in c1 c2 c3 c4)
          generalize Int.gcd n d = g at *
          by_cases hg : g = 1
          · subst hg
            have HE := Lib.hid (show ratB n d = true by rw [HB.out]; rfl)
            go_enter Tryd.func21, Tryd.ntmps21
            go_wp2_with (go_at_call 27; refine (HD.out _).mono ?_; rintro e w' ⟨rfl, nn, rfl⟩)
            go_ret
            exact ⟨ret_bool HE.out.symm, (by repeat (first | exact Below.refl _ _ | assumption | refine bel_drewN ?_ _ | refine bel_drew ?_ | refine bel_alloc ?_ _ | refine bel_set ?_ (by simp; omega) _ | refine bel_set ?_ (by simp) _ | refine bel_trans ?_ (by assumption)))⟩
          · have HE := Lib.hid (show ratB n d = false by rw [HB.out]; simpa using hg)
            have hg2 : ((g : Int) == 1) = false := by simp; omega
            clear hg
            go_enter Tryd.func21, Tryd.ntmps21
            go_wp2_with (go_at_call 27; refine (HD.out _).mono ?_; rintro e w' ⟨rfl, nn, rfl⟩)
            go_ret
            exact ⟨ret_bool HE.out.symm, (by repeat (first | exact Below.refl _ _ | assumption | refine bel_drewN ?_ _ | refine bel_drew ?_ | refine bel_alloc ?_ _ | refine bel_set ?_ (by simp; omega) _ | refine bel_set ?_ (by simp) _ | refine bel_trans ?_ (by assumption)))⟩
        · have HE := Lib.hid (ratB_out (n := n) (d := d) (by omega))
          have hd : decide (n ≤ 1000000000) = false := by simpa using c4
          go_enter Tryd.func21, Tryd.ntmps21
          go_wp2
          go_ret
          exact ⟨ret_bool HE.out.symm, (by repeat (first | exact Below.refl _ _ | assumption | refine bel_drewN ?_ _ | refine bel_drew ?_ | refine bel_alloc ?_ _ | refine bel_set ?_ (by simp; omega) _ | refine bel_set ?_ (by simp) _ | refine bel_trans ?_ (by assumption)))⟩
      · have HE := Lib.hid (ratB_out (n := n) (d := d) (by omega))
        have hd : decide (-1000000000 ≤ n) = false := by simpa using c3
        go_enter Tryd.func21, Tryd.ntmps21
        go_wp2
        go_ret
        exact ⟨ret_bool HE.out.symm, (by repeat (first | exact Below.refl _ _ | assumption | refine bel_drewN ?_ _ | refine bel_drew ?_ | refine bel_alloc ?_ _ | refine bel_set ?_ (by simp; omega) _ | refine bel_set ?_ (by simp) _ | refine bel_trans ?_ (by assumption)))⟩
    · have HE := Lib.hid (ratB_out (n := n) (d := d) (by omega))
      have hd : decide (d ≤ 1000000000) = false := by simpa using c2
      go_enter Tryd.func21, Tryd.ntmps21
      go_wp2
      go_ret
      exact ⟨ret_bool HE.out.symm, (by repeat (first | exact Below.refl _ _ | assumption | refine bel_drewN ?_ _ | refine bel_drew ?_ | refine bel_alloc ?_ _ | refine bel_set ?_ (by simp; omega) _ | refine bel_set ?_ (by simp) _ | refine bel_trans ?_ (by assumption)))⟩
  · have HE := Lib.hid (ratB_out (n := n) (d := d) (by omega))
    have hd : decide (1 ≤ d) = false := by simpa using c1
    go_enter Tryd.func21, Tryd.ntmps21
    go_wp2
    go_ret
    exact ⟨ret_bool HE.out.symm, (by repeat (first | exact Below.refl _ _ | assumption | refine bel_drewN ?_ _ | refine bel_drew ?_ | refine bel_alloc ?_ _ | refine bel_set ?_ (by simp; omega) _ | refine bel_set ?_ (by simp) _ | refine bel_trans ?_ (by assumption)))⟩

set_option maxHeartbeats 2000000 in
theorem spec_rv (n d : Int) (w : World) : Calls Tryd.prog 19 #[.agg #[.int .i64 n, .int .i64 d]] w fun e w' => e = .returned (.bool (ratB n d)) ∧ Below w.heap.size w w' := by
  by_cases h0 : inB d 1 1000000000 = true
  · have g0 := inB_true.1 h0
    by_cases h1 : inB n (-1000000000) 1000000000 = true
    · have g1 := inB_true.1 h1
      have HB := Lib.hid (ratB_in g0.1 g0.2 g1.1 g1.2)
      have HA := Lib.hid (fun w => spec_abs n (by omega) (by omega) w)
      obtain ⟨D, rfl⟩ := Int.eq_ofNat_of_zero_le (show 0 ≤ d by omega)
      have HG := Lib.hid (fun w => spec_gcd n.natAbs D (by omega) (by omega) w)
      have hgg : Int.gcd n (D : Int) = Nat.gcd n.natAbs D := rfl
      rw [hgg] at HB
      generalize Nat.gcd n.natAbs D = g at *
      generalize n.natAbs = A at *
      clear hgg
      by_cases hg : g = 1
      · subst hg
        have HE := Lib.hid (show ratB n D = true by rw [HB.out]; rfl)
        go_enter Tryd.func19, Tryd.ntmps19
        go_wp2_with (go_at_call 18; refine (in_any _ _ _ _).mono ?_; rintro e w' ⟨rfl, rfl⟩)
        go_quiet ((first | (go_at_call 24; exact quiet_left (HA.out _)) | (go_at_call 26; exact quiet_left (HG.out _))))
        go_wp2_with fail
        go_ret
        exact ⟨ret_bool HE.out.symm, (by repeat (first | exact Below.refl _ _ | assumption | refine bel_drewN ?_ _ | refine bel_drew ?_ | refine bel_alloc ?_ _ | refine bel_set ?_ (by simp; omega) _ | refine bel_set ?_ (by simp) _ | refine bel_trans ?_ (by assumption)))⟩
      · have HE := Lib.hid (show ratB n D = false by rw [HB.out]; simpa using hg)
        have hg2 : ((g : Int) == 1) = false := by simp; omega
        clear hg
        go_enter Tryd.func19, Tryd.ntmps19
        go_wp2_with (go_at_call 18; refine (in_any _ _ _ _).mono ?_; rintro e w' ⟨rfl, rfl⟩)
        go_quiet ((first | (go_at_call 24; exact quiet_left (HA.out _)) | (go_at_call 26; exact quiet_left (HG.out _))))
        go_wp2_with fail
        go_ret
        exact ⟨ret_bool HE.out.symm, (by repeat (first | exact Below.refl _ _ | assumption | refine bel_drewN ?_ _ | refine bel_drew ?_ | refine bel_alloc ?_ _ | refine bel_set ?_ (by simp; omega) _ | refine bel_set ?_ (by simp) _ | refine bel_trans ?_ (by assumption)))⟩
    · have h1 : inB n (-1000000000) 1000000000 = false := by simpa using h1
      have g1 := inB_false.1 h1
      have HE := Lib.hid (ratB_out (n := n) (d := d) (by omega))
      go_enter Tryd.func19, Tryd.ntmps19
      go_wp2_with (go_at_call 18; refine (in_any _ _ _ _).mono ?_; rintro e w' ⟨rfl, rfl⟩)
      go_ret
      exact ⟨ret_bool HE.out.symm, (by repeat (first | exact Below.refl _ _ | assumption | refine bel_drewN ?_ _ | refine bel_drew ?_ | refine bel_alloc ?_ _ | refine bel_set ?_ (by simp; omega) _ | refine bel_set ?_ (by simp) _ | refine bel_trans ?_ (by assumption)))⟩
  · have h0 : inB d 1 1000000000 = false := by simpa using h0
    have g0 := inB_false.1 h0
    have HE := Lib.hid (ratB_out (n := n) (d := d) (by omega))
    go_enter Tryd.func19, Tryd.ntmps19
    go_wp2_with (go_at_call 18; refine (in_any _ _ _ _).mono ?_; rintro e w' ⟨rfl, rfl⟩)
    go_ret
    exact ⟨ret_bool HE.out.symm, (by repeat (first | exact Below.refl _ _ | assumption | refine bel_drewN ?_ _ | refine bel_drew ?_ | refine bel_alloc ?_ _ | refine bel_set ?_ (by simp; omega) _ | refine bel_set ?_ (by simp) _ | refine bel_trans ?_ (by assumption)))⟩

end Go.Proofs.YtefddmfnjneegaaDoor
