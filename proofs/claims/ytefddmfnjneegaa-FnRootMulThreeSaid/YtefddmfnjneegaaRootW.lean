/-
  The walks of products and validity of roots. (Printed by wip/mk_root.py.)
-/
import Derived.Test.YtefddmfnjneegaaRoot
namespace Go.Proofs.Ytefddmfnjneegaa
open Go.ChangeShapes Go.WideShapes Go.ChangeAt Go.RowKit Go.Deep Go.Joins
set_option linter.unusedVariables false
set_option maxRecDepth 100000

theorem red_all {N D : Nat} {w w' : World} (hb : Below w.heap.size w w') : RedEnd N D w (.returned (.tuple #[.agg #[.int .i64 (if redOk N D = true then (rn N D : Int) else 0), .int .i64 (if redOk N D = true then (rd N D : Int) else 0)], .bool (redOk N D)])) w' := ⟨rfl, hb⟩

theorem spec_two (a b c d : Int) (w : World) : Calls Try.prog 23 #[.agg #[.int .i64 a, .int .i64 b], .agg #[.int .i64 c, .int .i64 d]] w fun e w' => e = .returned (.bool (ratB a b && ratB c d)) ∧ Below w.heap.size w w' := by
  have O2 := Own.new (w.alloc (.cells #[.int .i64 a, .int .i64 b] 24)) 24 #[.int .i64 c, .int .i64 d]
  simp only [World.size_alloc] at O2
  have L0 : Below w.heap.size w ((w.alloc (.cells #[.int .i64 a, .int .i64 b] 24)).alloc (.cells #[.int .i64 c, .int .i64 d] 24)) := (by repeat (first | exact Below.refl _ _ | assumption | refine bel_drewN ?_ _ | refine bel_drew ?_ | refine bel_alloc ?_ _ | refine bel_set ?_ (by simp; omega) _ | refine bel_set ?_ (by simp) _ | refine bel_trans ?_ (by assumption)))
  cases h1 : ratB a b
  · have H1 := Lib.hid h1
    go_enter Try.func23, Try.ntmps23
    go_wp2_with fail
    refine (spec_rv _ _ _).mono ?_
    rintro e w1 ⟨rfl, hb1⟩
    have L1 := bel_trans L0 hb1
    rw [H1.out]
    go_wp2_with fail
    go_ret
    exact ⟨by simp, L1⟩
  · have H1 := Lib.hid h1
    go_enter Try.func23, Try.ntmps23
    go_wp2_with fail
    refine (spec_rv _ _ _).mono ?_
    rintro e w1 ⟨rfl, hb1⟩
    have L1 := bel_trans L0 hb1
    have O3 := O2.below hb1
    have q2 := O3.cell
    have k2 := O3.lt
    rw [H1.out]
    clear O2 L0 hb1
    go_wp2_with fail
    refine (spec_rv _ _ _).mono ?_
    rintro e w2 ⟨rfl, hb2⟩
    go_wp2_with fail
    go_ret
    exact ⟨by simp, bel_trans L1 hb2⟩

set_option maxHeartbeats 2000000 in
theorem impl_rm (a b c d : Nat) (h1 : ratB a b = true) (h2 : ratB c d = true) (w : World) :
    Calls Try.prog 12 #[.agg #[.int .i64 a, .int .i64 b], .agg #[.int .i64 c, .int .i64 d]] w (RedEnd (a * c) (b * d) w) := by
  have g1 := ratB_true.1 h1
  have g2 := ratB_true.1 h2
  have ha : a ≤ 1000000000 := by omega
  have hb : b ≤ 1000000000 := by omega
  have hc : c ≤ 1000000000 := by omega
  have hd : d ≤ 1000000000 := by omega
  have m1 : a * c ≤ 1000000000 * 1000000000 := Nat.mul_le_mul ha hc
  have m2 : b * d ≤ 1000000000 * 1000000000 := Nat.mul_le_mul hb hd
  have m3 : 0 < b * d := Nat.mul_pos (by omega) (by omega)
  have e1 : (a : Int) * (c : Int) = ((a * c : Nat) : Int) := by rw [Int.natCast_mul]
  have e2 : (b : Int) * (d : Int) = ((b * d : Nat) : Int) := by rw [Int.natCast_mul]
  have HM := Lib.hid (fun w => impl_rof (a * c) (b * d) (by omega) m3 (by omega) w)
  generalize a * c = N at *
  generalize b * d = D at *
  have w1 : IntKind.i64.wrap (N : Int) = N := IntWalk.i64_in _ (by omega)
  have w2 : IntKind.i64.wrap (D : Int) = D := IntWalk.i64_in _ (by omega)
  have HV1 := Lib.hid (fun w => impl_rv (a : Int) (b : Int) w)
  have HV2 := Lib.hid (fun w => impl_rv (c : Int) (d : Int) w)
  rw [h1] at HV1
  rw [h2] at HV2
  clear g1 g2 h1 h2 m1 m2 m3 ha hb hc hd
  have HRE := Lib.hid (fun w w' hb => @red_all N D w w' hb)
  unfold RedEnd at HM
  obtain ⟨E, hE⟩ : ∃ E, RedEnd N D = E := ⟨_, rfl⟩
  rw [hE] at HRE ⊢
  clear hE
  generalize (if redOk N D = true then (rn N D : Int) else 0) = x at *
  generalize (if redOk N D = true then (rd N D : Int) else 0) = y at *
  generalize redOk N D = bb at *
  have O1 := ((Own.new w 24 #[.int .i64 a, .int .i64 b]).alloc (.cells #[.int .i64 c, .int .i64 d] 24)).alloc (.cells #[.int .i64 0, .int .i64 0] 24)
  have O2 := (Own.new (w.alloc (.cells #[.int .i64 a, .int .i64 b] 24)) 24 #[.int .i64 c, .int .i64 d]).alloc (.cells #[.int .i64 0, .int .i64 0] 24)
  have O3 := Own.new ((w.alloc (.cells #[.int .i64 a, .int .i64 b] 24)).alloc (.cells #[.int .i64 c, .int .i64 d] 24)) 24 #[.int .i64 0, .int .i64 0]
  simp only [World.size_alloc] at O1 O2 O3
  have L0 : Below w.heap.size w (((w.alloc (.cells #[.int .i64 a, .int .i64 b] 24)).alloc (.cells #[.int .i64 c, .int .i64 d] 24)).alloc (.cells #[.int .i64 0, .int .i64 0] 24)) := (by repeat (first | exact Below.refl _ _ | assumption | refine bel_drewN ?_ _ | refine bel_drew ?_ | refine bel_alloc ?_ _ | refine bel_set ?_ (by simp; omega) _ | refine bel_set ?_ (by simp) _ | refine bel_trans ?_ (by assumption)))
  go_enter Try.func12, Try.ntmps12
  go_wp2_with fail
  generalize ((w.alloc (.cells #[.int .i64 a, .int .i64 b] 24)).alloc (.cells #[.int .i64 c, .int .i64 d] 24)).alloc (.cells #[.int .i64 0, .int .i64 0] 24) = W at *
  refine (HV1.out _).mono ?_
  rintro e w3 ⟨rfl, hb3⟩
  have P1 := O1.below hb3
  have P2 := O2.below hb3
  have P3 := O3.below hb3
  have L3 := bel_trans L0 hb3
  have q1 := P1.cell
  have q2 := P2.cell
  have k1 := P1.lt
  have k2 := P2.lt
  clear O1 O2 O3 L0 hb3
  go_wp2_with fail
  refine (HV2.out _).mono ?_
  rintro e w4 ⟨rfl, hb4⟩
  have R1 := P1.below hb4
  have R2 := P2.below hb4
  have R3 := P3.below hb4
  have L4 := bel_trans L3 hb4
  have q1 := R1.cell
  have q2 := R2.cell
  have k1 := R1.lt
  have k2 := R2.lt
  clear P1 P2 P3 L3 hb4
  go_wp2_with fail
  refine (HM.out _).mono ?_
  rintro e w5 ⟨rfl, hb5⟩
  have S3 := R3.below hb5
  have L5 := bel_trans L4 hb5
  have q3 := S3.cell
  have k3 := S3.lt
  have f3 := S3.frozen
  go_wp2_with fail
  exact bodyPost_ret (v := .tuple #[.agg #[.int .i64 x, .int .i64 y], .bool bb]) (by simp [results, Try.results12, go_sem, q3]) rfl (HRE.out _ _ (by repeat (first | exact Below.refl _ _ | assumption | refine bel_drewN ?_ _ | refine bel_drew ?_ | refine bel_alloc ?_ _ | refine bel_set ?_ (by simp; omega) _ | refine bel_set ?_ (by simp) _ | refine bel_trans ?_ (by assumption))))

set_option maxHeartbeats 2000000 in
theorem spec_rm (a b c d : Nat) (h1 : ratB a b = true) (h2 : ratB c d = true) (w : World) :
    Calls Try.prog 14 #[.agg #[.int .i64 a, .int .i64 b], .agg #[.int .i64 c, .int .i64 d]] w (RedEnd (a * c) (b * d) w) := by
  have g1 := ratB_true.1 h1
  have g2 := ratB_true.1 h2
  have ha : a ≤ 1000000000 := by omega
  have hb : b ≤ 1000000000 := by omega
  have hc : c ≤ 1000000000 := by omega
  have hd : d ≤ 1000000000 := by omega
  have m1 : a * c ≤ 1000000000 * 1000000000 := Nat.mul_le_mul ha hc
  have m2 : b * d ≤ 1000000000 * 1000000000 := Nat.mul_le_mul hb hd
  have m3 : 0 < b * d := Nat.mul_pos (by omega) (by omega)
  have e1 : (a : Int) * (c : Int) = ((a * c : Nat) : Int) := by rw [Int.natCast_mul]
  have e2 : (b : Int) * (d : Int) = ((b * d : Nat) : Int) := by rw [Int.natCast_mul]
  have HM := Lib.hid (fun w => spec_make (a * c) (b * d) (by omega) m3 (by omega) w)
  generalize a * c = N at *
  generalize b * d = D at *
  have w1 : IntKind.i64.wrap (N : Int) = N := IntWalk.i64_in _ (by omega)
  have w2 : IntKind.i64.wrap (D : Int) = D := IntWalk.i64_in _ (by omega)
  have HV := Lib.hid (fun w => spec_two (a : Int) (b : Int) (c : Int) (d : Int) w)
  rw [h1, h2] at HV
  clear g1 g2 h1 h2 m1 m2 m3 ha hb hc hd
  have HRE := Lib.hid (fun w w' hb => @red_all N D w w' hb)
  unfold RedEnd at HM
  obtain ⟨E, hE⟩ : ∃ E, RedEnd N D = E := ⟨_, rfl⟩
  rw [hE] at HRE ⊢
  clear hE
  generalize (if redOk N D = true then (rn N D : Int) else 0) = x at *
  generalize (if redOk N D = true then (rd N D : Int) else 0) = y at *
  generalize redOk N D = bb at *
  have O1 := ((Own.new w 24 #[.int .i64 a, .int .i64 b]).alloc (.cells #[.int .i64 c, .int .i64 d] 24)).alloc (.cells #[.int .i64 0, .int .i64 0] 24)
  have O2 := (Own.new (w.alloc (.cells #[.int .i64 a, .int .i64 b] 24)) 24 #[.int .i64 c, .int .i64 d]).alloc (.cells #[.int .i64 0, .int .i64 0] 24)
  have O3 := Own.new ((w.alloc (.cells #[.int .i64 a, .int .i64 b] 24)).alloc (.cells #[.int .i64 c, .int .i64 d] 24)) 24 #[.int .i64 0, .int .i64 0]
  simp only [World.size_alloc] at O1 O2 O3
  have L0 : Below w.heap.size w (((w.alloc (.cells #[.int .i64 a, .int .i64 b] 24)).alloc (.cells #[.int .i64 c, .int .i64 d] 24)).alloc (.cells #[.int .i64 0, .int .i64 0] 24)) := (by repeat (first | exact Below.refl _ _ | assumption | refine bel_drewN ?_ _ | refine bel_drew ?_ | refine bel_alloc ?_ _ | refine bel_set ?_ (by simp; omega) _ | refine bel_set ?_ (by simp) _ | refine bel_trans ?_ (by assumption)))
  go_enter Try.func14, Try.ntmps14
  go_wp2_with fail
  generalize ((w.alloc (.cells #[.int .i64 a, .int .i64 b] 24)).alloc (.cells #[.int .i64 c, .int .i64 d] 24)).alloc (.cells #[.int .i64 0, .int .i64 0] 24) = W at *
  refine (HV.out _).mono ?_
  rintro e w4 ⟨rfl, hb4⟩
  have R1 := O1.below hb4
  have R2 := O2.below hb4
  have R3 := O3.below hb4
  have L4 := bel_trans L0 hb4
  have q1 := R1.cell
  have q2 := R2.cell
  have k1 := R1.lt
  have k2 := R2.lt
  clear O1 O2 O3 L0 hb4
  go_wp2_with fail
  refine (HM.out _).mono ?_
  rintro e w5 ⟨rfl, hb5⟩
  have S3 := R3.below hb5
  have L5 := bel_trans L4 hb5
  have q3 := S3.cell
  have k3 := S3.lt
  have f3 := S3.frozen
  go_wp2_with fail
  exact bodyPost_ret (v := .tuple #[.agg #[.int .i64 x, .int .i64 y], .bool bb]) (by simp [results, Try.results14, go_sem, q3]) rfl (HRE.out _ _ (by repeat (first | exact Below.refl _ _ | assumption | refine bel_drewN ?_ _ | refine bel_drew ?_ | refine bel_alloc ?_ _ | refine bel_set ?_ (by simp; omega) _ | refine bel_set ?_ (by simp) _ | refine bel_trans ?_ (by assumption))))

set_option maxHeartbeats 2000000 in
theorem impl_rtv (s n d : Int) (w : World) : Calls Try.prog 11 #[.agg #[.int .i64 s, .int .i64 n, .int .i64 d]] w fun e w' => e = .returned (.bool (rtB s n d)) ∧ Below w.heap.size w w' := by
  by_cases c1 : -1 ≤ s
  · by_cases c2 : s ≤ 1
    · have hin : inB s (-1) 1 = true := inB_true.2 ⟨c1, c2⟩
      cases hr : ratB n d
      · have HE := Lib.hid (show rtB s n d = false by simp [rtB, hr])
        have HR := Lib.hid hr
        go_enter Try.func11, Try.ntmps11
        go_wp2_with fail
        refine (impl_rv _ _ _).mono ?_
        rintro e w1 ⟨rfl, hb1⟩
        have O1 := (Own.new w 26 #[.int .i64 s, .int .i64 n, .int .i64 d]).below hb1
        have L1 := bel_trans (bel_alloc (Below.refl _ _) _) hb1
        have q1 := O1.cell
        have k1 := O1.lt
        rw [HR.out]
        go_wp2_with fail
        go_ret
        exact ⟨ret_bool HE.out.symm, L1⟩
      · by_cases c3 : 0 ≤ n
        · have HE := Lib.hid (show rtB s n d = ((n == 0) == (s == 0)) by simp [rtB, hr, c3, hin])
          have HR := Lib.hid hr
          go_enter Try.func11, Try.ntmps11
          go_wp2_with fail
          refine (impl_rv _ _ _).mono ?_
          rintro e w1 ⟨rfl, hb1⟩
          have O1 := (Own.new w 26 #[.int .i64 s, .int .i64 n, .int .i64 d]).below hb1
          have L1 := bel_trans (bel_alloc (Below.refl _ _) _) hb1
          have q1 := O1.cell
          have k1 := O1.lt
          rw [HR.out]
          go_wp2_with fail
          go_ret
          exact ⟨ret_bool HE.out.symm, L1⟩
        · have HE := Lib.hid (show rtB s n d = false by simp [rtB, c3])
          have hd3 : decide (0 ≤ n) = false := decide_eq_false c3
          have HR := Lib.hid hr
          go_enter Try.func11, Try.ntmps11
          go_wp2_with fail
          refine (impl_rv _ _ _).mono ?_
          rintro e w1 ⟨rfl, hb1⟩
          have O1 := (Own.new w 26 #[.int .i64 s, .int .i64 n, .int .i64 d]).below hb1
          have L1 := bel_trans (bel_alloc (Below.refl _ _) _) hb1
          have q1 := O1.cell
          have k1 := O1.lt
          rw [HR.out]
          go_wp2_with fail
          go_ret
          exact ⟨ret_bool HE.out.symm, L1⟩
    · have HE := Lib.hid (show rtB s n d = false by simp [rtB, inB, c2])
      have hd : decide (s ≤ 1) = false := by simp; omega
      go_enter Try.func11, Try.ntmps11
      go_wp2_with fail
      go_ret
      exact ⟨ret_bool HE.out.symm, (by repeat (first | exact Below.refl _ _ | assumption | refine bel_drewN ?_ _ | refine bel_drew ?_ | refine bel_alloc ?_ _ | refine bel_set ?_ (by simp; omega) _ | refine bel_set ?_ (by simp) _ | refine bel_trans ?_ (by assumption)))⟩
  · have HE := Lib.hid (show rtB s n d = false by simp [rtB, inB, c1])
    have hd : decide (-1 ≤ s) = false := by simp; omega
    go_enter Try.func11, Try.ntmps11
    go_wp2_with fail
    go_ret
    exact ⟨ret_bool HE.out.symm, (by repeat (first | exact Below.refl _ _ | assumption | refine bel_drewN ?_ _ | refine bel_drew ?_ | refine bel_alloc ?_ _ | refine bel_set ?_ (by simp; omega) _ | refine bel_set ?_ (by simp) _ | refine bel_trans ?_ (by assumption)))⟩

set_option maxHeartbeats 2000000 in
theorem spec_rtv (s n d : Int) (w : World) : Calls Try.prog 13 #[.agg #[.int .i64 s, .int .i64 n, .int .i64 d]] w fun e w' => e = .returned (.bool (rtB s n d)) ∧ Below w.heap.size w w' := by
  cases hin : inB s (-1) 1
  · have HE := Lib.hid (show rtB s n d = false by simp [rtB, hin])
    go_enter Try.func13, Try.ntmps13
    go_wp2_with (go_at_call 21; refine (in_any _ _ _ _).mono ?_; rintro e w' ⟨rfl, rfl⟩)
    go_ret
    exact ⟨ret_bool HE.out.symm, (by repeat (first | exact Below.refl _ _ | assumption | refine bel_drewN ?_ _ | refine bel_drew ?_ | refine bel_alloc ?_ _ | refine bel_set ?_ (by simp; omega) _ | refine bel_set ?_ (by simp) _ | refine bel_trans ?_ (by assumption)))⟩
  · cases hr : ratB n d
    · have HE := Lib.hid (show rtB s n d = false by simp [rtB, hr])
      have HR := Lib.hid hr
      go_enter Try.func13, Try.ntmps13
      go_wp2_with (go_at_call 21; refine (in_any _ _ _ _).mono ?_; rintro e w' ⟨rfl, rfl⟩)
      refine (spec_rv _ _ _).mono ?_
      rintro e w1 ⟨rfl, hb1⟩
      have O1 := (Own.new w 26 #[.int .i64 s, .int .i64 n, .int .i64 d]).below hb1
      have L1 := bel_trans (bel_alloc (Below.refl _ _) _) hb1
      have q1 := O1.cell
      have k1 := O1.lt
      rw [HR.out]
      go_wp2_with fail
      go_ret
      exact ⟨ret_bool HE.out.symm, L1⟩
    · by_cases c3 : 0 ≤ n
      · have HE := Lib.hid (show rtB s n d = ((n == 0) == (s == 0)) by simp [rtB, hr, c3, hin])
        have HR := Lib.hid hr
        go_enter Try.func13, Try.ntmps13
        go_wp2_with (go_at_call 21; refine (in_any _ _ _ _).mono ?_; rintro e w' ⟨rfl, rfl⟩)
        refine (spec_rv _ _ _).mono ?_
        rintro e w1 ⟨rfl, hb1⟩
        have O1 := (Own.new w 26 #[.int .i64 s, .int .i64 n, .int .i64 d]).below hb1
        have L1 := bel_trans (bel_alloc (Below.refl _ _) _) hb1
        have q1 := O1.cell
        have k1 := O1.lt
        rw [HR.out]
        go_wp2_with fail
        go_ret
        exact ⟨ret_bool HE.out.symm, L1⟩
      · have HE := Lib.hid (show rtB s n d = false by simp [rtB, c3])
        have hd3 : decide (0 ≤ n) = false := decide_eq_false c3
        have HR := Lib.hid hr
        go_enter Try.func13, Try.ntmps13
        go_wp2_with (go_at_call 21; refine (in_any _ _ _ _).mono ?_; rintro e w' ⟨rfl, rfl⟩)
        refine (spec_rv _ _ _).mono ?_
        rintro e w1 ⟨rfl, hb1⟩
        have O1 := (Own.new w 26 #[.int .i64 s, .int .i64 n, .int .i64 d]).below hb1
        have L1 := bel_trans (bel_alloc (Below.refl _ _) _) hb1
        have q1 := O1.cell
        have k1 := O1.lt
        rw [HR.out]
        go_wp2_with fail
        go_ret
        exact ⟨ret_bool HE.out.symm, L1⟩

set_option maxHeartbeats 4000000 in
theorem impl_rmul (a b : Rt) (w : World) : Calls Try.prog 6 #[rtV a, rtV b] w fun e w' => e = .returned (.tuple #[rtV (mulV a b), .bool (mulB a b)]) ∧ Below w.heap.size w w' := by
  have P10 := ((Own.new w 26 #[.int .i64 a.1, .int .i64 a.2.1, .int .i64 a.2.2]).alloc (.cells #[.int .i64 b.1, .int .i64 b.2.1, .int .i64 b.2.2] 26)).alloc (.cells #[.int .i64 0, .int .i64 0, .int .i64 0] 26)
  have P20 := (Own.new (w.alloc (.cells #[.int .i64 a.1, .int .i64 a.2.1, .int .i64 a.2.2] 26)) 26 #[.int .i64 b.1, .int .i64 b.2.1, .int .i64 b.2.2]).alloc (.cells #[.int .i64 0, .int .i64 0, .int .i64 0] 26)
  have P30 := Own.new ((w.alloc (.cells #[.int .i64 a.1, .int .i64 a.2.1, .int .i64 a.2.2] 26)).alloc (.cells #[.int .i64 b.1, .int .i64 b.2.1, .int .i64 b.2.2] 26)) 26 #[.int .i64 0, .int .i64 0, .int .i64 0]
  simp only [World.size_alloc] at P10 P20 P30
  have L0 : Below w.heap.size w (((w.alloc (.cells #[.int .i64 a.1, .int .i64 a.2.1, .int .i64 a.2.2] 26)).alloc (.cells #[.int .i64 b.1, .int .i64 b.2.1, .int .i64 b.2.2] 26)).alloc (.cells #[.int .i64 0, .int .i64 0, .int .i64 0] 26)) := (by repeat (first | exact Below.refl _ _ | assumption | refine bel_drewN ?_ _ | refine bel_drew ?_ | refine bel_alloc ?_ _ | refine bel_set ?_ (by simp; omega) _ | refine bel_set ?_ (by simp) _ | refine bel_trans ?_ (by assumption)))
  cases ha : okR a
  · have HE := Lib.hid (show mulB a b = false ∧ mulV a b = (0, 0, 0) by
      have h : mulB a b = false := by simp [mulB, ha]
      exact ⟨h, by simp [mulV, h]⟩)
    have HA := Lib.hid (show rtB a.1 a.2.1 a.2.2 = false from ha)
    clear ha
    go_enter Try.func6, Try.ntmps6
    go_wp2_with fail
    generalize ((w.alloc (.cells #[.int .i64 a.1, .int .i64 a.2.1, .int .i64 a.2.2] 26)).alloc (.cells #[.int .i64 b.1, .int .i64 b.2.1, .int .i64 b.2.2] 26)).alloc (.cells #[.int .i64 0, .int .i64 0, .int .i64 0] 26) = W at *
    refine (impl_rtv _ _ _ _).mono ?_
    rintro e wa ⟨rfl, hb1⟩
    have P11 := P10.below hb1
    have P21 := P20.below hb1
    have P31 := P30.below hb1
    have L1 := bel_trans L0 hb1
    have q1 := P11.cell
    have q2 := P21.cell
    have q3 := P31.cell
    have k1 := P11.lt
    have k2 := P21.lt
    have k3 := P31.lt
    have f3 := P31.frozen
    rw [HA.out]
    go_wp2_with fail
    exact bodyPost_ret (v := .tuple #[.agg #[.int .i64 0, .int .i64 0, .int .i64 0], .bool false]) (by simp [results, Try.results6, go_sem, q3]) rfl ⟨by rw [HE.out.1, HE.out.2], (by repeat (first | exact Below.refl _ _ | assumption | refine bel_drewN ?_ _ | refine bel_drew ?_ | refine bel_alloc ?_ _ | refine bel_set ?_ (by simp; omega) _ | refine bel_set ?_ (by simp) _ | refine bel_trans ?_ (by assumption)))⟩
  cases hbb : okR b
  · have HE := Lib.hid (show mulB a b = false ∧ mulV a b = (0, 0, 0) by
      have h : mulB a b = false := by simp [mulB, hbb]
      exact ⟨h, by simp [mulV, h]⟩)
    have HA := Lib.hid (show rtB a.1 a.2.1 a.2.2 = true from ha)
    have HB := Lib.hid (show rtB b.1 b.2.1 b.2.2 = false from hbb)
    clear ha hbb
    go_enter Try.func6, Try.ntmps6
    go_wp2_with fail
    generalize ((w.alloc (.cells #[.int .i64 a.1, .int .i64 a.2.1, .int .i64 a.2.2] 26)).alloc (.cells #[.int .i64 b.1, .int .i64 b.2.1, .int .i64 b.2.2] 26)).alloc (.cells #[.int .i64 0, .int .i64 0, .int .i64 0] 26) = W at *
    refine (impl_rtv _ _ _ _).mono ?_
    rintro e wa ⟨rfl, hb1⟩
    have P11 := P10.below hb1
    have P21 := P20.below hb1
    have P31 := P30.below hb1
    have L1 := bel_trans L0 hb1
    have q1 := P11.cell
    have q2 := P21.cell
    have q3 := P31.cell
    have k1 := P11.lt
    have k2 := P21.lt
    have k3 := P31.lt
    have f3 := P31.frozen
    rw [HA.out]
    go_wp2_with fail
    refine (impl_rtv _ _ _ _).mono ?_
    rintro e wb ⟨rfl, hb2⟩
    have P12 := P11.below hb2
    have P22 := P21.below hb2
    have P32 := P31.below hb2
    have L2 := bel_trans L1 hb2
    have q1 := P12.cell
    have q2 := P22.cell
    have q3 := P32.cell
    have k1 := P12.lt
    have k2 := P22.lt
    have k3 := P32.lt
    have f3 := P32.frozen
    rw [HB.out]
    go_wp2_with fail
    exact bodyPost_ret (v := .tuple #[.agg #[.int .i64 0, .int .i64 0, .int .i64 0], .bool false]) (by simp [results, Try.results6, go_sem, q3]) rfl ⟨by rw [HE.out.1, HE.out.2], (by repeat (first | exact Below.refl _ _ | assumption | refine bel_drewN ?_ _ | refine bel_drew ?_ | refine bel_alloc ?_ _ | refine bel_set ?_ (by simp; omega) _ | refine bel_set ?_ (by simp) _ | refine bel_trans ?_ (by assumption)))⟩
  · have ha' := okR_true.1 ha
    have hb' := okR_true.1 hbb
    have HA := Lib.hid (show rtB a.1 a.2.1 a.2.2 = true from ha)
    have HB := Lib.hid (show rtB b.1 b.2.1 b.2.2 = true from hbb)
    have hmb : mulB a b = redOk (a.2.1.toNat * b.2.1.toNat) (a.2.2.toNat * b.2.2.toNat) := by simp [mulB, ha, hbb]
    have hmv : mulV a b = if redOk (a.2.1.toNat * b.2.1.toNat) (a.2.2.toNat * b.2.2.toNat) = true then (a.1 * b.1, (rn (a.2.1.toNat * b.2.1.toNat) (a.2.2.toNat * b.2.2.toNat) : Int), (rd (a.2.1.toNat * b.2.1.toNat) (a.2.2.toNat * b.2.2.toNat) : Int)) else (0, 0, 0) := by rw [← hmb]; rfl
    have ra := ratB_true.1 ha'.2.1
    have rb := ratB_true.1 hb'.2.1
    obtain ⟨⟨s1, s2⟩, r1, n1, z1⟩ := ha'
    obtain ⟨⟨t1, t2⟩, r2, n2, z2⟩ := hb'
    obtain ⟨sa, an, ad⟩ := a
    obtain ⟨bs, bn, bd⟩ := b
    dsimp only at *
    obtain ⟨an, rfl⟩ := Int.eq_ofNat_of_zero_le n1
    obtain ⟨bn, rfl⟩ := Int.eq_ofNat_of_zero_le n2
    obtain ⟨ad, rfl⟩ := Int.eq_ofNat_of_zero_le (show 0 ≤ ad by omega)
    obtain ⟨bd, rfl⟩ := Int.eq_ofNat_of_zero_le (show 0 ≤ bd by omega)
    simp only [Int.toNat_natCast] at hmb hmv
    have HM := Lib.hid (fun w => impl_rm an ad bn bd r1 r2 w)
    unfold RedEnd at HM
    have hs1 : IntKind.i64.wrap (sa * bs) = sa * bs := by
      rcases (by omega : sa = -1 ∨ sa = 0 ∨ sa = 1) with e | e | e <;> rw [e] <;> exact IntWalk.i64_in _ (by omega)
    have HMB := Lib.hid hmb
    have HMV := Lib.hid hmv
    clear hmb hmv ra rb ha hbb z1 z2 n1 n2 r1 r2
    generalize an * bn = N at *
    generalize ad * bd = D at *
    cases hro : redOk N D
    all_goals
      have HRO := Lib.hid hro
      rw [hro] at HM
      clear hro
      go_enter Try.func6, Try.ntmps6
      go_wp2_with fail
      generalize ((w.alloc (.cells #[.int .i64 sa, .int .i64 (an : Int), .int .i64 (ad : Int)] 26)).alloc (.cells #[.int .i64 bs, .int .i64 (bn : Int), .int .i64 (bd : Int)] 26)).alloc (.cells #[.int .i64 0, .int .i64 0, .int .i64 0] 26) = W at *
      refine (impl_rtv _ _ _ _).mono ?_
      rintro e wa ⟨rfl, hb1⟩
      have P11 := P10.below hb1
      have P21 := P20.below hb1
      have P31 := P30.below hb1
      have L1 := bel_trans L0 hb1
      have q1 := P11.cell
      have q2 := P21.cell
      have q3 := P31.cell
      have k1 := P11.lt
      have k2 := P21.lt
      have k3 := P31.lt
      have f3 := P31.frozen
      rw [HA.out]
      go_wp2_with fail
      refine (impl_rtv _ _ _ _).mono ?_
      rintro e wb ⟨rfl, hb2⟩
      have P12 := P11.below hb2
      have P22 := P21.below hb2
      have P32 := P31.below hb2
      have L2 := bel_trans L1 hb2
      have q1 := P12.cell
      have q2 := P22.cell
      have q3 := P32.cell
      have k1 := P12.lt
      have k2 := P22.lt
      have k3 := P32.lt
      have f3 := P32.frozen
      rw [HB.out]
      go_wp2_with fail
      refine (HM.out _).mono ?_
      rintro e wc ⟨rfl, hb3⟩
      have P13 := P12.below hb3
      have P23 := P22.below hb3
      have P33 := P32.below hb3
      have L3 := bel_trans L2 hb3
      have q1 := P13.cell
      have q2 := P23.cell
      have q3 := P33.cell
      have k1 := P13.lt
      have k2 := P23.lt
      have k3 := P33.lt
      have f3 := P33.frozen
      go_wp2_with fail
    · have OF := (((P33.set_ 0 (.int .i64 0)).set_ 1 (.int .i64 0)).set_ 2 (.int .i64 0)).alloc (.cells #[.int .i64 0, .int .i64 0] 24)
      have qF := OF.cell
      exact bodyPost_ret (v := .tuple #[.agg #[.int .i64 0, .int .i64 0, .int .i64 0], .bool false]) (by simp [results, Try.results6, go_sem, qF]) rfl ⟨by rw [HMB.out, HMV.out, HRO.out]; simp, (by repeat (first | exact Below.refl _ _ | assumption | refine bel_drewN ?_ _ | refine bel_drew ?_ | refine bel_alloc ?_ _ | refine bel_set ?_ (by simp; omega) _ | refine bel_set ?_ (by simp) _ | refine bel_trans ?_ (by assumption)))⟩
    · have OF := (((P33.set_ 0 (.int .i64 (sa * bs))).set_ 1 (.int .i64 (rn N D : Int))).set_ 2 (.int .i64 (rd N D : Int))).alloc (.cells #[.int .i64 (rn N D : Int), .int .i64 (rd N D : Int)] 24)
      have qF := OF.cell
      exact bodyPost_ret (v := .tuple #[.agg #[.int .i64 (sa * bs), .int .i64 (rn N D : Int), .int .i64 (rd N D : Int)], .bool true]) (by simp [results, Try.results6, go_sem, qF]) rfl ⟨by rw [HMB.out, HMV.out, HRO.out]; simp, (by repeat (first | exact Below.refl _ _ | assumption | refine bel_drewN ?_ _ | refine bel_drew ?_ | refine bel_alloc ?_ _ | refine bel_set ?_ (by simp; omega) _ | refine bel_set ?_ (by simp) _ | refine bel_trans ?_ (by assumption)))⟩

set_option maxHeartbeats 4000000 in
theorem spec_rmul (a b : Rt) (w : World) : Calls Try.prog 7 #[rtV a, rtV b] w fun e w' => e = .returned (.tuple #[rtV (mulV a b), .bool (mulB a b)]) ∧ Below w.heap.size w w' := by
  have P10 := ((Own.new w 26 #[.int .i64 a.1, .int .i64 a.2.1, .int .i64 a.2.2]).alloc (.cells #[.int .i64 b.1, .int .i64 b.2.1, .int .i64 b.2.2] 26)).alloc (.cells #[.int .i64 0, .int .i64 0, .int .i64 0] 26)
  have P20 := (Own.new (w.alloc (.cells #[.int .i64 a.1, .int .i64 a.2.1, .int .i64 a.2.2] 26)) 26 #[.int .i64 b.1, .int .i64 b.2.1, .int .i64 b.2.2]).alloc (.cells #[.int .i64 0, .int .i64 0, .int .i64 0] 26)
  have P30 := Own.new ((w.alloc (.cells #[.int .i64 a.1, .int .i64 a.2.1, .int .i64 a.2.2] 26)).alloc (.cells #[.int .i64 b.1, .int .i64 b.2.1, .int .i64 b.2.2] 26)) 26 #[.int .i64 0, .int .i64 0, .int .i64 0]
  simp only [World.size_alloc] at P10 P20 P30
  have L0 : Below w.heap.size w (((w.alloc (.cells #[.int .i64 a.1, .int .i64 a.2.1, .int .i64 a.2.2] 26)).alloc (.cells #[.int .i64 b.1, .int .i64 b.2.1, .int .i64 b.2.2] 26)).alloc (.cells #[.int .i64 0, .int .i64 0, .int .i64 0] 26)) := (by repeat (first | exact Below.refl _ _ | assumption | refine bel_drewN ?_ _ | refine bel_drew ?_ | refine bel_alloc ?_ _ | refine bel_set ?_ (by simp; omega) _ | refine bel_set ?_ (by simp) _ | refine bel_trans ?_ (by assumption)))
  cases ha : okR a
  · have HE := Lib.hid (show mulB a b = false ∧ mulV a b = (0, 0, 0) by
      have h : mulB a b = false := by simp [mulB, ha]
      exact ⟨h, by simp [mulV, h]⟩)
    have HA := Lib.hid (show rtB a.1 a.2.1 a.2.2 = false from ha)
    clear ha
    go_enter Try.func7, Try.ntmps7
    go_wp2_with fail
    generalize ((w.alloc (.cells #[.int .i64 a.1, .int .i64 a.2.1, .int .i64 a.2.2] 26)).alloc (.cells #[.int .i64 b.1, .int .i64 b.2.1, .int .i64 b.2.2] 26)).alloc (.cells #[.int .i64 0, .int .i64 0, .int .i64 0] 26) = W at *
    refine (spec_rtv _ _ _ _).mono ?_
    rintro e wa ⟨rfl, hb1⟩
    have P11 := P10.below hb1
    have P21 := P20.below hb1
    have P31 := P30.below hb1
    have L1 := bel_trans L0 hb1
    have q1 := P11.cell
    have q2 := P21.cell
    have q3 := P31.cell
    have k1 := P11.lt
    have k2 := P21.lt
    have k3 := P31.lt
    have f3 := P31.frozen
    rw [HA.out]
    go_wp2_with fail
    exact bodyPost_ret (v := .tuple #[.agg #[.int .i64 0, .int .i64 0, .int .i64 0], .bool false]) (by simp [results, Try.results7, go_sem, q3]) rfl ⟨by rw [HE.out.1, HE.out.2], (by repeat (first | exact Below.refl _ _ | assumption | refine bel_drewN ?_ _ | refine bel_drew ?_ | refine bel_alloc ?_ _ | refine bel_set ?_ (by simp; omega) _ | refine bel_set ?_ (by simp) _ | refine bel_trans ?_ (by assumption)))⟩
  cases hbb : okR b
  · have HE := Lib.hid (show mulB a b = false ∧ mulV a b = (0, 0, 0) by
      have h : mulB a b = false := by simp [mulB, hbb]
      exact ⟨h, by simp [mulV, h]⟩)
    have HA := Lib.hid (show rtB a.1 a.2.1 a.2.2 = true from ha)
    have HB := Lib.hid (show rtB b.1 b.2.1 b.2.2 = false from hbb)
    clear ha hbb
    go_enter Try.func7, Try.ntmps7
    go_wp2_with fail
    generalize ((w.alloc (.cells #[.int .i64 a.1, .int .i64 a.2.1, .int .i64 a.2.2] 26)).alloc (.cells #[.int .i64 b.1, .int .i64 b.2.1, .int .i64 b.2.2] 26)).alloc (.cells #[.int .i64 0, .int .i64 0, .int .i64 0] 26) = W at *
    refine (spec_rtv _ _ _ _).mono ?_
    rintro e wa ⟨rfl, hb1⟩
    have P11 := P10.below hb1
    have P21 := P20.below hb1
    have P31 := P30.below hb1
    have L1 := bel_trans L0 hb1
    have q1 := P11.cell
    have q2 := P21.cell
    have q3 := P31.cell
    have k1 := P11.lt
    have k2 := P21.lt
    have k3 := P31.lt
    have f3 := P31.frozen
    rw [HA.out]
    go_wp2_with fail
    refine (spec_rtv _ _ _ _).mono ?_
    rintro e wb ⟨rfl, hb2⟩
    have P12 := P11.below hb2
    have P22 := P21.below hb2
    have P32 := P31.below hb2
    have L2 := bel_trans L1 hb2
    have q1 := P12.cell
    have q2 := P22.cell
    have q3 := P32.cell
    have k1 := P12.lt
    have k2 := P22.lt
    have k3 := P32.lt
    have f3 := P32.frozen
    rw [HB.out]
    go_wp2_with fail
    exact bodyPost_ret (v := .tuple #[.agg #[.int .i64 0, .int .i64 0, .int .i64 0], .bool false]) (by simp [results, Try.results7, go_sem, q3]) rfl ⟨by rw [HE.out.1, HE.out.2], (by repeat (first | exact Below.refl _ _ | assumption | refine bel_drewN ?_ _ | refine bel_drew ?_ | refine bel_alloc ?_ _ | refine bel_set ?_ (by simp; omega) _ | refine bel_set ?_ (by simp) _ | refine bel_trans ?_ (by assumption)))⟩
  · have ha' := okR_true.1 ha
    have hb' := okR_true.1 hbb
    have HA := Lib.hid (show rtB a.1 a.2.1 a.2.2 = true from ha)
    have HB := Lib.hid (show rtB b.1 b.2.1 b.2.2 = true from hbb)
    have hmb : mulB a b = redOk (a.2.1.toNat * b.2.1.toNat) (a.2.2.toNat * b.2.2.toNat) := by simp [mulB, ha, hbb]
    have hmv : mulV a b = if redOk (a.2.1.toNat * b.2.1.toNat) (a.2.2.toNat * b.2.2.toNat) = true then (a.1 * b.1, (rn (a.2.1.toNat * b.2.1.toNat) (a.2.2.toNat * b.2.2.toNat) : Int), (rd (a.2.1.toNat * b.2.1.toNat) (a.2.2.toNat * b.2.2.toNat) : Int)) else (0, 0, 0) := by rw [← hmb]; rfl
    have ra := ratB_true.1 ha'.2.1
    have rb := ratB_true.1 hb'.2.1
    obtain ⟨⟨s1, s2⟩, r1, n1, z1⟩ := ha'
    obtain ⟨⟨t1, t2⟩, r2, n2, z2⟩ := hb'
    obtain ⟨sa, an, ad⟩ := a
    obtain ⟨bs, bn, bd⟩ := b
    dsimp only at *
    obtain ⟨an, rfl⟩ := Int.eq_ofNat_of_zero_le n1
    obtain ⟨bn, rfl⟩ := Int.eq_ofNat_of_zero_le n2
    obtain ⟨ad, rfl⟩ := Int.eq_ofNat_of_zero_le (show 0 ≤ ad by omega)
    obtain ⟨bd, rfl⟩ := Int.eq_ofNat_of_zero_le (show 0 ≤ bd by omega)
    simp only [Int.toNat_natCast] at hmb hmv
    have HM := Lib.hid (fun w => spec_rm an ad bn bd r1 r2 w)
    unfold RedEnd at HM
    have hs1 : IntKind.i64.wrap (sa * bs) = sa * bs := by
      rcases (by omega : sa = -1 ∨ sa = 0 ∨ sa = 1) with e | e | e <;> rw [e] <;> exact IntWalk.i64_in _ (by omega)
    have HMB := Lib.hid hmb
    have HMV := Lib.hid hmv
    clear hmb hmv ra rb ha hbb z1 z2 n1 n2 r1 r2
    generalize an * bn = N at *
    generalize ad * bd = D at *
    cases hro : redOk N D
    all_goals
      have HRO := Lib.hid hro
      rw [hro] at HM
      clear hro
      go_enter Try.func7, Try.ntmps7
      go_wp2_with fail
      generalize ((w.alloc (.cells #[.int .i64 sa, .int .i64 (an : Int), .int .i64 (ad : Int)] 26)).alloc (.cells #[.int .i64 bs, .int .i64 (bn : Int), .int .i64 (bd : Int)] 26)).alloc (.cells #[.int .i64 0, .int .i64 0, .int .i64 0] 26) = W at *
      refine (spec_rtv _ _ _ _).mono ?_
      rintro e wa ⟨rfl, hb1⟩
      have P11 := P10.below hb1
      have P21 := P20.below hb1
      have P31 := P30.below hb1
      have L1 := bel_trans L0 hb1
      have q1 := P11.cell
      have q2 := P21.cell
      have q3 := P31.cell
      have k1 := P11.lt
      have k2 := P21.lt
      have k3 := P31.lt
      have f3 := P31.frozen
      rw [HA.out]
      go_wp2_with fail
      refine (spec_rtv _ _ _ _).mono ?_
      rintro e wb ⟨rfl, hb2⟩
      have P12 := P11.below hb2
      have P22 := P21.below hb2
      have P32 := P31.below hb2
      have L2 := bel_trans L1 hb2
      have q1 := P12.cell
      have q2 := P22.cell
      have q3 := P32.cell
      have k1 := P12.lt
      have k2 := P22.lt
      have k3 := P32.lt
      have f3 := P32.frozen
      rw [HB.out]
      go_wp2_with fail
      refine (HM.out _).mono ?_
      rintro e wc ⟨rfl, hb3⟩
      have P13 := P12.below hb3
      have P23 := P22.below hb3
      have P33 := P32.below hb3
      have L3 := bel_trans L2 hb3
      have q1 := P13.cell
      have q2 := P23.cell
      have q3 := P33.cell
      have k1 := P13.lt
      have k2 := P23.lt
      have k3 := P33.lt
      have f3 := P33.frozen
      go_wp2_with fail
    · have OF := (((P33.set_ 0 (.int .i64 0)).set_ 1 (.int .i64 0)).set_ 2 (.int .i64 0)).alloc (.cells #[.int .i64 0, .int .i64 0] 24)
      have qF := OF.cell
      exact bodyPost_ret (v := .tuple #[.agg #[.int .i64 0, .int .i64 0, .int .i64 0], .bool false]) (by simp [results, Try.results7, go_sem, qF]) rfl ⟨by rw [HMB.out, HMV.out, HRO.out]; simp, (by repeat (first | exact Below.refl _ _ | assumption | refine bel_drewN ?_ _ | refine bel_drew ?_ | refine bel_alloc ?_ _ | refine bel_set ?_ (by simp; omega) _ | refine bel_set ?_ (by simp) _ | refine bel_trans ?_ (by assumption)))⟩
    · have OF := (((P33.set_ 0 (.int .i64 (sa * bs))).set_ 1 (.int .i64 (rn N D : Int))).set_ 2 (.int .i64 (rd N D : Int))).alloc (.cells #[.int .i64 (rn N D : Int), .int .i64 (rd N D : Int)] 24)
      have qF := OF.cell
      exact bodyPost_ret (v := .tuple #[.agg #[.int .i64 (sa * bs), .int .i64 (rn N D : Int), .int .i64 (rd N D : Int)], .bool true]) (by simp [results, Try.results7, go_sem, qF]) rfl ⟨by rw [HMB.out, HMV.out, HRO.out]; simp, (by repeat (first | exact Below.refl _ _ | assumption | refine bel_drewN ?_ _ | refine bel_drew ?_ | refine bel_alloc ?_ _ | refine bel_set ?_ (by simp; omega) _ | refine bel_set ?_ (by simp) _ | refine bel_trans ?_ (by assumption)))⟩

end Go.Proofs.Ytefddmfnjneegaa
