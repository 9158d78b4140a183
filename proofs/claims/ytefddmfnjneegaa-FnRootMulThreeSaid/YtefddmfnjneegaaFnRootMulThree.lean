/- Products associate: the law returns true for all bytes. No condition. -/
import Derived.Test.YtefddmfnjneegaaDrawRoot2
namespace Go.Proofs.Ytefddmfnjneegaa.fnRootMulThree
open Go.ChangeShapes Go.WideShapes Go.ChangeAt Go.RowKit Go.Deep Go.Joins
set_option linter.unusedVariables false
set_option maxRecDepth 100000

set_option maxHeartbeats 4000000 in
theorem walk (A0 : Option Addr) (n0 c0 : Nat) (W : World) (hnc : n0 ≤ c0) (hcm : c0 ≤ maxLen) (hb : Bytes W W.heap.size A0 n0) :
    Calls Try.prog 3 #[.slice A0 n0 c0] W fun e W' => e = .returned (.bool true) ∧ Below W.heap.size W W' := by
  have hcm' := hcm
  unfold maxLen at hcm'
  by_cases hn : 1048576 < n0
  · go_enter Try.func3, Try.ntmps3
    go_wp2_with fail
    go_ret
    exact ⟨rfl, (by repeat (first | exact Below.refl _ _ | assumption | refine bel_drewN ?_ _ | refine bel_drew ?_ | refine bel_alloc ?_ _ | refine bel_set ?_ (by simp; omega) _ | refine bel_set ?_ (by simp) _ | refine bel_trans ?_ (by assumption)))⟩
  · go_enter Try.func3, Try.ntmps3
    go_wp2_with fail
    refine (draw_two _ _ _ _ hnc hcm hb).mono ?_
    rintro e w1 ⟨a, b, rfl, L1⟩
    clear hb
    have HI := Lib.hid (fun w => impl_rmul a b w)
    have HS := Lib.hid (fun w => spec_rmul a b w)
    have HX := Lib.hid (show ∀ w, Calls Try.prog 6 #[rtV (mulV a b), .agg #[.int .i64 (-1), .int .i64 1, .int .i64 2]] w fun e w' => e = .returned (.tuple #[rtV (mulV (mulV a b) half), .bool (mulB (mulV a b) half)]) ∧ Below w.heap.size w w' from fun w => impl_rmul (mulV a b) half w)
    have HY := Lib.hid (show ∀ w, Calls Try.prog 6 #[rtV b, .agg #[.int .i64 (-1), .int .i64 1, .int .i64 2]] w fun e w' => e = .returned (.tuple #[rtV (mulV b half), .bool (mulB b half)]) ∧ Below w.heap.size w w' from fun w => impl_rmul b half w)
    have HZ := Lib.hid (fun w => impl_rmul a (mulV b half) w)
    have HF := Lib.hid (fun h hp hq hs => @mul_assoc3 a b h hp hq hs)
    generalize mulV a (mulV b half) = Z at *
    generalize mulB a (mulV b half) = t at *
    generalize mulV (mulV a b) half = X at *
    generalize mulB (mulV a b) half = p at *
    generalize mulV b half = Y at *
    generalize mulB b half = q at *
    generalize mulV a b = V at *
    generalize mulB a b = bb at *
    have Oa := (Own.new w1 26 #[.int .i64 a.1, .int .i64 a.2.1, .int .i64 a.2.2]).alloc (.cells #[.int .i64 b.1, .int .i64 b.2.1, .int .i64 b.2.2] 26)
    have Ob := Own.new (w1.alloc (.cells #[.int .i64 a.1, .int .i64 a.2.1, .int .i64 a.2.2] 26)) 26 #[.int .i64 b.1, .int .i64 b.2.1, .int .i64 b.2.2]
    simp only [World.size_alloc] at Ob
    have LW := bel_alloc (bel_alloc L1 (.cells #[.int .i64 a.1, .int .i64 a.2.1, .int .i64 a.2.2] 26)) (.cells #[.int .i64 b.1, .int .i64 b.2.1, .int .i64 b.2.2] 26)
    go_wp2_with fail
    refine (HI.out _).mono ?_
    rintro e w2 ⟨rfl, hbw2⟩
    have Oa_w2 := Oa.below hbw2
    have qOa := Oa_w2.cell
    have kOa := Oa_w2.lt
    have Ob_w2 := Ob.below hbw2
    have qOb := Ob_w2.cell
    have kOb := Ob_w2.lt
    have L2 := bel_trans LW hbw2
    clear Oa Ob LW hbw2
    go_wp2_with fail
    have Ov := Own.new w2 26 #[.int .i64 V.1, .int .i64 V.2.1, .int .i64 V.2.2]
    refine (HS.out _).mono ?_
    rintro e w3 ⟨rfl, hbw3⟩
    have Oa_w3 := (Oa_w2.alloc (.cells #[.int .i64 V.1, .int .i64 V.2.1, .int .i64 V.2.2] 26)).below hbw3
    have qOa := Oa_w3.cell
    have kOa := Oa_w3.lt
    have Ob_w3 := (Ob_w2.alloc (.cells #[.int .i64 V.1, .int .i64 V.2.1, .int .i64 V.2.2] 26)).below hbw3
    have qOb := Ob_w3.cell
    have kOb := Ob_w3.lt
    have Ov_w3 := Ov.below hbw3
    have qOv := Ov_w3.cell
    have kOv := Ov_w3.lt
    have L3 := bel_trans (bel_alloc L2 (.cells #[.int .i64 V.1, .int .i64 V.2.1, .int .i64 V.2.2] 26)) hbw3
    clear Oa_w2 Ob_w2 Ov L2 hbw3
    have Lz := bel_alloc L3 (.cells #[.int .i64 V.1, .int .i64 V.2.1, .int .i64 V.2.2] 26)
    cases bb
    · go_wp2_with fail
      go_ret
      exact ⟨rfl, Lz⟩
    · go_wp2_with fail
      have Oh := Own.new (w3.alloc (.cells #[.int .i64 V.1, .int .i64 V.2.1, .int .i64 V.2.2] 26)) 26 #[.int .i64 (-1), .int .i64 1, .int .i64 2]
      simp only [World.size_alloc] at Oh
      refine (HX.out _).mono ?_
      rintro e w4 ⟨rfl, hbw4⟩
      have Oa_w4 := ((Oa_w3.alloc (.cells #[.int .i64 V.1, .int .i64 V.2.1, .int .i64 V.2.2] 26)).alloc (.cells #[.int .i64 (-1), .int .i64 1, .int .i64 2] 26)).below hbw4
      have qOa := Oa_w4.cell
      have kOa := Oa_w4.lt
      have Ob_w4 := ((Ob_w3.alloc (.cells #[.int .i64 V.1, .int .i64 V.2.1, .int .i64 V.2.2] 26)).alloc (.cells #[.int .i64 (-1), .int .i64 1, .int .i64 2] 26)).below hbw4
      have qOb := Ob_w4.cell
      have kOb := Ob_w4.lt
      have Oh_w4 := Oh.below hbw4
      have qOh := Oh_w4.cell
      have kOh := Oh_w4.lt
      have L4 := bel_trans (bel_alloc Lz (.cells #[.int .i64 (-1), .int .i64 1, .int .i64 2] 26)) hbw4
      clear Oa_w3 Ob_w3 Ov_w3 L3 Lz hbw4 Oh
      have Ox := Own.new w4 26 #[.int .i64 X.1, .int .i64 X.2.1, .int .i64 X.2.2]
      go_wp2_with fail
      refine (HY.out _).mono ?_
      rintro e w5 ⟨rfl, hbw5⟩
      have Oa_w5 := (Oa_w4.alloc (.cells #[.int .i64 X.1, .int .i64 X.2.1, .int .i64 X.2.2] 26)).below hbw5
      have qOa := Oa_w5.cell
      have kOa := Oa_w5.lt
      have Ox_w5 := Ox.below hbw5
      have qOx := Ox_w5.cell
      have kOx := Ox_w5.lt
      have L5 := bel_trans (bel_alloc L4 (.cells #[.int .i64 X.1, .int .i64 X.2.1, .int .i64 X.2.2] 26)) hbw5
      clear Oa_w4 Ob_w4 Oh_w4 L4 hbw5 Ox
      go_wp2_with fail
      refine (HZ.out _).mono ?_
      rintro e w6 ⟨rfl, hbw6⟩
      have Ox_w6 := (Ox_w5.alloc (.cells #[.int .i64 Y.1, .int .i64 Y.2.1, .int .i64 Y.2.2] 26)).below hbw6
      have qOx := Ox_w6.cell
      have kOx := Ox_w6.lt
      have L6 := bel_trans (bel_alloc L5 (.cells #[.int .i64 Y.1, .int .i64 Y.2.1, .int .i64 Y.2.2] 26)) hbw6
      have hfx := HF.out (by simp)
      by_cases h3 : p = true ∧ q = true ∧ t = true
      · have e := hfx h3.1 h3.2.1 h3.2.2
        obtain ⟨rfl, rfl, rfl⟩ := h3
        subst e
        clear hfx
        go_wp2_with fail
        go_ret
        exact ⟨rfl, (by repeat (first | exact Below.refl _ _ | assumption | refine bel_drewN ?_ _ | refine bel_drew ?_ | refine bel_alloc ?_ _ | refine bel_set ?_ (by simp; omega) _ | refine bel_set ?_ (by simp) _ | refine bel_trans ?_ (by assumption)))⟩
      · clear hfx
        cases p <;> cases q <;> cases t
        all_goals first
          | exact absurd ⟨rfl, rfl, rfl⟩ h3
          | (clear h3; go_wp2_with fail; go_ret; exact ⟨rfl, (by repeat (first | exact Below.refl _ _ | assumption | refine bel_drewN ?_ _ | refine bel_drew ?_ | refine bel_alloc ?_ _ | refine bel_set ?_ (by simp; omega) _ | refine bel_set ?_ (by simp) _ | refine bel_trans ?_ (by assumption)))⟩)

set_option maxRecDepth 100000 in
theorem lifted (os : Os) (started : os.Started) (H : Type) (enc : TypeId × Value → H) :
    ReturnsInHanded {} Try.checked os 3 .any (Rows.fnRootMulThreeSpec.pre6 enc Try.prog Try.f3 Rows.fnRootMulThreeRow.domain false) (Rows.fnRootMulThreeSpec.post enc Try.prog Try.f3 false true false false) := by
  refine returnsInHanded_of_change (C := Try.checked) own started (by kernel_rfl) Try.func3
    (ChangeSpec.witness6 (enc := enc) (C := Try.checked) false ⟨#[], #[.slice none 0 0], []⟩ 8 (by kernel_rfl) (by kernel_rfl) (by kernel_rfl) (by kernel_rfl)) ?_
  intro W base args ds gs before hval0 hW hcnd _
  have hval : ∀ (j : Nat) t v, Try.f3.params[j]? = some t → args[j]? = some v → Value.okWide Try.prog W .any base t v := hval0
  have hW' := hW
  have hlt := hW.lt
  obtain ⟨p, q, hA0, hV, rfl, hfz, hnd⟩ := hW
  have hA : DataW.TrodAll enc Try.prog W 0 (fun _ => true) true Try.f3.params.toList args.toList ds p := hA0
  rw [Try.params3] at hA hval
  obtain ⟨v0, vs0, d0, ds0, p0, q0, hargs, rfl, rfl, h0, r0⟩ := trodAll_cons hA
  obtain ⟨rfl, rfl, rfl⟩ := trodAll_nil r0
  obtain rfl : args = #[v0] := by cases args; simp_all
  obtain ⟨rfl, rfl⟩ := trodVars_none hV
  clear hA0 hval0 hA hfz hnd
  obtain ⟨a0, n0, c0, rfl, hnc0, hcm0, hb0⟩ := open_bytes Try.underlying22 Try.underlying5 (by kernel_rfl) (hval 0 22 v0 rfl rfl) h0 (fun x hx => hlt x (by simp [hx]))
  exact law_close laidOut (by kernel_rfl) rfl Try.underlying4 rfl rfl hW' (walk a0 n0 c0 W hnc0 hcm0 hb0)

theorem over : Rows.fnRootMulThreeRow.holds Try.pinned (OpenSpec.ofChange Rows.fnRootMulThreeSpec) :=
  OpenClaim.holds_of_wide 3 Try.f3 rfl rfl rfl rfl rfl rfl rfl ⟨rfl, rfl, rfl, rfl, rfl⟩ rfl rfl rfl rfl rfl (by kernel_rfl) Try.func3 (by kernel_rfl)
    (of_decide_eq_true (by kernel_rfl)) (by unfold Func.isWrapper; first | (rw [if_pos (by decide +kernel)]; kernel_rfl) | (rw [if_neg (by decide +kernel)]; exact ⟨rfl, rfl⟩))
    (fun os started H enc _ => lifted os started H enc)

theorem proved : Rows.FnRootMulThreeSaid := over

end Go.Proofs.Ytefddmfnjneegaa.fnRootMulThree
